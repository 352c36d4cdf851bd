/-
  slices.Insert of one element into an own row that is lent: a new row is left.
-/
import Derived.Test.YtjbgafbijamckaaGreatDoorIn0
import Derived.Test.YtjbgafbijamckaaGreatDoorDl1
namespace Go.Proofs.YtjbgafbijamckaaGreatDoor
open Go.RowKit
set_option linter.unusedVariables false
set_option linter.unusedSimpArgs false
namespace ins
open dl
/-- What an Insert of one element leaves, B the block that may be written. -/
structure InsR (w : World) (B n i s e : Nat) (g h : Nat → Value) (x : Value) (w' : World) : Prop where
  ex : ∃ b' c' g', x = .slice (some ⟨b', 0, none⟩) (n + 1) c' ∧ n + 1 ≤ c' ∧ c' ≤ 9223372036854775807 ∧ w'.rowIs b' e (c' * s) g' ∧ (∀ k, k < (n + 1) * s → g' k = if k < i * s then g k else if k < (i + 1) * s then h (k - i * s) else g (k - s)) ∧ (b' = B ∨ b' = w.heap.size)
  blk : ∀ k, k < w.heap.size → k ≠ B → w'.heap[k]? = w.heap[k]?
  os : w'.os = w.os
  tape : w'.tape = w.tape
  output : w'.output = w.output
  size : w.heap.size ≤ w'.heap.size
theorem val_in {s i n : Nat} (hin : i ≤ n) (f g h : Nat → Value) (hf : ∀ k, k < i * s → f k = g k) (k : Nat) (hk : k < (n + 1) * s) :
    (if i * s ≤ k ∧ k < i * s + (tl s 0 1 h).length then (tl s 0 1 h)[k - i * s]?.getD default else if (i + 1) * s ≤ k ∧ k < (i + 1) * s + (tl s i n g).length then (tl s i n g)[k - (i + 1) * s]?.getD default else f k) = if k < i * s then g k else if k < (i + 1) * s then h (k - i * s) else g (k - s) := by
  have e1 : (i + 1) * s = i * s + s := Nat.succ_mul i s
  have e2 : (n + 1) * s = n * s + s := Nat.succ_mul n s
  have e3 : (n - i) * s = n * s - i * s := Nat.sub_mul n i s
  have e4 : i * s ≤ n * s := Nat.mul_le_mul_right s hin
  have e5 : (1 - 0) * s = s := Nat.one_mul s
  simp only [tl_len, e5]
  by_cases h1 : k < i * s
  · rw [if_neg (by omega), if_neg (by omega), if_pos h1, hf k h1]
  · by_cases h2 : k < (i + 1) * s
    · rw [if_pos (by omega), if_neg h1, if_pos h2, tl_get s 0 1 h (by omega)]
      simp
    · rw [if_neg (by omega), if_pos (by omega), if_neg h1, if_neg h2, tl_get s i n g (by omega)]
      simp only [Option.getD_some]
      congr 1
      omega
theorem val_in' {s i n : Nat} (hin : i ≤ n) (f g h : Nat → Value) (hf : ∀ k, k < i * s → f k = g k) (k : Nat) (hk : k < (n + 1) * s) :
    (if (i + 1) * s ≤ k ∧ k < (i + 1) * s + (tl s i n g).length then (tl s i n g)[k - (i + 1) * s]?.getD default else if i * s ≤ k ∧ k < i * s + (tl s 0 1 h).length then (tl s 0 1 h)[k - i * s]?.getD default else f k) = if k < i * s then g k else if k < (i + 1) * s then h (k - i * s) else g (k - s) := by
  rw [← val_in hin f g h hf k hk]
  have e1 : (i + 1) * s = i * s + s := Nat.succ_mul i s
  have e5 : (1 - 0) * s = s := Nat.one_mul s
  simp only [tl_len, e5]
  by_cases h2 : (i + 1) * s ≤ k ∧ k < (i + 1) * s + (n - i) * s
  · rw [if_pos h2, if_neg (by omega), if_pos h2]
  · rw [if_neg h2, if_neg h2]
theorem InsR.shift {w : World} {b c n i s e : Nat} {g h : Nat → Value} (hi : i < n) (hroom : n + 1 ≤ c) (hm : c ≤ 9223372036854775807) (hR : w.rowIs b e (c * s) g) :
    InsR w b n i s e g h (.slice (some ⟨b, 0, none⟩) (n + 1) c) ((w.drew.setCells b ((i + 1) * s) (tl s i n g)).setCells b (i * s) (tl s 0 1 h)) where
  ex := ⟨b, c, _, rfl, hroom, hm, rowIs_setCells _ _ _ _ (rowIs_setCells _ _ _ _ (row_drew hR)), fun k hk => val_in (by omega) g g h (fun _ _ => rfl) k hk, .inl rfl⟩
  blk := fun k hk hne => by
    rw [World.heap_setCells_other _ _ _ _ (by rw [size_set]; exact hk) hne, World.heap_setCells_other _ _ _ _ (by exact hk) hne]
    rfl
  os := by rw [World.os_setCells, World.os_setCells]; rfl
  tape := by rw [tape_set, tape_set]; rfl
  output := by rw [World.output_setCells, World.output_setCells]; rfl
  size := by rw [size_set, size_set]; exact Nat.le_refl _
theorem alloc_row (w : World) (ROW : Array Value) (e n : Nat) (hn : ROW.size = n) : (w.alloc (.cells ROW e)).rowIs w.heap.size e n (fun k => ROW[k]?.getD default) := by
  have := World.rowIs_alloc w ROW e (fun k => ROW[k]?.getD default) (fun k hk => by rw [Array.getElem?_eq_getElem hk]; rfl)
  rwa [hn] at this
theorem alloc_blk (w : World) (o : Obj) (k : Nat) (hk : k < w.heap.size) : (w.alloc o).heap[k]? = w.heap[k]? := by
  show (w.heap.push o)[k]? = _
  rw [Array.getElem?_push_lt hk, Array.getElem?_eq_getElem hk]
theorem alloc_size (w : World) (o : Obj) : (w.alloc o).heap.size = w.heap.size + 1 := by
  show (w.heap.push o).size = _
  simp
theorem InsR.grow {w : World} {B n i s e G : Nat} {ROW : Array Value} {g h : Nat → Value} (hi : i < n) (hG : n + 1 ≤ G) (hm : G ≤ maxLen) (hRs : ROW.size = G * s) (hRg : ∀ k, k < i * s → ROW[k]? = some (g k)) :
    InsR w B n i s e g h (.slice (some ⟨w.heap.size, 0, none⟩) (n + 1) G) ((((w.alloc (.cells ROW e)).drew.setCells w.heap.size (i * s) (tl s 0 1 h)).drew).setCells w.heap.size ((i + 1) * s) (tl s i n g)) where
  ex := ⟨w.heap.size, G, _, rfl, hG, by unfold maxLen at hm; omega, rowIs_setCells _ _ _ _ (row_drew (rowIs_setCells _ _ _ _ (row_drew (alloc_row w ROW e _ hRs)))), fun k hk => val_in' (Nat.le_of_lt hi) (fun k => ROW[k]?.getD default) g h (fun k hk => by show ROW[k]?.getD default = _; rw [hRg k hk]; rfl) k hk, .inr rfl⟩
  blk := fun k hk hne => by
    rw [World.heap_setCells_other _ _ _ _ (by show k < (((w.alloc (.cells ROW e)).drew.setCells w.heap.size (i * s) (tl s 0 1 h))).heap.size; rw [size_set]; show k < (w.alloc (.cells ROW e)).heap.size; rw [alloc_size]; omega) (by omega)]
    show ((w.alloc (.cells ROW e)).drew.setCells w.heap.size (i * s) (tl s 0 1 h)).heap[k]? = _
    rw [World.heap_setCells_other _ _ _ _ (by show k < (w.alloc (.cells ROW e)).heap.size; rw [alloc_size]; omega) (by omega)]
    exact alloc_blk w _ k hk
  os := by rw [World.os_setCells]; show ((w.alloc (.cells ROW e)).drew.setCells w.heap.size (i * s) (tl s 0 1 h)).os = _; rw [World.os_setCells]; rfl
  tape := by rw [tape_set]; show ((w.alloc (.cells ROW e)).drew.setCells w.heap.size (i * s) (tl s 0 1 h)).tape = _; rw [tape_set]; rfl
  output := by rw [World.output_setCells]; show ((w.alloc (.cells ROW e)).drew.setCells w.heap.size (i * s) (tl s 0 1 h)).output = _; rw [World.output_setCells]; rfl
  size := by
    rw [size_set]
    show w.heap.size ≤ ((w.alloc (.cells ROW e)).drew.setCells w.heap.size (i * s) (tl s 0 1 h)).heap.size
    rw [size_set]
    show w.heap.size ≤ (w.alloc (.cells ROW e)).heap.size
    rw [alloc_size]
    omega
theorem InsR.endroom {w : World} {b c n s e : Nat} {g h : Nat → Value} (hroom : n + 1 ≤ c) (hm : c ≤ 9223372036854775807) (hR : w.rowIs b e (c * s) g) :
    InsR w b n n s e g h (.slice (some ⟨b, 0, none⟩) (n + 1) c) (w.setCells b (n * s) (tl s 0 1 h)) where
  ex := ⟨b, c, _, rfl, hroom, hm, rowIs_setCells _ _ _ _ hR, fun k hk => by
    rw [← val_in (Nat.le_refl n) g g h (fun _ _ => rfl) k hk]
    have e1 : (n + 1) * s = n * s + s := Nat.succ_mul n s
    have e5 : (1 - 0) * s = s := Nat.one_mul s
    simp only [tl_len, e5]
    by_cases h1 : n * s ≤ k ∧ k < n * s + s
    · rw [if_pos h1, if_pos h1]
    · rw [if_neg h1, if_neg h1, if_neg (by omega)], .inl rfl⟩
  blk := fun k hk hne => World.heap_setCells_other _ _ _ _ hk hne
  os := World.os_setCells _ _ _ _
  tape := tape_set _ _ _ _
  output := World.output_setCells _ _ _ _
  size := by rw [size_set]; exact Nat.le_refl _
theorem InsR.endgrow {w : World} {B n s e G : Nat} {ROW : Array Value} {g h : Nat → Value} (hG : n + 1 ≤ G) (hm : G ≤ maxLen) (hRs : ROW.size = G * s) (hRg : ∀ k, k < n * s → ROW[k]? = some (g k)) (hRh : ∀ k, k < s → ROW[n * s + k]? = some (h k)) :
    InsR w B n n s e g h (.slice (some ⟨w.heap.size, 0, none⟩) (n + 1) G) (w.drew.alloc (.cells ROW e)) where
  ex := ⟨w.heap.size, G, _, rfl, hG, by unfold maxLen at hm; omega, alloc_row w.drew ROW e _ hRs, fun k hk => by
    have e1 : (n + 1) * s = n * s + s := Nat.succ_mul n s
    show ROW[k]?.getD default = _
    by_cases h1 : k < n * s
    · rw [if_pos h1, hRg k h1]; rfl
    · rw [if_neg h1, if_pos hk]
      have := hRh (k - n * s) (by omega)
      rw [show n * s + (k - n * s) = k by omega] at this
      rw [this]; rfl, .inr rfl⟩
  blk := fun k hk hne => alloc_blk w.drew _ k hk
  os := rfl
  tape := rfl
  output := rfl
  size := by rw [alloc_size]; exact Nat.le_succ _
section
variable {κ : Type} {X : Cx κ}
theorem rep_own {M : Nat → Nat → Prop} {β : Bt} {w : World} {l s n b c : Nat} {x : Value} (h : Rep X.V M w β (.own l s 0 n) x) (hβ : β l = some (some (b, c))) : x = .slice (some ⟨b, 0, none⟩) n c := by
  generalize hN : n = m at h
  cases h with
  | own h _ _ =>
    rw [hβ] at h
    injection h with h
    injection h with h
    injection h with h1 h2
    subst h1 h2
    simp
  | ownE ho _ _ => exact absurd ho (Nat.lt_irrefl _)
  | ownNil h => rw [hβ] at h; cases h
theorem rep_nil {M : Nat → Nat → Prop} {β : Bt} {w : World} {l s n : Nat} {x : Value} (h : Rep X.V M w β (.own l s 0 n) x) (hβ : β l = some none) : x = .slice none 0 0 := by
  generalize hN : n = m at h
  cases h with
  | own h _ _ => rw [hβ] at h; cases h
  | ownE ho _ _ => exact absurd ho (Nat.lt_irrefl _)
  | ownNil h => rfl
theorem row_of {w : World} {b e c s : Nat} {arr : Array Value} (hA : w.heap[b]? = some (.cells arr e (0, 0))) (hsz : arr.size = c * s) : w.rowIs b e (c * s) (fun k => arr.getD k undef) := ⟨arr, hA, hsz, fun k hk => by
  have hk' : k < arr.size := by omega
  simp [Array.getD, hk']⟩
theorem one_of {s n : Nat} {arr : Array Value} (hpos : 0 < s) (hcell : ∀ i j, i < n → j < s → (arr.getD (i * s + j) undef).oneCell' = true) : ∀ k, k < n * s → (arr.getD k undef).oneCell' = true := fun k hk => by
  have h3 := hcell (k / s) (k % s) (Nat.div_lt_of_lt_mul (by rw [Nat.mul_comm]; exact hk)) (Nat.mod_lt _ hpos)
  rwa [Nat.div_add_mod'] at h3
theorem SpH.ins {f : FuncId} {e s : Nat} (hs : (X.T e).size = s) (hpos : 0 < s) (hE : Ent X.P f) (n i : Nat) (hi : i ≤ n) (F V : Nat → Nat → D κ) (hby : (n + 1) * (X.T e).bytes ≤ 140737488355328)
    (hc : ∀ b c vb vc g h w, w.rowIs b e (c * s) g → w.rowIs vb e (vc * s) h → vb ≠ b → 1 ≤ vc → (∀ k, k < n * s → (g k).oneCell' = true) → (∀ k, k < 1 * s → (h k).oneCell' = true) → n ≤ c → c ≤ 9223372036854775807 →
      Calls X.P f #[.slice (some ⟨b, 0, none⟩) n c, .int .i64 i, .slice (some ⟨vb, 0, none⟩) 1 vc] w fun e' w' => ∃ x, e' = .returned x ∧ InsR w b n i s e g h x w')
    (hnil : n = 0 → ∀ vb vc g h w, w.rowIs vb e (vc * s) h → 1 ≤ vc → (∀ k, k < 1 * s → (h k).oneCell' = true) →
      Calls X.P f #[.slice none 0 0, .int .i64 i, .slice (some ⟨vb, 0, none⟩) 1 vc] w fun e' w' => ∃ x, e' = .returned x ∧ InsR w w.heap.size n i s e g h x w') :
    SpH X f [.own 2000 s 0 n, .v (.int .i64 i), .own 2001 s 0 1] [(2000, .row e n F), (2001, .row e 1 V)] (.own 2002 s 0 (n + 1)) [(2002, .row e (n + 1) (fun k j => if k < i then F k j else if k = i then V 0 j else F (k - 1) j))] := by
  subst hs
  refine ⟨hE, fun M β w vs hG hMG hM hl hrr hH hb => ?_⟩
  have h0 := hrr 0 _ rfl
  have h1 := (hrr 1 _ rfl).val.1
  have h2 := hrr 2 _ rfl
  have m0 : ((2000, .row e n F) : Nat × Ob κ) ∈ [(2000, (.row e n F : Ob κ)), (2001, .row e 1 V)] := List.mem_cons_self
  have m1 : ((2001, .row e 1 V) : Nat × Ob κ) ∈ [(2000, (.row e n F : Ob κ)), (2001, .row e 1 V)] := List.mem_cons_of_mem _ List.mem_cons_self
  obtain ⟨hk, ho⟩ := (hH.ob 2000 _ m0).2
  obtain ⟨_, hv⟩ := (hH.ob 2001 _ m1).2
  rcases hv with ⟨_, hn0⟩ | ⟨vb, vc, varr, hβv, hAv, hszv, hncv, hcmv, _, hcellv, hvisv⟩
  · omega
  have e2 := rep_own h2 hβv
  have hRv := row_of hAv hszv
  have h1v := one_of hpos (fun i j hi hj => (hcellv i j hi hj).1)
  have evs : ∀ x, vs.getD 0 undef = x → vs = #[x, .int .i64 i, .slice (some ⟨vb, 0, none⟩) 1 vc] := fun x e0 => by
    have hl : vs.size = 3 := hl
    apply Array.ext
    · simpa using hl
    · intro k q1 q2
      have hk : k < 3 := by omega
      match k, hk with
      | 0, _ => simpa [Array.getD, q1] using e0
      | 1, _ => simpa [Array.getD, q1] using h1
      | 2, _ => simpa [Array.getD, q1] using e2
  have key : ∃ B g, (B = w.heap.size ∨ (blocks β [(2000, (.row e n F : Ob κ)), (2001, .row e 1 V)] B ∧ ∀ o, ¬ M B o)) ∧ (∀ k j, k < n → j < (X.T e).size → (g (k * (X.T e).size + j)).oneCell' = true ∧ Rep X.V M w b0 (F k j) (g (k * (X.T e).size + j))) ∧
      Calls X.P f vs w fun e' w' => ∃ x, e' = .returned x ∧ InsR w B n i (X.T e).size e g (fun k => varr.getD k undef) x w' := by
    rcases ho with ⟨hβ, hn0⟩ | ⟨b, c, arr, hβ, hA, hsz, hnc, hcm, _, hcell, hvis⟩
    · rw [evs _ (rep_nil h0 hβ)]
      exact ⟨w.heap.size, fun _ => undef, .inl rfl, fun k j hk _ => absurd hk (by omega), hnil hn0 vb vc _ _ w hRv hncv h1v⟩
    · rw [evs _ (rep_own h0 hβ)]
      refine ⟨b, fun k => arr.getD k undef, .inr ⟨⟨2000, _, c, m0, hβ⟩, fun o => hvis o⟩, hcell, hc b c vb vc _ _ w (row_of hA hsz) hRv (fun h => ?_) hncv (one_of hpos (fun i j hi hj => (hcell i j hi hj).1)) h1v hnc hcm⟩
      subst h
      have := hH.ap 2000 _ 2001 _ vb c vc m0 m1 hβ hβv
      omega
  obtain ⟨B, g, hB, hgF, hcall⟩ := key
  refine hcall.mono ?_
  rintro e' w' ⟨x, rfl, hR⟩
  obtain ⟨b', c', g', rfl, hn', hc', hrow, hval, hb'⟩ := hR.ex
  have hvB : ∀ o, ¬ M B o := fun o hm => by
    rcases hB with h | ⟨_, h⟩
    · have := hM _ _ hm; omega
    · exact h o hm
  have hrep : ∀ {d : D κ} {x : Value}, Rep X.V M w b0 d x → Rep X.V M w' b0 d x := fun h => h.mono (fun _ _ h => h) (fun b2 o hm => by
    have := hR.blk b2 (hM _ _ hm) (fun e => hvB o (e ▸ hm))
    unfold World.cell?
    rw [this])
  have hβ' : (fun l => if l = 2002 then some (some (b', c')) else β l : Bt) 2002 = some (some (b', c')) := by simp
  refine ⟨_, M, fun l => if l = 2002 then some (some (b', c')) else β l, rfl, ⟨hR.os, hR.tape, hR.output, hR.size, fun k hk hs => hR.blk k hk (fun h => ?_)⟩, fun l o hm => ?_, fun _ _ h => h, fun _ _ h => .inl h, ?_, ⟨fun l o hm => ?_, fun l o l' o' b1 c1 c2 hm hm' q1 q2 => ?_⟩, fun b2 hb2 => ?_⟩
  · rcases hB with h' | ⟨h', _⟩
    · omega
    · exact hs (h ▸ h')
  · simp only [List.mem_cons, List.not_mem_nil, or_false, Prod.mk.injEq] at hm
    rcases hm with ⟨rfl, _⟩ | ⟨rfl, _⟩ <;> simp
  · have := Rep.own (V := X.V) (M := M) (w := w') (β := fun l => if l = 2002 then some (some (b', c')) else β l) (l := 2002) (s := (X.T e).size) (o := 0) (n := n + 1) hβ' (by omega) hc'
    simpa using this
  · obtain ⟨rfl, rfl⟩ := Prod.mk.inj (List.mem_singleton.1 hm)
    obtain ⟨arr', q1, q2, q3⟩ := hrow
    refine ⟨rfl, hk, .inr ⟨b', c', arr', hβ', q1, q2, hn', hc', hby, fun k j hk2 hj => ?_, fun o hm => ?_⟩⟩
    · have e1 : (k + 1) * (X.T e).size = k * (X.T e).size + (X.T e).size := Nat.succ_mul _ _
      have e1' : (n + 1) * (X.T e).size ≤ c' * (X.T e).size := Nat.mul_le_mul_right _ hn'
      have e3 : (k + 1) * (X.T e).size ≤ (n + 1) * (X.T e).size := Nat.mul_le_mul_right _ hk2
      have e4 : (i + 1) * (X.T e).size = i * (X.T e).size + (X.T e).size := Nat.succ_mul _ _
      have hx : arr'.getD (k * (X.T e).size + j) undef = g' (k * (X.T e).size + j) := by
        rw [Array.getD_eq_getD_getElem?, q3 _ (by omega)]
        rfl
      rw [hx, hval _ (by omega)]
      by_cases h1 : k < i
      · have e5 : (k + 1) * (X.T e).size ≤ i * (X.T e).size := Nat.mul_le_mul_right _ h1
        rw [if_pos (by omega)]
        simp only [if_pos h1]
        exact ⟨(hgF k j (by omega) hj).1, hrep (hgF k j (by omega) hj).2⟩
      · have e5 : i * (X.T e).size ≤ k * (X.T e).size := Nat.mul_le_mul_right _ (by omega)
        rw [if_neg (by omega)]
        simp only [if_neg h1]
        by_cases h2 : k = i
        · subst h2
          rw [if_pos (by omega)]
          simp only [if_pos rfl]
          have := hcellv 0 j (by omega) hj
          rw [show k * (X.T e).size + j - k * (X.T e).size = 0 * (X.T e).size + j by omega]
          exact ⟨this.1, hrep this.2⟩
        · have e6 : (i + 1) * (X.T e).size ≤ k * (X.T e).size := Nat.mul_le_mul_right _ (by omega)
          rw [if_neg (by omega)]
          simp only [if_neg h2]
          obtain ⟨k, rfl⟩ : ∃ k', k = k' + 1 := ⟨k - 1, by omega⟩
          have e7 : (k + 1) * (X.T e).size = k * (X.T e).size + (X.T e).size := Nat.succ_mul _ _
          have := hgF k j (by omega) hj
          rw [show (k + 1) * (X.T e).size + j - (X.T e).size = k * (X.T e).size + j by omega]
          exact ⟨this.1, hrep this.2⟩
    · rcases hb' with h | h
      · exact hvB o (h ▸ hm)
      · have := hM _ _ hm
        omega
  · obtain ⟨rfl, _⟩ := Prod.mk.inj (List.mem_singleton.1 hm)
    obtain ⟨rfl, _⟩ := Prod.mk.inj (List.mem_singleton.1 hm')
    rfl
  · obtain ⟨l, o, c2, hm, hβ2⟩ := hb2
    obtain ⟨rfl, _⟩ := Prod.mk.inj (List.mem_singleton.1 hm)
    rw [hβ'] at hβ2
    injection hβ2 with hβ2
    injection hβ2 with hβ2
    injection hβ2 with hβ2 _
    subst hβ2
    rcases hb' with h | h
    · rcases hB with h' | ⟨h', _⟩
      · exact .inr (by omega)
      · exact .inl (h ▸ h')
    · exact .inr (by omega)
end
theorem insV_raw (b n c i vb vc : Nat) (g h : Nat → Value) (w : World) (hi : i ≤ n) (hbig : (n + 1) * 88 ≤ 140737488355328) (hR : w.rowIs b 25 (c * 6) g) (hX : w.rowIs vb 25 (vc * 6) h) (hne : vb ≠ b) (hvc : 1 ≤ vc) (h1 : ∀ k, k < n * 6 → (g k).oneCell' = true) (h2 : ∀ k, k < 1 * 6 → (h k).oneCell' = true) (hnc : n ≤ c) (hm : c ≤ 9223372036854775807) :
    Calls Tryz.prog 47 #[.slice (some ⟨b, 0, none⟩) n c, .int .i64 i, .slice (some ⟨vb, 0, none⟩) 1 vc] w fun e' w' => ∃ x, e' = .returned x ∧ InsR w b n i 6 25 g h x w' := by
  rcases Nat.lt_or_ge i n with hin | hge
  · by_cases hroom : n + 1 ≤ c
    · refine (insV_shift b n c i vb 1 vc g h w (by omega) hR hX hvc hne h1 h2 hin hroom hm).mono ?_
      rintro e' w' ⟨rfl, rfl⟩
      exact ⟨_, rfl, by simpa only [Nat.mul_one] using InsR.shift (s := 6) (h := h) hin hroom hm hR⟩
    · refine (insV_grow b n c i vb 1 vc g h w (by omega) hR hX hvc h1 h2 hin hnc (by omega) hm hbig).mono ?_
      rintro e' w' ⟨G, ROW, q1, q2, q3, q4, rfl, rfl⟩
      exact ⟨_, rfl, by simpa only [Nat.mul_one] using InsR.grow (B := b) (s := 6) (e := 25) (h := h) hin q1 q2 q3 q4⟩
  · obtain rfl : i = n := by omega
    by_cases hroom : i + 1 ≤ c
    · refine (insV_endroom b i c vb 1 vc g h w (by omega) hR hX hvc h2 hroom hm).mono ?_
      rintro e' w' ⟨rfl, rfl⟩
      exact ⟨_, rfl, InsR.endroom hroom hm hR⟩
    · refine (insV_endgrow b i c vb 1 vc g h w (by omega) hR hX hvc h2 hnc (by omega) hbig).mono ?_
      rintro e' w' ⟨G, ROW, q1, q2, q3, q4, q5, rfl, rfl⟩
      exact ⟨_, rfl, InsR.endgrow q1 q2 q3 q4 (fun k hk => q5 k (by omega))⟩
theorem insV_raw0 (vb vc : Nat) (g h : Nat → Value) (w : World) (hX : w.rowIs vb 25 (vc * 6) h) (hvc : 1 ≤ vc) (h2 : ∀ k, k < 1 * 6 → (h k).oneCell' = true) :
    Calls Tryz.prog 47 #[.slice none 0 0, .int .i64 (0 : Nat), .slice (some ⟨vb, 0, none⟩) 1 vc] w fun e' w' => ∃ x, e' = .returned x ∧ InsR w w.heap.size 0 0 6 25 g h x w' := by
  refine (insV_endnil vb 1 vc h w (by omega) hX hvc h2 (by omega)).mono ?_
  rintro e' w' ⟨G, ROW, q1, q2, q3, q5, rfl, rfl⟩
  exact ⟨_, rfl, InsR.endgrow q1 q2 q3 (fun k hk => absurd hk (by omega)) (fun k hk => by rw [Nat.zero_mul, Nat.zero_add]; exact q5 k (by omega))⟩
theorem insS_raw (b n c i vb vc : Nat) (g h : Nat → Value) (w : World) (hi : i ≤ n) (hbig : (n + 1) * 16 ≤ 140737488355328) (hR : w.rowIs b 9 (c * 1) g) (hX : w.rowIs vb 9 (vc * 1) h) (hne : vb ≠ b) (hvc : 1 ≤ vc) (h1 : ∀ k, k < n * 1 → (g k).oneCell' = true) (h2 : ∀ k, k < 1 * 1 → (h k).oneCell' = true) (hnc : n ≤ c) (hm : c ≤ 9223372036854775807) :
    Calls Tryz.prog 46 #[.slice (some ⟨b, 0, none⟩) n c, .int .i64 i, .slice (some ⟨vb, 0, none⟩) 1 vc] w fun e' w' => ∃ x, e' = .returned x ∧ InsR w b n i 1 9 g h x w' := by
  rcases Nat.lt_or_ge i n with hin | hge
  · by_cases hroom : n + 1 ≤ c
    · refine (insS_shift b n c i vb 1 vc g h w (by omega) hR hX hvc hne h1 h2 hin hroom hm).mono ?_
      rintro e' w' ⟨rfl, rfl⟩
      exact ⟨_, rfl, by simpa only [Nat.mul_one] using InsR.shift (s := 1) (h := h) hin hroom hm hR⟩
    · refine (insS_grow b n c i vb 1 vc g h w (by omega) hR hX hvc h1 h2 hin hnc (by omega) hm hbig).mono ?_
      rintro e' w' ⟨G, ROW, q1, q2, q3, q4, rfl, rfl⟩
      exact ⟨_, rfl, by simpa only [Nat.mul_one] using InsR.grow (B := b) (s := 1) (e := 9) (h := h) hin q1 q2 q3 q4⟩
  · obtain rfl : i = n := by omega
    by_cases hroom : i + 1 ≤ c
    · refine (insS_endroom b i c vb 1 vc g h w (by omega) hR hX hvc h2 hroom hm).mono ?_
      rintro e' w' ⟨rfl, rfl⟩
      exact ⟨_, rfl, InsR.endroom hroom hm hR⟩
    · refine (insS_endgrow b i c vb 1 vc g h w (by omega) hR hX hvc h2 hnc (by omega) hbig).mono ?_
      rintro e' w' ⟨G, ROW, q1, q2, q3, q4, q5, rfl, rfl⟩
      exact ⟨_, rfl, InsR.endgrow q1 q2 q3 q4 (fun k hk => q5 k (by omega))⟩
theorem insS_raw0 (vb vc : Nat) (g h : Nat → Value) (w : World) (hX : w.rowIs vb 9 (vc * 1) h) (hvc : 1 ≤ vc) (h2 : ∀ k, k < 1 * 1 → (h k).oneCell' = true) :
    Calls Tryz.prog 46 #[.slice none 0 0, .int .i64 (0 : Nat), .slice (some ⟨vb, 0, none⟩) 1 vc] w fun e' w' => ∃ x, e' = .returned x ∧ InsR w w.heap.size 0 0 1 9 g h x w' := by
  refine (insS_endnil vb 1 vc h w (by omega) hX hvc h2 (by omega)).mono ?_
  rintro e' w' ⟨G, ROW, q1, q2, q3, q5, rfl, rfl⟩
  exact ⟨_, rfl, InsR.endgrow q1 q2 q3 (fun k hk => absurd hk (by omega)) (fun k hk => by rw [Nat.zero_mul, Nat.zero_add]; exact q5 k (by omega))⟩
section
variable (E : Env)
theorem insV_at (n i : Nat) (hi : i ≤ n) (hbig : (n + 1) * 88 ≤ 140737488355328) (F V : Nat → Nat → DD) : SpH (cx Tryz.prog mixed tyT_ok E) 47 [.own 2000 6 0 n, i64 i, .own 2001 6 0 1] [(2000, .row 25 n F), (2001, .row 25 1 V)] (.own 2002 6 0 (n + 1)) [(2002, .row 25 (n + 1) (fun k j => if k < i then F k j else if k = i then V 0 j else F (k - 1) j))] :=
  SpH.ins (X := (cx Tryz.prog mixed tyT_ok E)) (e := 25) (s := 6) (by kernel_rfl) (by omega) ⟨_, _, Tryz.func47, by kernel_rfl, rfl⟩ n i hi F V (Nat.le_trans (Nat.le_of_eq (congrArg ((n + 1) * ·) (by kernel_rfl))) hbig) (fun b c vb vc g h w hR hX hne hvc h1 h2 hnc hm => insV_raw b n c i vb vc g h w hi hbig hR hX hne hvc h1 h2 hnc hm) (fun h0 vb vc g h w hX hvc h2 => by
    subst h0
    obtain rfl : i = 0 := by omega
    exact insV_raw0 vb vc g h w hX hvc h2)
theorem insS_at (n i : Nat) (hi : i ≤ n) (hbig : (n + 1) * 16 ≤ 140737488355328) (F V : Nat → Nat → DD) : SpH (cx Tryz.prog mixed tyT_ok E) 46 [.own 2000 1 0 n, i64 i, .own 2001 1 0 1] [(2000, .row 9 n F), (2001, .row 9 1 V)] (.own 2002 1 0 (n + 1)) [(2002, .row 9 (n + 1) (fun k j => if k < i then F k j else if k = i then V 0 j else F (k - 1) j))] :=
  SpH.ins (X := (cx Tryz.prog mixed tyT_ok E)) (e := 9) (s := 1) (by kernel_rfl) (by omega) ⟨_, _, Tryz.func46, by kernel_rfl, rfl⟩ n i hi F V (Nat.le_trans (Nat.le_of_eq (congrArg ((n + 1) * ·) (by kernel_rfl))) hbig) (fun b c vb vc g h w hR hX hne hvc h1 h2 hnc hm => insS_raw b n c i vb vc g h w hi hbig hR hX hne hvc h1 h2 hnc hm) (fun h0 vb vc g h w hX hvc h2 => by
    subst h0
    obtain rfl : i = 0 := by omega
    exact insS_raw0 vb vc g h w hX hvc h2)
end
end ins
end Go.Proofs.YtjbgafbijamckaaGreatDoor
