/-
  NewReplacer of a row of the caller's own; Replace under any label. A text in quotes: conf.quoted; days and words as texts.
-/
import Derived.Test.YtemiaognopgnnaaGreatDoorRp5
namespace Go.Proofs.YtemiaognopgnnaaGreatDoor.rp
open Go.RowKit
set_option linter.unusedVariables false
set_option linter.unusedSimpArgs false
theorem rep_own1 {κ : Type} {X : Cx κ} {M : Nat → Nat → Prop} {β : Bt} {w : World} {l s n b c : Nat} {x : Value} (h : Rep X.V M w β (.own l s 0 n) x) (hβ : β l = some (some (b, c))) : x = .slice (some ⟨b, 0, none⟩) n c := by
  generalize hN : n = m at h
  cases h with
  | own h _ _ =>
    rw [hβ] at h
    injection h with h
    injection h with h
    injection h with h1 h2
    subst h1 h2
    simp
  | ownE ho _ _ => exact absurd ho (Nat.lt_irrefl _)
  | ownNil h => rw [hβ] at h; cases h
section
variable (E : Env)
/-- A row of strings as it is written down. -/
def rowL (l : List ByteArray) (i j : Nat) : DD := (l.map (fun s => (dS s : DD))).getD (i * 1 + j) .opq
theorem rowL_at {l : List ByteArray} {i : Nat} (hi : i < l.length) : rowL l i 0 = dS (pr l i) := by
  unfold rowL pr
  rw [Nat.mul_one, Nat.add_zero, List.getD_eq_getElem?_getD, List.getElem?_map, List.getD_eq_getElem?_getD, List.getElem?_eq_getElem hi]
  rfl
set_option maxRecDepth 100000 in
theorem newRow_sp (l : List ByteArray) (n : Nat) (hn : l.length = 2 * n) (h0 : 0 < n) (hb : n ≤ 1000) :
    SpH (cx Tryz.prog mixed tyT_ok E) 37 [.own 2001 1 0 (2 * n)] [(2001, .row 9 (2 * n) (rowL l))] (.ptr 2000 0) [(2000, .cells (rpC l))] := by
  refine ⟨⟨_, _, Tryz.func37, by kernel_rfl, rfl⟩, fun M β w vs hG hMG hM hlv hr hH hbk => ?_⟩
  have m0 : ((2001, .row 9 (2 * n) (rowL l)) : Nat × Ob RC) ∈ [(2001, (.row 9 (2 * n) (rowL l) : Ob RC))] := List.mem_cons_self
  obtain ⟨_, ho⟩ := (hH.ob 2001 _ m0).2
  have a0 := hr 0 _ rfl
  rcases ho with ⟨hβ, hz⟩ | ⟨b, c, arr, hβ, hA, hsz, hnc, hcm, hby, hcell, hvis⟩
  · omega
  have hs1 : (tyT 9).size = 1 := by kernel_rfl
  have hsz : arr.size = c * (tyT 9).size := hsz
  have hcell : ∀ i j, i < 2 * n → j < (tyT 9).size → (arr.getD (i * (tyT 9).size + j) undef).oneCell' = true ∧ Rep view M w b0 (rowL l i j) (arr.getD (i * (tyT 9).size + j) undef) := hcell
  rw [hs1] at hsz hcell
  have e0 : vs.getD 0 undef = .slice (some ⟨b, 0, none⟩) (2 * n) c := rep_own1 a0 hβ
  have evs : vs = #[.slice (some ⟨b, 0, none⟩) (2 * n) c] := by
    have hl : vs.size = 1 := hlv
    apply Array.ext
    · simpa using hl
    · intro k q1 q2
      have hk : k < 1 := by omega
      match k, hk with
      | 0, _ => simpa [Array.getD, q1] using e0
  rw [evs]
  have hval : ∀ i, i < 2 * n → arr.getD i undef = .string (pr l i) ∧ okB (.string (pr l i)) = true := fun i hi => by
    have h4 := (hcell i 0 hi (by omega)).2
    rw [rowL_at (by omega), Nat.mul_one, Nat.add_zero] at h4
    exact h4.val
  have hst : ∀ i, i < 2 * n → w.cell? ⟨b, 0 + i, none⟩ = some (.string (pr l i)) := fun i hi => by
    have hlt : i < arr.size := by omega
    rw [Nat.zero_add, cell_of_row _ _ _ _ _ _ hA, ← (hval i hi).1]
    simp [Array.getD, hlt]
  refine (new_raw (pr l) (2 * n) b 0 c w hst (by omega) (by omega) (by omega)).mono ?_
  rintro e w' ⟨cp, rfl, hB, h1, h2, hsz', hA', hS⟩
  have hβ' : (fun k => if k = 2000 then some (some (w.heap.size + 1, 1)) else β k : Bt) 2000 = some (some (w.heap.size + 1, 1)) := by simp
  refine ⟨_, fun b o => M b o ∨ b = w.heap.size, fun k => if k = 2000 then some (some (w.heap.size + 1, 1)) else β k, rfl, Kp.of hB _, fun l' o' hm => ?_, fun _ _ h => .inl h, fun b o h => h.elim .inl (fun e => .inr (.inr ⟨by omega, by omega⟩)), .ptr hβ', ⟨fun l' o' hm => ?_, fun l o l' o' b c c' hm hm' _ _ => ?_⟩, fun b' ⟨l', o', c', hm, he⟩ => ?_⟩
  · rw [(Prod.mk.inj (List.mem_singleton.1 hm)).1]
    simp
  · obtain ⟨rfl, rfl⟩ := Prod.mk.inj (List.mem_singleton.1 hm)
    refine ⟨rfl, _, _, _, _, hβ', hA', ⟨rfl, fun i hi => ?_, fun i d hd => ?_⟩, fun q h => ?_⟩
    · match i, hi with
      | 0, _ => rfl
      | 1, _ => rfl
      | 2, _ => rfl
      | 3, _ => rfl
      | 4, _ => rfl
    · match i, hd with
      | 0, hd => injection hd with hd; subst hd; exact .v rfl
      | 1, hd => injection hd with hd; subst hd; exact .v rfl
      | 2, hd => injection hd with hd; subst hd; exact .v rfl
      | 3, hd => injection hd with hd; subst hd; exact .v rfl
      | 4, hd =>
        injection hd with hd
        subst hd
        unfold encStrs
        rw [hn]
        refine .sl (fun i _ => .string (pr l i)) h1 h2 (by omega) (fun i j hi hj => ?_) (fun i j hi hj => ?_)
        · obtain rfl : j = 0 := by omega
          refine ⟨.inr rfl, ?_, rfl⟩
          simpa using hS i hi
        · obtain rfl : j = 0 := by omega
          exact .v (hval i hi).2
    · rcases h with h | h
      · have := hM _ _ h; omega
      · omega
  · rw [(Prod.mk.inj (List.mem_singleton.1 hm)).1, (Prod.mk.inj (List.mem_singleton.1 hm')).1]
  · obtain ⟨rfl, rfl⟩ := Prod.mk.inj (List.mem_singleton.1 hm)
    rw [hβ'] at he
    injection he with he
    injection he with he
    injection he with he _
    exact .inr (by omega)
end
end Go.Proofs.YtemiaognopgnnaaGreatDoor.rp
namespace Go.Proofs.YtemiaognopgnnaaGreatDoor
open Go.RowKit
set_option linter.unusedVariables false
set_option linter.unusedSimpArgs false
namespace pn
open rp
/-- The pairs of a quoted text. -/
def qp : List ByteArray := [⟨#[10]⟩, ⟨#[92, 110]⟩, ⟨#[9]⟩, ⟨#[92, 116]⟩, ⟨#[34]⟩, ⟨#[92, 34]⟩, ⟨#[92]⟩, ⟨#[92, 92]⟩]
theorem qp_prs : Prs (pr qp) 4 where
  n2 := by decide
  n100 := by decide
  old := by decide
  new := by decide
  two := fun i j hi hj h => (by decide : ∀ i, i < 4 → ∀ j, j < 4 → bAt (pr qp (2 * i)) 0 = bAt (pr qp (2 * j)) 0 → i = j) i hi j hj h
theorem qp_all : all1 (pr qp) 4 = false := by decide
/-- A text in quotes. -/
@[irreducible] def quo (s : ByteArray) : ByteArray := ⟨#[34]⟩ ++ repS qp s ++ ⟨#[34]⟩
theorem quo_size (s : ByteArray) : (quo s).size ≤ 100 * s.size + 2 := by
  have := repS_size (l := qp) qp_prs s
  unfold quo
  rw [ByteArray.size_append, ByteArray.size_append]
  have h1 : (⟨#[34]⟩ : ByteArray).size = 1 := rfl
  omega
section
variable (E : Env)
theorem newQ_l (A L : Nat) (hAL : A ≠ L) : SpH (cx Tryz.prog mixed tyT_ok E) 37 [.own A 1 0 8] [(A, .row 9 8 (rowL qp))] (.ptr L 0) [(L, .cells (rpC qp))] := by
  have h := (newRow_sp E qp 4 rfl (by decide) (by decide)).to2 2001 2000 A L
  have h1 : ren2 2001 2000 A L 2001 = A := ren2_l (by decide) hAL
  have h2 : ren2 2001 2000 A L 2000 = L := ren2_r _ _ _ _
  simpa only [D.renL, D.ren, renH, Ob.ren, h1, h2, rpC, encStrs, List.map_cons, List.map_nil] using h
theorem replQ_l (L : Nat) (s : ByteArray) (hs : s.size ≤ 17179869184) : SpH (cx Tryz.prog mixed tyT_ok E) 38 [.ptr L 0, dS s] [(L, .cells (rpC qp))] (dS (repS qp s)) [] := by
  have h := (replace_sp E qp 4 rfl qp_prs qp_all s hs).swap 2000 L
  simpa only [D.renL, D.ren, renH, Ob.ren, swp_l, rpC, encStrs, List.map_cons, List.map_nil] using h
set_option maxRecDepth 100000
theorem quoted_sp (s : ByteArray) (hs : s.size ≤ 17179869184) : Sp (cx Tryz.prog mixed tyT_ok E) 115 [dS s] (dS (quo s)) := by
  have h1 := newQ_l E 3 4 (by decide)
  have h2 := replQ_l E 4 s hs
  have h3 : (repS qp s).size ≤ 100 * s.size := repS_size (l := qp) qp_prs s
  have hq : quo s = ⟨#[34]⟩ ++ repS qp s ++ ⟨#[34]⟩ := by unfold quo; rfl
  generalize quo s = q at hq
  generalize repS qp s = r at h2 h3 hq
  have hz1 : ((⟨#[34]⟩ : ByteArray) ++ r).size = 1 + r.size := ByteArray.size_append
  have hz2 : ((⟨#[34]⟩ : ByteArray) ++ r ++ ⟨#[34]⟩).size = 1 + r.size + 1 := by rw [ByteArray.size_append, hz1]; rfl
  have hz0 : (⟨#[34]⟩ : ByteArray).size = 1 := rfl
  have hz3 : ((⟨#[34]⟩ : ByteArray) ++ r).size ≤ maxLen := by unfold maxLen; omega
  have hz4 : ((⟨#[34]⟩ : ByteArray) ++ r ++ ⟨#[34]⟩).size ≤ maxLen := by unfold maxLen; omega
  subst hq
  refine Sp.body Tryz.func115 (by kernel_rfl) rfl (by kernel_rfl) (by kernel_rfl) (by kernel_rfl) ?_
  repeat' first
    | refine Or.inr ⟨_, _, _, h1, by kernel_rfl, (by repeat' first | exact trivial | exact rfl | kernel_rfl | exact Dle.of_eq rfl | exact MLe.of_eq rfl | exact Dle.i (by omega) | exact Dle.i (by simp only [Int.toNat_natCast] at *; omega) | exact Dle.nil | exact Dle.rc Dle.nil | exact Option.some_ne_none _ | exact Or.inl rfl | exact Or.inr trivial | omega | (simp only [Int.toNat_natCast] at *; omega) | (intro _ _ _ _; exact Dle.of_eq rfl) | refine And.intro ?_ ?_), ?_⟩
    | refine Or.inr ⟨_, _, _, h2, by kernel_rfl, (by repeat' first | exact trivial | exact rfl | kernel_rfl | exact Dle.of_eq rfl | exact MLe.of_eq rfl | exact Dle.i (by omega) | exact Dle.i (by simp only [Int.toNat_natCast] at *; omega) | exact Dle.nil | exact Dle.rc Dle.nil | exact Option.some_ne_none _ | exact Or.inl rfl | exact Or.inr trivial | omega | (simp only [Int.toNat_natCast] at *; omega) | (intro _ _ _ _; exact Dle.of_eq rfl) | refine And.intro ?_ ?_), ?_⟩
    | (refine codeW_cond rfl ?_; first | (refine condW_dec ?_ ?_ <;> intro _ <;> try (exfalso; omega)) | refine condW_not ?_ | (refine condW_bool ?_ ?_ <;> intro _ <;> try (exfalso; omega)))
    | (refine facW_intro ?_; intro _)
    | refine Or.inl ?_
    | ((conv => whnf); first | (refine condW_dec ?_ ?_ <;> intro _ <;> try (exfalso; omega)) | refine condW_not ?_ | (refine condW_bool ?_ ?_ <;> intro _ <;> try (exfalso; omega)) | (refine nbC_t (fun _ => ?_) ?_) | (refine nbC_f ?_ (fun _ => ?_)))
    | refine And.intro (by first | omega | (simp only [Int.toNat_natCast] at *; omega) | (simp only [Nat.reduceAdd, Int.cast_ofNat_Int, true_and, and_true]; omega)  | kernel_rfl) ?_
    | refine RegW.run ?_
    | fail
  all_goals first
    | exact Dle.refl _ _
    | trace_state
end
end pn
end Go.Proofs.YtemiaognopgnnaaGreatDoor
