/-
  The rows of keys as data: Sorted, Compact. How many changes there are at most. Rows of changes.
-/
import Derived.Test.YtocehfhhmljejaaGreatDoorDf3
import Derived.Test.YtocehfhhmljejaaGreatDoorShelf
import Derived.Test.YtocehfhhmljejaaGreatDoorDf0
namespace Go.Proofs.YtocehfhhmljejaaGreatDoor
open Go.RowKit Go.Sort
set_option linter.unusedVariables false
set_option linter.unusedSimpArgs false
namespace df
open cr se ap so tab mg its
section
variable (E : Env)
set_option maxRecDepth 100000
theorem sort_l (L : Nat) (l : List ByteArray) (hl : l.length ≤ 1000000000) (hsz : ∀ s ∈ l, s.size ≤ maxLen) : SpH (cx Tryz.prog mixed tyT_ok E) 77 [.own L 1 0 l.length] [(L, .row 9 l.length (rowN l))] (.tup []) [(L, .row 9 l.length (rowN (sortB l)))] := by
  have h := (so.SpH.sort (X := (cx Tryz.prog mixed tyT_ok E)) (f := 77) (e := 9) (by kernel_rfl) ⟨_, _, Tryz.func77, by kernel_rfl, rfl⟩ l (by omega) hsz (fun b c ss w h1 h2 h3 => Tryz.slices_Sort_string b 0 c ss w h1 h2 h3) (fun w => Tryz.slices_Sort_string_none none 0 w)).swap 2000 L
  simpa only [D.renL, D.ren, renH, Ob.ren, swp_l] using h
theorem sorted_5 (l : List ByteArray) (hl : l.length ≤ 1000000000) (hsz : ∀ s ∈ l, s.size ≤ maxLen) : SpH (cx Tryz.prog mixed tyT_ok E) 41 [valsS l] [] (.own 5 1 0 l.length) [(5, .row 9 l.length (rowN (sortB l)))] := by
  have h1 := collect_l E 5 l (by omega)
  have h2 := sort_l E 5 l hl hsz
  refine SpH.body Tryz.func41 (by kernel_rfl) rfl (by kernel_rfl) (by kernel_rfl) (by kernel_rfl) ?_
  repeat' first
    | refine Or.inr ⟨_, _, _, Or.inl (h1), by kernel_rfl, (by repeat' first | exact trivial | exact rfl | kernel_rfl | exact Dle.of_eq rfl | exact MLe.of_eq rfl | exact Dle.i (by omega) | exact Dle.i (by simp only [Int.toNat_natCast] at *; omega) | exact Dle.nil | exact Dle.rc Dle.nil | exact Option.some_ne_none _ | exact Or.inl rfl | exact Or.inr trivial | omega | (simp only [Int.toNat_natCast] at *; omega) | (intro _ _ _ _; exact Dle.of_eq rfl) | refine And.intro ?_ ?_), ?_⟩
    | refine Or.inr ⟨_, _, _, Or.inl (h2), by kernel_rfl, (by repeat' first | exact trivial | exact rfl | kernel_rfl | exact Dle.of_eq rfl | exact MLe.of_eq rfl | exact Dle.i (by omega) | exact Dle.i (by simp only [Int.toNat_natCast] at *; omega) | exact Dle.nil | exact Dle.rc Dle.nil | exact Option.some_ne_none _ | exact Or.inl rfl | exact Or.inr trivial | omega | (simp only [Int.toNat_natCast] at *; omega) | (intro _ _ _ _; exact Dle.of_eq rfl) | refine And.intro ?_ ?_), ?_⟩
    | (refine codeW_cond rfl ?_; first | (refine condW_dec ?_ ?_ <;> intro _ <;> try (exfalso; omega)) | refine condW_not ?_ | (refine condW_bool ?_ ?_ <;> intro _ <;> try (exfalso; omega)))
    | (refine facW_intro ?_; intro _)
    | refine Or.inl ?_
    | ((conv => whnf); first | (refine condW_dec ?_ ?_ <;> intro _ <;> try (exfalso; omega)) | refine condW_not ?_ | (refine condW_bool ?_ ?_ <;> intro _ <;> try (exfalso; omega)) | (refine nbC_t (fun _ => ?_) ?_) | (refine nbC_f ?_ (fun _ => ?_)))
    | refine And.intro (by first | omega | (simp only [Int.toNat_natCast] at *; omega) | (simp only [Nat.reduceAdd, Int.cast_ofNat_Int, true_and, and_true]; omega)  | kernel_rfl) ?_
    | refine RegW.run ?_
    | fail
  all_goals first
    | exact ⟨[(5, .row 9 l.length (rowN (sortB l)))], [], rfl, ⟨[], ⟨by kernel_rfl, by kernel_rfl, by kernel_rfl, by kernel_rfl, by kernel_rfl, by kernel_rfl, by kernel_rfl⟩, (by repeat' first | exact trivial | exact rfl | kernel_rfl | exact Dle.of_eq rfl | exact MLe.of_eq rfl | exact Dle.i (by omega) | exact Dle.i (by simp only [Int.toNat_natCast] at *; omega) | exact Dle.nil | exact Dle.rc Dle.nil | exact Option.some_ne_none _ | exact Or.inl rfl | exact Or.inr trivial | omega | (simp only [Int.toNat_natCast] at *; omega) | (intro _ _ _ _; exact Dle.of_eq rfl) | refine And.intro ?_ ?_)⟩, rfl⟩
    | trace_state
theorem sorted_l (L : Nat) (l : List ByteArray) (hl : l.length ≤ 1000000000) (hsz : ∀ s ∈ l, s.size ≤ maxLen) : SpH (cx Tryz.prog mixed tyT_ok E) 41 [valsS l] [] (.own L 1 0 l.length) [(L, .row 9 l.length (rowN (sortB l)))] := by
  have h := (sorted_5 E l hl hsz).swap 5 L
  simpa only [valsS, encStrs, D.renL, D.ren, renH, Ob.ren, List.map_cons, List.map_nil, swp_l] using h
theorem compact_l (L : Nat) (l : List ByteArray) (hl : l.length ≤ 1000000000) : ∃ r : List ByteArray, (∀ i, i < (compB l).length → r.getD i ⟨#[]⟩ = (compB l).getD i ⟨#[]⟩) ∧ SpH (cx Tryz.prog mixed tyT_ok E) 40 [.own L 1 0 l.length] [(L, .row 9 l.length (rowN l))] (.own L 1 0 (compB l).length) [(L, .row 9 l.length (rowN r))] := by
  have hz : (l.map fun s => s.data.toList).length = l.length := List.length_map _
  have hle := Lib.compact_length_le (l.map fun s => s.data.toList)
  have hcl : (compB l).length = (Lib.compact (l.map fun s => s.data.toList)).length := by unfold compB; rw [List.length_map]
  obtain ⟨zs, hzs⟩ : ∃ zs, zs = l.map fun s => s.data.toList := ⟨_, rfl⟩
  rw [← hzs] at hz hle hcl
  obtain ⟨q, hq⟩ : ∃ q, q = Lib.compact zs ++ List.replicate (zs.length - (Lib.compact zs).length) [] := ⟨_, rfl⟩
  have hql : q.length = zs.length := by rw [hq, List.length_append, List.length_replicate]; omega
  have henc : ∀ (m : List (List UInt8)) (i : Nat), encStr (m.getD i []) = .string ((m.map fun x => (⟨x.toArray⟩ : ByteArray)).getD i ⟨#[]⟩) := fun m i => by
    rw [List.getD_eq_getElem?_getD, List.getD_eq_getElem?_getD, List.getElem?_map]
    cases m[i]? <;> rfl
  have hl' : (zs.map fun x => (⟨x.toArray⟩ : ByteArray)) = l := by
    rw [hzs, List.map_map]
    have : ((fun x : List UInt8 => (⟨x.toArray⟩ : ByteArray)) ∘ fun s : ByteArray => s.data.toList) = id := by funext x; rfl
    rw [this, List.map_id]
  have h := SpH.of_row (X := (cx Tryz.prog mixed tyT_ok E)) (f := 40) (e := 9) (enc := encStr) (l := zs) (r := q) (by kernel_rfl) hql [] (fun x hx => by
      rw [hq, List.mem_append] at hx
      rcases hx with hx | hx
      · refine .inl ?_
        unfold Lib.compact Lib.compactUpTo at hx
        obtain ⟨j, hj, rfl⟩ := List.mem_map.1 hx
        have hj := List.mem_range.1 (List.mem_filter.1 hj).1
        simp [hj]
      · refine .inr ?_
        rw [(List.mem_replicate.1 hx).2]
        rfl) ⟨_, _, Tryz.func40, by kernel_rfl, rfl⟩ (.own 2000 1 0 (Lib.compact zs).length) (fun b c => .slice (some ⟨b, 0, none⟩) (Lib.compact zs).length c) (.slice none 0 0)
    (fun M w β b c hβ hc hm => by
      have := Rep.own (V := view) (M := M) (w := w) (s := 1) (o := 0) (n := (Lib.compact zs).length) hβ (by omega) hm
      have h1 : Rep view M w β (.own 2000 1 0 (Lib.compact zs).length) (.slice (some ⟨b, 0, none⟩) (Lib.compact zs).length c) := by simpa using this
      exact h1)
    (fun h0 M w β hβ => by
      have : (Lib.compact zs).length = 0 := by omega
      rw [this]
      exact .ownNil hβ)
    (fun h0 w => (Tryz.slices_Compact_string_empty none 0 w).mono fun e w' ⟨he, hw⟩ => ⟨he, hw⟩)
    (fun b c w hH hb hc => (Tryz.slices_Compact_string b 0 c zs w hH (by omega) hc).mono fun e w' ⟨he, n, hw⟩ => ⟨he, n, #[], by rw [hw, hq]; simp [Go.Sort.grow]; rfl⟩)
  refine ⟨q.map fun x => (⟨x.toArray⟩ : ByteArray), fun i hi => ?_, ?_⟩
  · have e1 : (compB l) = (Lib.compact zs).map fun x => (⟨x.toArray⟩ : ByteArray) := by unfold compB; rw [hzs]
    rw [e1, hq, List.map_append, List.getD_eq_getElem?_getD, List.getD_eq_getElem?_getD, List.getElem?_append_left (by rw [List.length_map]; omega)]
  · have f1 : (fun i (_ : Nat) => (D.v (encStr (zs.getD i [])) : DD)) = rowN l := by
      funext i j
      show D.v (encStr (zs.getD i [])) = D.v (.string (l.getD i ⟨#[]⟩))
      rw [henc, hl']
    have f2 : (fun i (_ : Nat) => (D.v (encStr (q.getD i [])) : DD)) = rowN (q.map fun x => (⟨x.toArray⟩ : ByteArray)) := by
      funext i j
      show D.v (encStr (q.getD i [])) = D.v (.string _)
      rw [henc]
    rw [f1, f2, hz] at h
    rw [hcl]
    have h := h.swap 2000 L
    simpa only [D.renL, D.ren, renH, Ob.ren, swp_l] using h
end
end df
end Go.Proofs.YtocehfhhmljejaaGreatDoor
namespace Go.Proofs.YtocehfhhmljejaaGreatDoor
open Go.RowKit
set_option linter.unusedVariables false
set_option linter.unusedSimpArgs false
namespace df
open cr se ap so tab mg
def wsumP (ps : List (ByteArray × Nat)) (k : ByteArray) : Nat := (ps.map fun p => if p.1 = k then p.2 else 0).sum
theorem one_sum (x : ByteArray) (w : Nat) : ∀ L : List ByteArray, L.Nodup → (L.map fun k => if x = k then w else 0).sum ≤ w ∧ (x ∉ L → (L.map fun k => if x = k then w else 0).sum = 0)
  | [], _ => ⟨Nat.zero_le _, fun _ => rfl⟩
  | k :: L, h => by
    obtain ⟨h1, h2⟩ := List.nodup_cons.1 h
    obtain ⟨h3, h4⟩ := one_sum x w L h2
    simp only [List.map_cons, List.sum_cons]
    by_cases e : x = k
    · subst e
      rw [if_pos rfl, h4 h1]
      exact ⟨Nat.le_refl _, fun hn => absurd List.mem_cons_self hn⟩
    · rw [if_neg e, Nat.zero_add]
      exact ⟨h3, fun hn => h4 (fun hm => hn (List.mem_cons_of_mem _ hm))⟩
theorem sum_keys {L : List ByteArray} (hn : L.Nodup) : ∀ ps : List (ByteArray × Nat), (L.map (wsumP ps)).sum ≤ (ps.map (·.2)).sum
  | [] => by
    have : ∀ L : List ByteArray, (L.map (wsumP [])).sum = 0 := fun L => by
      induction L with
      | nil => rfl
      | cons k L ih => simp only [List.map_cons, List.sum_cons, ih]; rfl
    rw [this]
    exact Nat.zero_le _
  | p :: ps => by
    have h1 := sum_keys hn ps
    have h2 := (one_sum p.1 p.2 L hn).1
    have h3 : (L.map (wsumP (p :: ps))).sum = (L.map fun k => if p.1 = k then p.2 else 0).sum + (L.map (wsumP ps)).sum := by
      clear h1 h2 hn
      induction L with
      | nil => rfl
      | cons k L ih =>
        simp only [List.map_cons, List.sum_cons, ih]
        show ((if p.1 = k then p.2 else 0) + wsumP ps k) + _ = _
        omega
    rw [h3]
    simp only [List.map_cons, List.sum_cons]
    omega
def prsV (v : Vu) : List (ByteArray × Nat) := (List.range v.keys.length).map fun i => (v.keys.getD i ⟨#[]⟩, 1 + (v.items.getD i .zero).wt)
theorem sum_mem_le {l : List Nat} {x : Nat} (h : x ∈ l) : x ≤ l.sum := by
  induction l with
  | nil => cases h
  | cons a l ih =>
    simp only [List.sum_cons]
    rcases List.mem_cons.1 h with rfl | h
    · omega
    · have := ih h; omega
theorem prs_has {v : Vu} {k : ByteArray} (h : hasK v k = true) : 1 + (v.items.getD (findK v k) .zero).wt ≤ wsumP (prsV v) k := by
  have hl := has_lt h
  unfold hasK at h
  simp only [Bool.and_eq_true, decide_eq_true_eq] at h
  unfold wsumP prsV
  rw [List.map_map]
  refine sum_mem_le (List.mem_map.2 ⟨findK v k, List.mem_range.2 hl, ?_⟩)
  show (if v.keys.getD (findK v k) ⟨#[]⟩ = k then _ else 0) = _
  rw [if_pos h.2]
theorem range_sum (l : List Vu) : ((List.range l.length).map fun i => 1 + (l.getD i .zero).wt).sum = l.length + Vu.wtL l := by
  induction l with
  | nil => rfl
  | cons x l ih =>
    rw [List.length_cons, List.range_succ_eq_map, List.map_cons, List.sum_cons, List.map_map]
    have e : ((fun i => 1 + ((x :: l).getD i .zero).wt) ∘ Nat.succ) = fun i => 1 + (l.getD i .zero).wt := by
      funext i
      simp [Function.comp]
    rw [e, ih]
    simp only [List.getD_cons_zero, Vu.wtL]
    omega
theorem len_le_sumK (l : List ByteArray) : l.length ≤ (l.map fun s => s.size + 1).sum := by
  induction l with
  | nil => exact Nat.le_refl _
  | cons x l ih => simp only [List.length_cons, List.map_cons, List.sum_cons]; omega
theorem prs_sum {v : Vu} (hl : v.keys.length = v.items.length) : ((prsV v).map (·.2)).sum ≤ v.wt := by
  have h1 := range_sum v.items
  have h2 := len_le_sumK v.keys
  unfold prsV
  rw [List.map_map, hl]
  have e : ((fun x : ByteArray × Nat => x.2) ∘ fun i => (v.keys.getD i ⟨#[]⟩, 1 + (v.items.getD i .zero).wt)) = fun i => 1 + (v.items.getD i .zero).wt := rfl
  rw [e, h1]
  cases v with
  | mk k b i t l ks =>
    simp only [Vu.wt, Vu.keys, Vu.items] at *
    omega
theorem flat_len {f : ByteArray → List Cg} {g : ByteArray → Nat} (L : List ByteArray) (h : ∀ k ∈ L, (f k).length ≤ g k) : (L.flatMap f).length ≤ (L.map g).sum := by
  induction L with
  | nil => exact Nat.le_refl _
  | cons k L ih =>
    have h1 := h k List.mem_cons_self
    have h2 := ih (fun x hx => h x (List.mem_cons_of_mem _ hx))
    simp only [List.flatMap_cons, List.length_append, List.map_cons, List.sum_cons]
    omega
theorem srt_nodup {l : List ByteArray} (h : Srt l) : l.Nodup := List.pairwise_iff_getElem.2 fun i j hi hj hij e => by
  have h1 := h i j hij hj
  rw [List.getD_eq_getElem?_getD, List.getD_eq_getElem?_getD, List.getElem?_eq_getElem hi, List.getElem?_eq_getElem hj] at h1
  simp only [Option.getD_some] at h1
  rw [e, strLt_irrefl] at h1
  cases h1
theorem wt_pos (v : Vu) : 1 ≤ v.wt := by cases v; simp only [Vu.wt]; omega
theorem sum_add {f g : ByteArray → Nat} (L : List ByteArray) : (L.map fun k => f k + g k).sum = (L.map f).sum + (L.map g).sum := by
  induction L with
  | nil => rfl
  | cons k L ih => simp only [List.map_cons, List.sum_cons, ih]; omega
theorem diff_len : ∀ (N : Nat) (a b : Vu) (r : ByteArray), faultE a = 0 → faultE b = 0 → (diffV N a b r).1.length ≤ a.wt + b.wt ∧ (diffV N a b r).2.length ≤ a.wt + b.wt
  | 0, a, b, r, _, _ => ⟨Nat.zero_le _, Nat.zero_le _⟩
  | N + 1, a, b, r, ha, hb => by
    have hpb := wt_pos b
    unfold diffV
    split
    · exact ⟨Nat.zero_le _, Nat.zero_le _⟩
    · split
      · exact ⟨Nat.zero_le _, by show 1 ≤ _; omega⟩
      · rename_i hk
        have ka : a.kind = 6 := by omega
        have kb : b.kind = 6 := by omega
        have la := (fault_keys ha).2 ka
        have lb := (fault_keys hb).2 kb
        have hnd := srt_nodup (keysM_spec (b := b) ha ka).1
        have key : ∀ k ∈ keysM a b, (entD (diffV N) a b r k).1.length ≤ wsumP (prsV a) k + wsumP (prsV b) k ∧ (entD (diffV N) a b r k).2.length ≤ wsumP (prsV a) k + wsumP (prsV b) k := fun k hkm => by
          unfold entD
          cases h2 : hasK b k
          · rw [if_pos rfl]
            refine ⟨?_, Nat.zero_le _⟩
            have hm := ((keysM_spec (b := b) ha ka).2 k).1 hkm
            have h1 : hasK a k = true := by
              rcases hm with h | h
              · obtain ⟨i, hi, e⟩ := tab.getD_in (d := ⟨#[]⟩) h
                exact (rs.find_at (fault_keys ha).1 hi e).2
              · obtain ⟨i, hi, e⟩ := tab.getD_in (d := ⟨#[]⟩) h
                have := (rs.find_at (fault_keys hb).1 hi e).2
                rw [h2] at this
                cases this
            have := prs_has h1
            show 1 ≤ _
            omega
          · rw [if_neg (by decide)]
            have hb1 := prs_has h2
            cases h1 : hasK a k
            · rw [if_pos rfl]
              exact ⟨Nat.zero_le _, by show 1 ≤ _; omega⟩
            · rw [if_neg (by decide)]
              have ha1 := prs_has h1
              have hi1 := has_lt h1
              have hi2 := has_lt h2
              have ih := diff_len N (a.items.getD (findK a k) .zero) (b.items.getD (findK b k) .zero) (joinQ r k) (fault_mem ha (by omega)) (fault_mem hb (by omega))
              omega
        have s1 := sum_keys hnd (prsV a)
        have s2 := sum_keys hnd (prsV b)
        have t1 := prs_sum la
        have t2 := prs_sum lb
        have f1 := flat_len (f := fun k => (entD (diffV N) a b r k).1) (g := fun k => wsumP (prsV a) k + wsumP (prsV b) k) (keysM a b) (fun k hk => (key k hk).1)
        have f2 := flat_len (f := fun k => (entD (diffV N) a b r k).2) (g := fun k => wsumP (prsV a) k + wsumP (prsV b) k) (keysM a b) (fun k hk => (key k hk).2)
        have e := sum_add (f := wsumP (prsV a)) (g := wsumP (prsV b)) (keysM a b)
        rw [e] at f1 f2
        exact ⟨by show (List.flatMap _ _).length ≤ _; omega, by show (List.flatMap _ _).length ≤ _; omega⟩
end df
end Go.Proofs.YtocehfhhmljejaaGreatDoor
namespace Go.Proofs.YtocehfhhmljejaaGreatDoor
open Go.RowKit Go.Sort
set_option linter.unusedVariables false
set_option linter.unusedSimpArgs false
namespace df
open cr se ap so tab mg its
def cgF (l : List Cg) (i j : Nat) : DD := (l.getD i default).cell j
theorem flat_take {α β : Type} (f : α → List β) : ∀ (l : List α) (n : Nat), ((l.take n).flatMap f).length ≤ (l.flatMap f).length
  | [], n => by simp
  | x :: l, 0 => by simp
  | x :: l, n + 1 => by
    have := flat_take f l n
    simp only [List.take_succ_cons, List.flatMap_cons, List.length_append]
    omega
theorem part1_le (f : ByteArray → List Cg × List Cg) (ks : List ByteArray) (n : Nat) : (part1 f ks n).length ≤ (ks.flatMap fun k => (f k).1).length := flat_take _ _ _
theorem part2_le (f : ByteArray → List Cg × List Cg) (ks : List ByteArray) (n : Nat) : (part2 f ks n).length ≤ (ks.flatMap fun k => (f k).2).length := flat_take _ _ _
theorem getD_app1 {α : Type} (l m : List α) (d : α) {i : Nat} (h : i < l.length) : (l ++ m).getD i d = l.getD i d := by
  rw [List.getD_eq_getElem?_getD, List.getD_eq_getElem?_getD, List.getElem?_append_left h]
theorem getD_app2 {α : Type} (l m : List α) (d : α) {i : Nat} (h : ¬ i < l.length) : (l ++ m).getD i d = m.getD (i - l.length) d := by
  rw [List.getD_eq_getElem?_getD, List.getD_eq_getElem?_getD, List.getElem?_append_right (by omega)]
theorem key_sz {v : Vu} {k : ByteArray} (h : k ∈ v.keys) : k.size + 1 ≤ v.wt := by
  cases v with
  | mk kd b i t l ks =>
    have h : k ∈ ks := h
    have : k.size + 1 ≤ (ks.map fun s => s.size + 1).sum := sum_mem_le (List.mem_map.2 ⟨k, h, rfl⟩)
    simp only [Vu.wt]
    omega
theorem wt_key {v : Vu} {k : ByteArray} (hl : v.keys.length = v.items.length) (h : hasK v k = true) : k.size + 1 + (v.items.getD (findK v k) .zero).wt ≤ v.wt := by
  have h1 := has_lt h
  have h2 : k ∈ v.keys := by
    unfold hasK at h
    simp only [Bool.and_eq_true, decide_eq_true_eq] at h
    rw [← h.2]
    exact getD_mem2 h1
  have h3 := wt_mem v.items _ (getD_mem v.items .zero (findK v k) (by omega))
  cases v with
  | mk kd b i t l ks =>
    have h2 : k ∈ ks := h2
    have : k.size + 1 ≤ (ks.map fun s => s.size + 1).sum := sum_mem_le (List.mem_map.2 ⟨k, h2, rfl⟩)
    simp only [Vu.items] at h3 ⊢
    simp only [Vu.wt]
    omega
section
variable (E : Env)
set_option maxRecDepth 100000
theorem row_cg (l : List Cg) (c : Cg) (cs : List DD) (hc : ∀ j, j < 8 → Dle (cx Tryz.prog mixed tyT_ok E) (cs.getD j .opq) (c.cell j)) (i j : Nat) (hi : i < l.length + 1) (hj : j < 8) : Dle (cx Tryz.prog mixed tyT_ok E) (if i < l.length then cgF l i j else cs.getD ((i - l.length + 0) * 8 + j) .opq) (cgF (l ++ [c]) i j) := by
  unfold cgF
  by_cases h : i < l.length
  · rw [if_pos h, getD_app1 _ _ _ h]
    exact Dle.refl _ _
  · obtain rfl : i = l.length := by omega
    rw [if_neg h, getD_app2 _ _ _ h, Nat.sub_self, Nat.add_zero, Nat.zero_mul, Nat.zero_add]
    exact hc j hj
theorem row_ap (l g : List Cg) (i j : Nat) : Dle (cx Tryz.prog mixed tyT_ok E) (if i < l.length then cgF l i j else cgF g (i - l.length + 0) j) (cgF (l ++ g) i j) := by
  unfold cgF
  by_cases h : i < l.length
  · rw [if_pos h, getD_app1 _ _ _ h]
    exact Dle.refl _ _
  · rw [if_neg h, getD_app2 _ _ _ h]
    exact Dle.refl _ _
theorem cg_gone (r : ByteArray) (j : Nat) (hj : j < 8) : Dle (cx Tryz.prog mixed tyT_ok E) (([dS r, i64 0, dB false, i64 0, dS ⟨#[]⟩, .v (.slice none 0 0), .v (.slice none 0 0), dB true] : List DD).getD j .opq) ((⟨r, .zero, true⟩ : Cg).cell j) := by
  match j, hj with
  | 0, _ => exact Dle.refl _ _
  | 1, _ => exact Dle.refl _ _
  | 2, _ => exact Dle.refl _ _
  | 3, _ => exact Dle.refl _ _
  | 4, _ => exact Dle.refl _ _
  | 5, _ => exact Dle.rc (X := (cx Tryz.prog mixed tyT_ok E)) (Dle.nil (X := (cx Tryz.prog mixed tyT_ok E)))
  | 6, _ => exact Dle.nil (X := (cx Tryz.prog mixed tyT_ok E))
  | 7, _ => exact Dle.refl _ _
theorem cg_other (r : ByteArray) (v : Vu) (j : Nat) (hj : j < 8) : Dle (cx Tryz.prog mixed tyT_ok E) (([dS r, i64 v.kind, dB v.b, i64 v.i, dS v.text, .rc (.vals v.items), encStrs v.keys, dB false] : List DD).getD j .opq) ((⟨r, v, false⟩ : Cg).cell j) := by
  match j, hj with
  | 0, _ => exact Dle.refl _ _
  | 1, _ => exact Dle.refl _ _
  | 2, _ => exact Dle.refl _ _
  | 3, _ => exact Dle.refl _ _
  | 4, _ => exact Dle.refl _ _
  | 5, _ => exact Dle.refl _ _
  | 6, _ => exact Dle.refl _ _
  | 7, _ => exact Dle.refl _ _
end
end df
end Go.Proofs.YtocehfhhmljejaaGreatDoor
