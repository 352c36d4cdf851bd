/-
  conf.Print. The reference's Word, PrintOf.
-/
import Derived.Test.YtemiaognopgnnaaGreatDoorPn4
import Derived.Test.YtemiaognopgnnaaGreatDoorJn1
import Derived.Test.YtemiaognopgnnaaGreatDoorQ7
namespace Go.Proofs.YtemiaognopgnnaaGreatDoor
open Go.RowKit
set_option linter.unusedVariables false
set_option linter.unusedSimpArgs false
namespace pn
open rp
theorem mkS_all (t : List UInt8) : mkS t.length (fun i => t.getD i 0) = ⟨t.toArray⟩ := by
  unfold mkS
  congr 2
  apply List.ext_getElem
  · simp
  · intro i h1 h2
    simp [List.getD, h2]
/-- The text of a table. -/
noncomputable def txtL (v : Vu) : List UInt8 := prB [] v.keys v.items
/-- What Print answers. -/
noncomputable def printR (v : Vu) : ByteArray × Int := if checkE v ≠ 0 then (⟨#[]⟩, checkE v) else if v.kind ≠ 6 then (⟨#[]⟩, 10) else if 50000 < (txtL v).length then (⟨#[]⟩, 4) else (⟨(txtL v).toArray⟩, 0)
theorem check_facts {v : Vu} (h : checkE v = 0) : faultE v = 0 ∧ cnt v ≤ 1000 ∧ lvl v ≤ 8 := by
  unfold checkE at h
  split at h
  · cases h
  · split at h
    · cases h
    · exact ⟨h, by omega, by omega⟩
theorem txt_len (v : Vu) (hv : v.i64) (hw : v.wt ≤ 5000000) (hl : lvl v ≤ 8) : (txtL v).length ≤ 1200000000 := by
  have hi : Vu.i64L v.items := by cases v; exact hv.2.2
  have h1 := prB_len [] v.keys v.items hi
  have h2 := wt_parts v
  have h3 := lvl_eq v
  have h4 : (([] : List UInt8).length + 3 * lvlL v.items + 201) * (Vu.wtL v.items + (v.keys.map fun s => s.size + 1).sum) ≤ 225 * 5000000 := Nat.mul_le_mul (by simp only [List.length_nil]; omega) (by omega)
  unfold txtL
  omega
section
variable (E : Env)
set_option maxRecDepth 100000
theorem printed_nil (hP : ∀ w, E.G w → P10 w) (v : Vu) (h6 : v.kind = 6) (hc : checkE v = 0) (hv : v.i64) (hw : v.wt ≤ 5000000) : SpH (cx Tryz.prog mixed tyT_ok E) 40 [.v (.slice none 0 0), encV v, dS ⟨#[]⟩] [] (.own 15 1 0 (txtL v).length) [(15, .row 5 (txtL v).length (rowB (txtL v)))] := by
  obtain ⟨hf, h1, h2⟩ := check_facts hc
  have hff := fault_facts hf
  have hil : v.items.length ≤ 1000000 := by have h1 := len_le_cntL v.items; have h2 := cnt_eq v; omega
  have hwb : (0 + 4 * lvl v + 206) * v.wt ≤ 238 * 5000000 := Nat.mul_le_mul (by omega) hw
  have hz : (⟨#[]⟩ : ByteArray).size = 0 := rfl
  have h := printed_l E 40 15 (by decide) v ⟨#[]⟩ [] 0 rfl (hff.2.2.1 h6) hv hil (by rw [hz]; simp only [List.length_nil]; omega) (fun x hx a' n hn hb' => printedValue_any E hP (SizeOf.sizeOf x + 1) x ⟨#[]⟩ a' n 23 31 (by decide) hn (by omega) (faultL_memP _ (fault_headP hf).2 x hx) (i64_mem hv hx) (by have := cnt_mem v.items x hx; have := cnt_eq v; omega) (by have := wt_le hx; omega) (by have h3 := lvl_mem v.items x hx; have h4 := lvl_eq v; rw [hz]; omega) hb')
  rw [List.nil_append] at h
  exact SpH.ofNil (by kernel_rfl) (by kernel_rfl) h
theorem print_sp (hP : ∀ w, E.G w → P10 w) (v : Vu) (hv : v.i64) (hw : v.wt ≤ 5000000) : Sp (cx Tryz.prog mixed tyT_ok E) 16 [encV v] (.tup [dS (printR v).1, i64 (printR v).2]) := by
  have h1 := check_sp E v (by have := cnt_le_wt v; omega)
  obtain ⟨r, hr⟩ : ∃ r, r = printR v := ⟨_, rfl⟩
  rw [← hr]
  unfold printR at hr
  by_cases hc : checkE v = 0
  · rw [if_neg (fun h => h hc)] at hr
    by_cases h6 : v.kind = 6
    · rw [if_neg (fun h => h h6)] at hr
      have h2 := printed_nil E hP v h6 hc hv hw
      have htl := txt_len v hv hw (check_facts hc).2.2
      have hmk := mkS_all (txtL v)
      generalize txtL v = t at h2 hr htl hmk
      rw [hc] at h1
      refine Sp.body Tryz.func16 (by kernel_rfl) rfl (by kernel_rfl) (by kernel_rfl) (by kernel_rfl) ?_
      repeat' first
        | refine Or.inr ⟨_, _, _, h2, by kernel_rfl, (by repeat' first | exact trivial | exact rfl | kernel_rfl | exact Dle.of_eq rfl | exact MLe.of_eq rfl | exact Dle.i (by omega) | exact Dle.i (by simp only [Int.toNat_natCast] at *; omega) | exact Dle.nil | exact Dle.rc Dle.nil | exact Option.some_ne_none _ | exact Or.inl rfl | exact Or.inr trivial | omega | (simp only [Int.toNat_natCast] at *; omega) | (intro _ _ _ _; exact Dle.of_eq rfl) | refine And.intro ?_ ?_), ?_⟩
        | (refine ⟨fun i => t.getD i 0, fun i hi => Dle.refl _ _, ?_⟩)
        | (refine codeW_cond rfl ?_; first | (refine condW_dec ?_ ?_ <;> intro _ <;> try (exfalso; omega)) | refine condW_not ?_ | (refine condW_bool ?_ ?_ <;> intro _ <;> try (exfalso; omega)))
        | (refine facW_intro ?_; intro _)
        | refine Or.inl ?_
        | ((conv => whnf); first | (refine condW_dec ?_ ?_ <;> intro _ <;> try (exfalso; omega)) | refine condW_not ?_ | (refine condW_bool ?_ ?_ <;> intro _ <;> try (exfalso; omega)) | (refine nbC_t (fun _ => ?_) ?_) | (refine nbC_f ?_ (fun _ => ?_)))
        | refine And.intro (by first | omega | (simp only [Int.toNat_natCast] at *; omega) | (simp only [Nat.reduceAdd, Int.cast_ofNat_Int, true_and, and_true]; omega)  | kernel_rfl) ?_
        | refine RegW.run ?_
        | refine ⟨_, h1, ?_⟩
        | fail
      all_goals first
        | (exfalso; omega)
        | (have e := hr.trans (if_pos (by omega)); rw [e]; exact Dle.refl _ _)
        | (have e := hr.trans (if_neg (by omega)); rw [e, ← hmk]; exact Dle.refl _ _)
        | trace_state
    · rw [if_pos h6] at hr
      subst hr
      rw [hc] at h1
      refine Sp.body Tryz.func16 (by kernel_rfl) rfl (by kernel_rfl) (by kernel_rfl) (by kernel_rfl) ?_
      repeat' first
        | (refine codeW_cond rfl ?_; first | (refine condW_dec ?_ ?_ <;> intro _ <;> try (exfalso; omega)) | refine condW_not ?_ | (refine condW_bool ?_ ?_ <;> intro _ <;> try (exfalso; omega)))
        | (refine facW_intro ?_; intro _)
        | refine Or.inl ?_
        | ((conv => whnf); first | (refine condW_dec ?_ ?_ <;> intro _ <;> try (exfalso; omega)) | refine condW_not ?_ | (refine condW_bool ?_ ?_ <;> intro _ <;> try (exfalso; omega)) | (refine nbC_t (fun _ => ?_) ?_) | (refine nbC_f ?_ (fun _ => ?_)))
        | refine And.intro (by first | omega | (simp only [Int.toNat_natCast] at *; omega) | (simp only [Nat.reduceAdd, Int.cast_ofNat_Int, true_and, and_true]; omega)  | kernel_rfl) ?_
        | refine RegW.run ?_
        | refine ⟨_, h1, ?_⟩
        | fail
      all_goals first
        | (exfalso; omega)
        | exact Dle.refl _ _
        | trace_state
  · rw [if_pos hc] at hr
    subst hr
    generalize checkE v = e at h1 hc
    refine Sp.body Tryz.func16 (by kernel_rfl) rfl (by kernel_rfl) (by kernel_rfl) (by kernel_rfl) ?_
    repeat' first
      | (refine codeW_cond rfl ?_; first | (refine condW_dec ?_ ?_ <;> intro _ <;> try (exfalso; omega)) | refine condW_not ?_ | (refine condW_bool ?_ ?_ <;> intro _ <;> try (exfalso; omega)))
      | (refine facW_intro ?_; intro _)
      | refine Or.inl ?_
      | ((conv => whnf); first | (refine condW_dec ?_ ?_ <;> intro _ <;> try (exfalso; omega)) | refine condW_not ?_ | (refine condW_bool ?_ ?_ <;> intro _ <;> try (exfalso; omega)) | (refine nbC_t (fun _ => ?_) ?_) | (refine nbC_f ?_ (fun _ => ?_)))
      | refine And.intro (by first | omega | (simp only [Int.toNat_natCast] at *; omega) | (simp only [Nat.reduceAdd, Int.cast_ofNat_Int, true_and, and_true]; omega)  | kernel_rfl) ?_
      | refine RegW.run ?_
      | refine ⟨_, h1, ?_⟩
      | fail
    all_goals first
      | (exfalso; omega)
      | exact Dle.refl _ _
      | trace_state
end
end pn
end Go.Proofs.YtemiaognopgnnaaGreatDoor
namespace Go.Proofs.YtemiaognopgnnaaGreatDoor
open Go.RowKit
set_option linter.unusedVariables false
set_option linter.unusedSimpArgs false
namespace pn
open rp bl
/-- Bytes as a string. -/
def bs (l : List UInt8) : ByteArray := ⟨l.toArray⟩
theorem bs_size (l : List UInt8) : (bs l).size = l.length := by simp [bs, ByteArray.size]
theorem bs_list (s : ByteArray) : bs s.data.toList = s := by
  obtain ⟨⟨l⟩⟩ := s
  rfl
theorem bs_app (a b : List UInt8) : bs a ++ bs b = bs (a ++ b) := ByteArray.mk_append_mk _ _
theorem bs_str (a : List UInt8) (s : ByteArray) : bs a ++ s = bs (a ++ s.data.toList) := by
  have := bs_app a s.data.toList
  rwa [bs_list] at this
/-- Words in a row. -/
noncomputable def wL (ind : List UInt8) (l : List Vu) : List ByteArray := l.map fun x => bs (pvB ind x)
theorem wL_len (ind : List UInt8) (l : List Vu) : (wL ind l).length = l.length := by simp [wL]
theorem jn_wL (ind : List UInt8) (l : List Vu) (f : Bool) : jn [32] f (wL ind l) = pvF ind f l := by
  induction l generalizing f with
  | nil => cases f <;> simp [wL, jn, pvF]
  | cons x r ih =>
    have := ih false
    unfold wL at this ⊢
    rw [List.map_cons, jn, this, pvF]
    simp [bs]
theorem szL_wL (ind : List UInt8) : ∀ l : List Vu, szL (wL ind l) ≤ (pvF ind false l).length
  | [] => by simp [wL, szL]
  | x :: r => by
    have := szL_wL ind r
    unfold wL szL at this ⊢
    simp only [List.map_cons, List.sum_cons, pvF, List.length_append, bs_size]
    omega
theorem getD_snoc1 {L : List ByteArray} {w : ByteArray} {i : Nat} (h : i < L.length) : (L ++ [w]).getD i ⟨#[]⟩ = L.getD i ⟨#[]⟩ := by
  rw [List.getD_eq_getElem?_getD, List.getD_eq_getElem?_getD, List.getElem?_append_left h]
theorem getD_snoc2 {L : List ByteArray} {w : ByteArray} {i : Nat} (h : i = L.length) : (L ++ [w]).getD i ⟨#[]⟩ = w := by
  subst h
  rw [List.getD_eq_getElem?_getD, List.getElem?_append_right (Nat.le_refl _), Nat.sub_self]
  rfl
section
variable (E : Env)
set_option maxRecDepth 100000
set_option maxHeartbeats 8000000 in
theorem word_ref (hP : ∀ w, E.G w → P10 w) : ∀ (N : Nat) (v : Vu) (ind : ByteArray), SizeOf.sizeOf v < N → faultE v = 0 → v.i64 → cnt v ≤ 1000000 → v.wt ≤ 1000000000 → ind.size + 2 * lvl v ≤ 1000000 → (ind.size + 4 * lvl v + 210) * v.wt ≤ 1000000000000 →
    Sp (cx Tryz.prog mixed tyT_ok E) 42 [encV v, dS ind] (dS (bs (pvB ind.data.toList v)))
  | 0, v, _, h, _, _, _, _, _, _ => by omega
  | N + 1, v, ind, h, hf, hv, hc, hw, hind, hb => by
    have ih := fun x (hx : x ∈ v.items) ind' hfx => word_ref hP N x ind' (by have := items_lt v x hx; omega) hfx
    have hpl := pvB_len ind.data.toList v hv
    have hi0 : ind.size = ind.data.toList.length := by simp
    rw [← hi0] at hpl
    have hpl2 : (ind.size + 3 * lvl v + 200) * v.wt ≤ (ind.size + 4 * lvl v + 210) * v.wt := Nat.mul_le_mul_right _ (by omega)
    have hwp := wt_parts v
    have hff := fault_facts hf
    have hp := pvB_eq ind.data.toList v
    by_cases c3 : v.kind = 3
    · rw [if_pos c3] at hp
      rw [hp, bs_list]
      have h1 := newQ_l E 31 32 (by decide)
      have h2 := replQ_l E 32 v.text (by omega)
      have h3 : (repS qp v.text).size ≤ 100 * v.text.size := repS_size (l := qp) qp_prs v.text
      have hq : quo v.text = ⟨#[34]⟩ ++ repS qp v.text ++ ⟨#[34]⟩ := by unfold quo; rfl
      generalize quo v.text = q at hq
      generalize repS qp v.text = r at h2 h3 hq
      have hz1 : ((⟨#[34]⟩ : ByteArray) ++ r).size = 1 + r.size := ByteArray.size_append
      have hz0 : (⟨#[34]⟩ : ByteArray).size = 1 := rfl
      subst hq
      refine Sp.body Tryz.func42 (by kernel_rfl) rfl (by kernel_rfl) (by kernel_rfl) (by kernel_rfl) ?_
      repeat' first
        | refine Or.inr ⟨_, _, _, h1, by kernel_rfl, (by repeat' first | exact trivial | exact rfl | kernel_rfl | exact Dle.of_eq rfl | exact MLe.of_eq rfl | exact Dle.i (by omega) | exact Dle.i (by simp only [Int.toNat_natCast] at *; omega) | exact Dle.nil | exact Dle.rc Dle.nil | exact Option.some_ne_none _ | exact Or.inl rfl | exact Or.inr trivial | omega | (simp only [Int.toNat_natCast] at *; omega) | (intro _ _ _ _; exact Dle.of_eq rfl) | refine And.intro ?_ ?_), ?_⟩
        | refine Or.inr ⟨_, _, _, h2, by kernel_rfl, (by repeat' first | exact trivial | exact rfl | kernel_rfl | exact Dle.of_eq rfl | exact MLe.of_eq rfl | exact Dle.i (by omega) | exact Dle.i (by simp only [Int.toNat_natCast] at *; omega) | exact Dle.nil | exact Dle.rc Dle.nil | exact Option.some_ne_none _ | exact Or.inl rfl | exact Or.inr trivial | omega | (simp only [Int.toNat_natCast] at *; omega) | (intro _ _ _ _; exact Dle.of_eq rfl) | refine And.intro ?_ ?_), ?_⟩
        | (refine codeW_cond rfl ?_; first | (refine condW_dec ?_ ?_ <;> intro _ <;> try (exfalso; omega)) | refine condW_not ?_ | (refine condW_bool ?_ ?_ <;> intro _ <;> try (exfalso; omega)))
        | (refine facW_intro ?_; intro _)
        | refine Or.inl ?_
        | ((conv => whnf); first | (refine condW_dec ?_ ?_ <;> intro _ <;> try (exfalso; omega)) | refine condW_not ?_ | (refine condW_bool ?_ ?_ <;> intro _ <;> try (exfalso; omega)) | (refine nbC_t (fun _ => ?_) ?_) | (refine nbC_f ?_ (fun _ => ?_)))
        | refine And.intro (by first | omega | (simp only [Int.toNat_natCast] at *; omega) | (simp only [Nat.reduceAdd, Int.cast_ofNat_Int, true_and, and_true]; omega)  | kernel_rfl) ?_
        | refine RegW.run ?_
        | fail
      all_goals first
        | (exfalso; omega)
        | exact Dle.refl _ _
        | trace_state
    · rw [if_neg c3] at hp
      by_cases c5 : v.kind = 5
      · rw [if_pos c5] at hp
        have hil : v.items.length ≤ 1000000 := by have h1 := len_le_cntL v.items; have h2 := cnt_eq v; omega
        have hlen : v.items.length * 16 ≤ 16000000 := by omega
        refine Sp.body Tryz.func42 (by kernel_rfl) rfl (by kernel_rfl) (by kernel_rfl) (by kernel_rfl) ?_
        repeat' first
          | (refine codeW_cond rfl ?_; first | (refine condW_dec ?_ ?_ <;> intro _ <;> try (exfalso; omega)) | refine condW_not ?_ | (refine condW_bool ?_ ?_ <;> intro _ <;> try (exfalso; omega)))
          | (refine facW_intro ?_; intro _)
          | refine Or.inl ?_
          | ((conv => whnf); first | (refine condW_dec ?_ ?_ <;> intro _ <;> try (exfalso; omega)) | refine condW_not ?_ | (refine condW_bool ?_ ?_ <;> intro _ <;> try (exfalso; omega)) | (refine nbC_t (fun _ => ?_) ?_) | (refine nbC_f ?_ (fun _ => ?_)))
          | refine And.intro (by first | omega | (simp only [Int.toNat_natCast] at *; omega) | (simp only [Nat.reduceAdd, Int.cast_ofNat_Int, true_and, and_true]; omega)  | kernel_rfl) ?_
          | refine RegW.run ?_
          | fail
        refine ⟨Nat, fun q => [(43, i64 q), (5, .own 43 1 0 (wL ind.data.toList (v.items.take q)).length)], fun q => [], [2], fun q => [(43, 9, (wL ind.data.toList (v.items.take q)).length, fun i j => .v (.string ((wL ind.data.toList (v.items.take q)).getD i ⟨#[]⟩)))], fun q => q ≤ v.items.length, fun q => v.items.length - q, ⟨0, by omega, ⟨[(43, none)], ⟨by kernel_rfl, by kernel_rfl, by kernel_rfl, by kernel_rfl, by kernel_rfl, by kernel_rfl, by kernel_rfl⟩, (by repeat' first | exact trivial | exact rfl | kernel_rfl | exact Dle.of_eq rfl | exact MLe.of_eq rfl | exact Dle.i (by omega) | exact Dle.i (by simp only [Int.toNat_natCast] at *; omega) | exact Dle.nil | exact Dle.rc Dle.nil | exact Option.some_ne_none _ | exact Or.inl rfl | exact Or.inr trivial | omega | (simp only [Int.toNat_natCast] at *; omega) | (intro _ _ _ _; exact Dle.of_eq rfl) | refine And.intro ?_ ?_)⟩⟩, fun q hq => ?_⟩
        have hq2 : q ≤ v.items.length := hq
        have hll : (wL ind.data.toList (v.items.take q)).length ≤ 1000000 := by rw [wL_len, List.length_take]; omega
        by_cases hlt : q < v.items.length
        · have hm := getD_mem v.items .zero q hlt
          have g2 := cnt_mem v.items _ hm
          have g5 := cnt_eq v
          have g6 := wtL_tk v.items q hlt
          have g7 := lvl_mem v.items _ hm
          have g8 := lvl_eq v
          have g9 : (ind.size + 4 * lvl (v.items.getD q .zero) + 210) * ((v.items.getD q .zero)).wt ≤ (ind.size + 4 * lvl v + 210) * v.wt := Nat.mul_le_mul (by omega) (by omega)
          have h1 := ih (v.items.getD q .zero) hm ind (fault_memP hf hlt) (i64_mem hv hm) (by omega) (by omega) (by omega) (by omega)
          have e2 : (wL ind.data.toList (v.items.take (q + 1))) = (wL ind.data.toList (v.items.take q)) ++ [bs (pvB ind.data.toList (v.items.getD q .zero))] := by unfold wL; rw [take_snoc v.items .zero q hlt, List.map_append]; rfl
          have e3 : (wL ind.data.toList (v.items.take q)).length + 1 = (wL ind.data.toList (v.items.take (q + 1))).length := by rw [e2, List.length_append]; rfl
          have h9 : ∀ i j, i < (wL ind.data.toList (v.items.take q)).length + 1 → j < 1 → Dle (cx Tryz.prog mixed tyT_ok (E)) (if i < (wL ind.data.toList (v.items.take q)).length then .v (.string ((wL ind.data.toList (v.items.take q)).getD i ⟨#[]⟩)) else ([.v (.string (bs (pvB ind.data.toList (v.items.getD q .zero))))] : List DD).getD ((i - (wL ind.data.toList (v.items.take q)).length) * 1 + j) .opq) (.v (.string ((wL ind.data.toList (v.items.take (q + 1))).getD i ⟨#[]⟩))) := by
            rw [e2]
            intro i j hi hj
            obtain rfl : j = 0 := by omega
            by_cases hh : i < (wL ind.data.toList (v.items.take q)).length
            · rw [if_pos hh]
              exact Dle.s (getD_snoc1 hh).symm
            · rw [if_neg hh, show i - (wL ind.data.toList (v.items.take q)).length = 0 by omega]
              exact Dle.s (getD_snoc2 (by omega)).symm
          repeat' first
            | (refine codeW_cond rfl ?_; first | (refine condW_dec ?_ ?_ <;> intro _ <;> try (exfalso; omega)) | refine condW_not ?_ | (refine condW_bool ?_ ?_ <;> intro _ <;> try (exfalso; omega)))
            | (refine facW_intro ?_; intro _)
            | refine Or.inl ?_
            | ((conv => whnf); first | (refine condW_dec ?_ ?_ <;> intro _ <;> try (exfalso; omega)) | refine condW_not ?_ | (refine condW_bool ?_ ?_ <;> intro _ <;> try (exfalso; omega)) | (refine nbC_t (fun _ => ?_) ?_) | (refine nbC_f ?_ (fun _ => ?_)))
            | refine And.intro (by first | omega | (simp only [Int.toNat_natCast] at *; omega) | (simp only [Nat.reduceAdd, Int.cast_ofNat_Int, true_and, and_true]; omega)  | kernel_rfl) ?_
            | refine RegW.run ?_
            | refine ⟨_, h1, ?_⟩
            | fail
          all_goals first
            | (exfalso; omega)
            | exact ⟨q + 1, by omega, ⟨[(43, some 52)], ⟨by kernel_rfl, by kernel_rfl, by kernel_rfl, by kernel_rfl, by kernel_rfl, by kernel_rfl, by kernel_rfl⟩, (by repeat' first | (exact e3) | exact trivial | exact rfl | kernel_rfl | exact Dle.of_eq rfl | exact MLe.of_eq rfl | exact Dle.i (by omega) | exact Dle.i (by simp only [Int.toNat_natCast] at *; omega) | exact Dle.nil | exact Dle.rc Dle.nil | exact Option.some_ne_none _ | exact Or.inl rfl | exact Or.inr trivial | omega | (simp only [Int.toNat_natCast] at *; omega) | (intro _ _ _ _; exact Dle.of_eq rfl) | (intro i j hi hj; exact h9 i j hi hj) | refine And.intro ?_ ?_)⟩, by first | omega | (dsimp only; omega)⟩
            | trace_state
        · obtain rfl : q = v.items.length := by omega
          have e5 : v.items.take v.items.length = v.items := List.take_length
          have hwl : (pvF ind.data.toList false v.items).length ≤ 1000000000000 := by
            have hi : Vu.i64L v.items := by cases v; exact hv.2.2
            have h1 := pvF_len ind.data.toList false v.items hi
            have h2 : (ind.data.toList.length + 3 * lvlL v.items + 201) * Vu.wtL v.items ≤ (ind.size + 4 * lvl v + 210) * v.wt := Nat.mul_le_mul (by have := lvl_eq v; omega) (by omega)
            omega
          have hsz := szL_wL ind.data.toList v.items
          have h1 := join1_sp E (wL ind.data.toList (v.items.take v.items.length)) ⟨#[32]⟩ (by omega) (by decide) (by decide) (by rw [e5]; omega)
          have hjs := jnS_size (wL ind.data.toList (v.items.take v.items.length)) ⟨#[32]⟩
          have hz2 : (⟨#[32]⟩ : ByteArray).size = 1 := rfl
          have hjn : bs (pvB ind.data.toList v) = ⟨#[91]⟩ ++ jnS (wL ind.data.toList (v.items.take v.items.length)) ⟨#[32]⟩ ++ ⟨#[93]⟩ := by
            have e6 : jnS (wL ind.data.toList (v.items.take v.items.length)) ⟨#[32]⟩ = bs (pvF ind.data.toList true v.items) := by
              rw [e5]
              exact congrArg bs (jn_wL ind.data.toList v.items true)
            rw [e6, hp, show (⟨#[91]⟩ : ByteArray) = bs [91] from rfl, show (⟨#[93]⟩ : ByteArray) = bs [93] from rfl, bs_app, bs_app]
          rw [e5, hz2, Nat.one_mul] at hjs
          have hjs2 : (jnS (wL ind.data.toList (v.items.take v.items.length)) ⟨#[32]⟩).size ≤ 2000000000000 := by rw [e5]; have := wL_len ind.data.toList v.items; omega
          rw [hjn]
          generalize jnS (wL ind.data.toList (v.items.take v.items.length)) ⟨#[32]⟩ = r at h1 hjs2
          have hz0 : (⟨#[91]⟩ : ByteArray).size = 1 := rfl
          have hz3 : (⟨#[93]⟩ : ByteArray).size = 1 := rfl
          have hz1 : ((⟨#[91]⟩ : ByteArray) ++ r).size = 1 + r.size := ByteArray.size_append
          repeat' first
            | (refine codeW_cond rfl ?_; first | (refine condW_dec ?_ ?_ <;> intro _ <;> try (exfalso; omega)) | refine condW_not ?_ | (refine condW_bool ?_ ?_ <;> intro _ <;> try (exfalso; omega)))
            | (refine facW_intro ?_; intro _)
            | refine Or.inl ?_
            | ((conv => whnf); first | (refine condW_dec ?_ ?_ <;> intro _ <;> try (exfalso; omega)) | refine condW_not ?_ | (refine condW_bool ?_ ?_ <;> intro _ <;> try (exfalso; omega)) | (refine nbC_t (fun _ => ?_) ?_) | (refine nbC_f ?_ (fun _ => ?_)))
            | refine And.intro (by first | omega | (simp only [Int.toNat_natCast] at *; omega) | (simp only [Nat.reduceAdd, Int.cast_ofNat_Int, true_and, and_true]; omega)  | kernel_rfl) ?_
            | refine RegW.run ?_
            | refine ⟨_, h1, ?_⟩
            | fail
          all_goals first
            | (exfalso; omega)
            | exact Dle.refl _ _
            | trace_state
      · rw [if_neg c5] at hp
        by_cases c6 : v.kind = 6
        · rw [if_pos c6] at hp
          by_cases ck : v.keys.length = 0
          · rw [if_pos ck] at hp
            rw [hp, show bs [123, 125] = (⟨#[123, 125]⟩ : ByteArray) from rfl]
            refine Sp.body Tryz.func42 (by kernel_rfl) rfl (by kernel_rfl) (by kernel_rfl) (by kernel_rfl) ?_
            repeat' first
              | (refine codeW_cond rfl ?_; first | (refine condW_dec ?_ ?_ <;> intro _ <;> try (exfalso; omega)) | refine condW_not ?_ | (refine condW_bool ?_ ?_ <;> intro _ <;> try (exfalso; omega)))
              | (refine facW_intro ?_; intro _)
              | refine Or.inl ?_
              | ((conv => whnf); first | (refine condW_dec ?_ ?_ <;> intro _ <;> try (exfalso; omega)) | refine condW_not ?_ | (refine condW_bool ?_ ?_ <;> intro _ <;> try (exfalso; omega)) | (refine nbC_t (fun _ => ?_) ?_) | (refine nbC_f ?_ (fun _ => ?_)))
              | refine And.intro (by first | omega | (simp only [Int.toNat_natCast] at *; omega) | (simp only [Nat.reduceAdd, Int.cast_ofNat_Int, true_and, and_true]; omega)  | kernel_rfl) ?_
              | refine RegW.run ?_
              | fail
            all_goals first
              | (exfalso; omega)
              | exact Dle.refl _ _
              | trace_state
          · rw [if_neg ck] at hp
            have hkl := hff.2.2.1 c6
            have hil : v.items.length ≤ 1000000 := by have h1 := len_le_cntL v.items; have h2 := cnt_eq v; omega
            have hz3 : (⟨#[32, 32]⟩ : ByteArray).size = 2 := rfl
            have hz4 : (⟨#[32]⟩ : ByteArray).size = 1 := rfl
            have hz5 : (⟨#[10]⟩ : ByteArray).size = 1 := rfl
            have hz6 : (⟨#[125]⟩ : ByteArray).size = 1 := rfl
            have hi2 : (ind ++ ⟨#[32, 32]⟩).size = ind.size + 2 := by rw [ByteArray.size_append]; rfl
            have hi3 : (ind ++ ⟨#[32, 32]⟩).data.toList = ind.data.toList ++ [32, 32] := by simp
            have hib : (ind ++ ⟨#[32, 32]⟩) = bs (ind.data.toList ++ [32, 32]) := by rw [← hi3, bs_list]
            have hO0 : (⟨#[123, 10]⟩ : ByteArray) = bs ([123, 10] ++ prB (ind.data.toList ++ [32, 32]) (v.keys.take 0) (v.items.take 0)) := by simp [prB, bs]
            have hil2 : (ind.data.toList ++ [32, 32]).length = ind.size + 2 := by rw [List.length_append, ← hi0]; rfl
            have hwm : (ind.size + 2 + 4 * lvl v + 206) * v.wt ≤ (ind.size + 4 * lvl v + 210) * v.wt := Nat.mul_le_mul_right _ (by omega)
            refine Sp.body Tryz.func42 (by kernel_rfl) rfl (by kernel_rfl) (by kernel_rfl) (by kernel_rfl) ?_
            repeat' first
              | (refine codeW_cond rfl ?_; first | (refine condW_dec ?_ ?_ <;> intro _ <;> try (exfalso; omega)) | refine condW_not ?_ | (refine condW_bool ?_ ?_ <;> intro _ <;> try (exfalso; omega)))
              | (refine facW_intro ?_; intro _)
              | refine Or.inl ?_
              | ((conv => whnf); first | (refine condW_dec ?_ ?_ <;> intro _ <;> try (exfalso; omega)) | refine condW_not ?_ | (refine condW_bool ?_ ?_ <;> intro _ <;> try (exfalso; omega)) | (refine nbC_t (fun _ => ?_) ?_) | (refine nbC_f ?_ (fun _ => ?_)))
              | refine And.intro (by first | omega | (simp only [Int.toNat_natCast] at *; omega) | (simp only [Nat.reduceAdd, Int.cast_ofNat_Int, true_and, and_true]; omega)  | kernel_rfl) ?_
              | refine RegW.run ?_
              | fail
            refine ⟨Nat, fun q => [(65, i64 q), (8, dS (bs ([123, 10] ++ prB (ind.data.toList ++ [32, 32]) (v.keys.take q) (v.items.take q))))], fun q => [], [2], fun q => [], fun q => q ≤ v.keys.length, fun q => v.keys.length - q, ⟨0, by omega, ⟨[], ⟨by kernel_rfl, by kernel_rfl, by kernel_rfl, by kernel_rfl, by kernel_rfl, by kernel_rfl, by kernel_rfl⟩, (by repeat' first | (exact Dle.s hO0) | exact trivial | exact rfl | kernel_rfl | exact Dle.of_eq rfl | exact MLe.of_eq rfl | exact Dle.i (by omega) | exact Dle.i (by simp only [Int.toNat_natCast] at *; omega) | exact Dle.nil | exact Dle.rc Dle.nil | exact Option.some_ne_none _ | exact Or.inl rfl | exact Or.inr trivial | omega | (simp only [Int.toNat_natCast] at *; omega) | (intro _ _ _ _; exact Dle.of_eq rfl) | refine And.intro ?_ ?_)⟩⟩, fun q hq => ?_⟩
            have hq2 : q ≤ v.keys.length := hq
            by_cases hlt : q < v.keys.length
            · have hlt2 : q < v.items.length := by omega
              have hm := getD_mem v.items .zero q hlt2
              have hlb := line_bd v (ind.data.toList ++ [32, 32]) hv hkl q hlt2
              rw [hil2] at hlb
              have g2 := cnt_mem v.items _ hm
              have g5 := cnt_eq v
              have g6 := wtL_tk v.items q hlt2
              have g7 := lvl_mem v.items _ hm
              have g8 := lvl_eq v
              have hpx := pvB_len (ind.data.toList ++ [32, 32]) (v.items.getD q .zero) (i64_mem hv hm)
              rw [hil2] at hpx
              have hpx2 : (ind.size + 2 + 3 * lvl (v.items.getD q .zero) + 200) * ((v.items.getD q .zero)).wt ≤ (ind.size + 2 + 4 * lvl (v.items.getD q .zero) + 210) * ((v.items.getD q .zero)).wt := Nat.mul_le_mul_right _ (by omega)
              have h1 := ih (v.items.getD q .zero) hm (ind ++ ⟨#[32, 32]⟩) (fault_memP hf hlt2) (i64_mem hv hm) (by omega) (by omega) (by omega) (by rw [hi2]; omega)
              rw [hi3] at h1
              have hos : (bs ([123, 10] ++ prB (ind.data.toList ++ [32, 32]) (v.keys.take q) (v.items.take q))).size ≤ 1000000000010 := by rw [bs_size, List.length_append]; show 2 + _ ≤ _; omega
              have hws : (bs (pvB (ind.data.toList ++ [32, 32]) (v.items.getD q .zero))).size ≤ 1000000000000 := by rw [bs_size]; omega
              have e2 : bs ([123, 10] ++ prB (ind.data.toList ++ [32, 32]) (v.keys.take (q + 1)) (v.items.take (q + 1))) = bs ([123, 10] ++ prB (ind.data.toList ++ [32, 32]) (v.keys.take q) (v.items.take q)) ++ ((ind ++ ⟨#[32, 32]⟩) ++ (v.keys.getD q ⟨#[]⟩) ++ ⟨#[32]⟩ ++ bs (pvB (ind.data.toList ++ [32, 32]) (v.items.getD q .zero)) ++ ⟨#[10]⟩) := by
                rw [hib, bs_str (ind.data.toList ++ [32, 32]), show (⟨#[32]⟩ : ByteArray) = bs [32] from rfl, show (⟨#[10]⟩ : ByteArray) = bs [10] from rfl, bs_app, bs_app, bs_app, bs_app, prB_take _ _ _ hkl q hlt2]
                simp only [List.append_assoc]
              have hs2 : ((ind ++ ⟨#[32, 32]⟩) ++ (v.keys.getD q ⟨#[]⟩)).size = ind.size + 2 + ((v.keys.getD q ⟨#[]⟩)).size := by rw [ByteArray.size_append, hi2]
              have hs3 : ((ind ++ ⟨#[32, 32]⟩) ++ (v.keys.getD q ⟨#[]⟩) ++ ⟨#[32]⟩).size = ind.size + 2 + ((v.keys.getD q ⟨#[]⟩)).size + 1 := by rw [ByteArray.size_append, hs2]; rfl
              have hs4 : ((ind ++ ⟨#[32, 32]⟩) ++ (v.keys.getD q ⟨#[]⟩) ++ ⟨#[32]⟩ ++ bs (pvB (ind.data.toList ++ [32, 32]) (v.items.getD q .zero))).size = ind.size + 2 + ((v.keys.getD q ⟨#[]⟩)).size + 1 + (bs (pvB (ind.data.toList ++ [32, 32]) (v.items.getD q .zero))).size := by rw [ByteArray.size_append, hs3]
              have hs5 : ((ind ++ ⟨#[32, 32]⟩) ++ (v.keys.getD q ⟨#[]⟩) ++ ⟨#[32]⟩ ++ bs (pvB (ind.data.toList ++ [32, 32]) (v.items.getD q .zero)) ++ ⟨#[10]⟩).size = ind.size + 2 + ((v.keys.getD q ⟨#[]⟩)).size + 1 + (bs (pvB (ind.data.toList ++ [32, 32]) (v.items.getD q .zero))).size + 1 := by rw [ByteArray.size_append, hs4]; rfl
              repeat' first
                | (refine codeW_cond rfl ?_; first | (refine condW_dec ?_ ?_ <;> intro _ <;> try (exfalso; omega)) | refine condW_not ?_ | (refine condW_bool ?_ ?_ <;> intro _ <;> try (exfalso; omega)))
                | (refine facW_intro ?_; intro _)
                | refine Or.inl ?_
                | ((conv => whnf); first | (refine condW_dec ?_ ?_ <;> intro _ <;> try (exfalso; omega)) | refine condW_not ?_ | (refine condW_bool ?_ ?_ <;> intro _ <;> try (exfalso; omega)) | (refine nbC_t (fun _ => ?_) ?_) | (refine nbC_f ?_ (fun _ => ?_)))
                | refine And.intro (by first | omega | (simp only [Int.toNat_natCast] at *; omega) | (simp only [Nat.reduceAdd, Int.cast_ofNat_Int, true_and, and_true]; omega)  | kernel_rfl) ?_
                | refine RegW.run ?_
                | refine ⟨_, h1, ?_⟩
                | fail
              all_goals first
                | (exfalso; omega)
                | exact ⟨q + 1, by omega, ⟨[], ⟨by kernel_rfl, by kernel_rfl, by kernel_rfl, by kernel_rfl, by kernel_rfl, by kernel_rfl, by kernel_rfl⟩, (by repeat' first | (exact Dle.s e2.symm) | exact trivial | exact rfl | kernel_rfl | exact Dle.of_eq rfl | exact MLe.of_eq rfl | exact Dle.i (by omega) | exact Dle.i (by simp only [Int.toNat_natCast] at *; omega) | exact Dle.nil | exact Dle.rc Dle.nil | exact Option.some_ne_none _ | exact Or.inl rfl | exact Or.inr trivial | omega | (simp only [Int.toNat_natCast] at *; omega) | (intro _ _ _ _; exact Dle.of_eq rfl) | refine And.intro ?_ ?_)⟩, by first | omega | (dsimp only; omega)⟩
                | trace_state
            · obtain rfl : q = v.keys.length := by omega
              have e4 : v.keys.take v.keys.length = v.keys := List.take_length
              have e5 : v.items.take v.keys.length = v.items := by rw [hkl]; exact List.take_length
              have hpn : bs (pvB ind.data.toList v) = bs ([123, 10] ++ prB (ind.data.toList ++ [32, 32]) (v.keys.take v.keys.length) (v.items.take v.keys.length)) ++ ind ++ ⟨#[125]⟩ := by
                rw [bs_str, show (⟨#[125]⟩ : ByteArray) = bs [125] from rfl, bs_app, e4, e5, hp]
              have hos : (bs ([123, 10] ++ prB (ind.data.toList ++ [32, 32]) (v.keys.take v.keys.length) (v.items.take v.keys.length))).size + ind.size ≤ 1000000000010 := by
                have e6 : (pvB ind.data.toList v).length = ([123, 10] ++ prB (ind.data.toList ++ [32, 32]) (v.keys.take v.keys.length) (v.items.take v.keys.length)).length + ind.size + 1 := by rw [hp, e4, e5, List.length_append, List.length_append, ← hi0]; rfl
                rw [bs_size]
                omega
              have hs6 : (bs ([123, 10] ++ prB (ind.data.toList ++ [32, 32]) (v.keys.take v.keys.length) (v.items.take v.keys.length)) ++ ind).size = (bs ([123, 10] ++ prB (ind.data.toList ++ [32, 32]) (v.keys.take v.keys.length) (v.items.take v.keys.length))).size + ind.size := ByteArray.size_append
              rw [hpn]
              repeat' first
                | (refine codeW_cond rfl ?_; first | (refine condW_dec ?_ ?_ <;> intro _ <;> try (exfalso; omega)) | refine condW_not ?_ | (refine condW_bool ?_ ?_ <;> intro _ <;> try (exfalso; omega)))
                | (refine facW_intro ?_; intro _)
                | refine Or.inl ?_
                | ((conv => whnf); first | (refine condW_dec ?_ ?_ <;> intro _ <;> try (exfalso; omega)) | refine condW_not ?_ | (refine condW_bool ?_ ?_ <;> intro _ <;> try (exfalso; omega)) | (refine nbC_t (fun _ => ?_) ?_) | (refine nbC_f ?_ (fun _ => ?_)))
                | refine And.intro (by first | omega | (simp only [Int.toNat_natCast] at *; omega) | (simp only [Nat.reduceAdd, Int.cast_ofNat_Int, true_and, and_true]; omega)  | kernel_rfl) ?_
                | refine RegW.run ?_
                | fail
              all_goals first
                | (exfalso; omega)
                | exact Dle.refl _ _
                | trace_state
        · rw [if_neg c6] at hp
          rw [hp, bs_list]
          have hi : -9223372036854775808 ≤ v.i ∧ v.i ≤ 9223372036854775807 := by cases v; exact hv.2.1
          have h1 := (itoa_sp E hP v.i).resolve_right (fun h => h hi)
          by_cases h4 : v.kind = 4
          · have h2 := stringOfDay_sp E v.i (hff.2.2.2 h4).1 (hff.2.2.2 h4).2
            refine Sp.body Tryz.func42 (by kernel_rfl) rfl (by kernel_rfl) (by kernel_rfl) (by kernel_rfl) ?_
            repeat' first
              | (refine codeW_cond rfl ?_; first | (refine condW_dec ?_ ?_ <;> intro _ <;> try (exfalso; omega)) | refine condW_not ?_ | (refine condW_bool ?_ ?_ <;> intro _ <;> try (exfalso; omega)))
              | (refine facW_intro ?_; intro _)
              | refine Or.inl ?_
              | ((conv => whnf); first | (refine condW_dec ?_ ?_ <;> intro _ <;> try (exfalso; omega)) | refine condW_not ?_ | (refine condW_bool ?_ ?_ <;> intro _ <;> try (exfalso; omega)) | (refine nbC_t (fun _ => ?_) ?_) | (refine nbC_f ?_ (fun _ => ?_)))
              | refine And.intro (by first | omega | (simp only [Int.toNat_natCast] at *; omega) | (simp only [Nat.reduceAdd, Int.cast_ofNat_Int, true_and, and_true]; omega)  | kernel_rfl) ?_
              | refine RegW.run ?_
              | refine ⟨_, h1, ?_⟩
              | refine ⟨_, h2, ?_⟩
              | fail
            all_goals first
              | (exfalso; omega)
              | exact Dle.s (by unfold wordS; grind)
              | trace_state
          · refine Sp.body Tryz.func42 (by kernel_rfl) rfl (by kernel_rfl) (by kernel_rfl) (by kernel_rfl) ?_
            repeat' first
              | (refine codeW_cond rfl ?_; first | (refine condW_dec ?_ ?_ <;> intro _ <;> try (exfalso; omega)) | refine condW_not ?_ | (refine condW_bool ?_ ?_ <;> intro _ <;> try (exfalso; omega)))
              | (refine facW_intro ?_; intro _)
              | refine Or.inl ?_
              | ((conv => whnf); first | (refine condW_dec ?_ ?_ <;> intro _ <;> try (exfalso; omega)) | refine condW_not ?_ | (refine condW_bool ?_ ?_ <;> intro _ <;> try (exfalso; omega)) | (refine nbC_t (fun _ => ?_) ?_) | (refine nbC_f ?_ (fun _ => ?_)))
              | refine And.intro (by first | omega | (simp only [Int.toNat_natCast] at *; omega) | (simp only [Nat.reduceAdd, Int.cast_ofNat_Int, true_and, and_true]; omega)  | kernel_rfl) ?_
              | refine RegW.run ?_
              | refine ⟨_, h1, ?_⟩
              | fail
            all_goals first
              | (exfalso; omega)
              | exact Dle.s (by unfold wordS; grind)
              | trace_state
end
end pn
end Go.Proofs.YtemiaognopgnnaaGreatDoor
