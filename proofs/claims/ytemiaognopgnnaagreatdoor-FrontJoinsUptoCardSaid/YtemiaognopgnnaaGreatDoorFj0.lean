/-
  The reference's PrintOf; the law's walk. conf.Join, the reference's JoinOf.
-/
import Derived.Test.YtemiaognopgnnaaGreatDoorPn6
import Derived.Test.YtemiaognopgnnaaGreatDoorS2
namespace Go.Proofs.YtemiaognopgnnaaGreatDoor
open Go.RowKit
set_option linter.unusedVariables false
set_option linter.unusedSimpArgs false
namespace pn
open rp bl
section
variable (E : Env)
set_option maxRecDepth 100000
set_option maxHeartbeats 4000000 in
theorem printOf_sp (hP : ∀ w, E.G w → P10 w) (v : Vu) (hv : v.i64) (hw : v.wt ≤ 5000000) : Sp (cx Tryz.prog mixed tyT_ok E) 17 [encV v] (.tup [dS (printR v).1, i64 (printR v).2]) := by
  have h1 := confCheck_sp E v (by have := cnt_le_wt v; omega)
  obtain ⟨r, hr⟩ : ∃ r, r = printR v := ⟨_, rfl⟩
  rw [← hr]
  unfold printR at hr
  by_cases hc : checkE v = 0
  · rw [if_neg (fun h => h hc)] at hr
    rw [hc] at h1
    by_cases h6 : v.kind = 6
    · rw [if_neg (fun h => h h6)] at hr
      obtain ⟨hf, hcn, hlv⟩ := check_facts hc
      have hff := fault_facts hf
      have hkl := hff.2.2.1 h6
      have htl := txt_len v hv hw hlv
      have hz4 : (⟨#[32]⟩ : ByteArray).size = 1 := rfl
      have hz5 : (⟨#[10]⟩ : ByteArray).size = 1 := rfl
      have hO0 : (⟨#[]⟩ : ByteArray) = bs (prB [] (v.keys.take 0) (v.items.take 0)) := by simp [prB, bs]
      have hwm : (0 + 4 * lvl v + 206) * v.wt ≤ 300 * 5000000 := Nat.mul_le_mul (by omega) hw
      refine Sp.body Tryz.func17 (by kernel_rfl) rfl (by kernel_rfl) (by kernel_rfl) (by kernel_rfl) ?_
      repeat' first
        | (refine codeW_cond rfl ?_; first | (refine condW_dec ?_ ?_ <;> intro _ <;> try (exfalso; omega)) | refine condW_not ?_ | (refine condW_bool ?_ ?_ <;> intro _ <;> try (exfalso; omega)))
        | (refine facW_intro ?_; intro _)
        | refine Or.inl ?_
        | ((conv => whnf); first | (refine condW_dec ?_ ?_ <;> intro _ <;> try (exfalso; omega)) | refine condW_not ?_ | (refine condW_bool ?_ ?_ <;> intro _ <;> try (exfalso; omega)) | (refine nbC_t (fun _ => ?_) ?_) | (refine nbC_f ?_ (fun _ => ?_)))
        | refine And.intro (by first | omega | (simp only [Int.toNat_natCast] at *; omega) | (simp only [Nat.reduceAdd, Int.cast_ofNat_Int, true_and, and_true]; omega)  | kernel_rfl) ?_
        | refine RegW.run ?_
        | refine ⟨_, h1, ?_⟩
        | fail
      refine ⟨Nat, fun q => [(19, i64 q), (5, dS (bs (prB [] (v.keys.take q) (v.items.take q))))], fun q => [], [1], fun q => [], fun q => q ≤ v.keys.length, fun q => v.keys.length - q, ⟨0, by omega, ⟨[], ⟨by kernel_rfl, by kernel_rfl, by kernel_rfl, by kernel_rfl, by kernel_rfl, by kernel_rfl, by kernel_rfl⟩, (by repeat' first | (exact Dle.s hO0) | exact trivial | exact rfl | kernel_rfl | exact Dle.of_eq rfl | exact MLe.of_eq rfl | exact Dle.i (by omega) | exact Dle.i (by simp only [Int.toNat_natCast] at *; omega) | exact Dle.nil | exact Dle.rc Dle.nil | exact Option.some_ne_none _ | exact Or.inl rfl | exact Or.inr trivial | omega | (simp only [Int.toNat_natCast] at *; omega) | (intro _ _ _ _; exact Dle.of_eq rfl) | refine And.intro ?_ ?_)⟩⟩, fun q hq => ?_⟩
      have hq2 : q ≤ v.keys.length := hq
      by_cases hlt : q < v.keys.length
      · have hlt2 : q < v.items.length := by omega
        have hm := getD_mem v.items .zero q hlt2
        have hlb := line_bd v [] hv hkl q hlt2
        simp only [List.length_nil] at hlb
        have g2 := cnt_mem v.items _ hm
        have g5 := cnt_eq v
        have g6 := wtL_tk v.items q hlt2
        have g7 := lvl_mem v.items _ hm
        have g8 := lvl_eq v
        have g9 := wt_le hm
        have hpx := pvB_len [] (v.items.getD q .zero) (i64_mem hv hm)
        simp only [List.length_nil] at hpx
        have hpx2 : (0 + 3 * lvl (v.items.getD q .zero) + 200) * (v.items.getD q .zero).wt ≤ (0 + 4 * lvl (v.items.getD q .zero) + 210) * (v.items.getD q .zero).wt := Nat.mul_le_mul_right _ (by omega)
        have h2 : Sp (cx Tryz.prog mixed tyT_ok (E)) 42 [encV (v.items.getD q .zero), dS ⟨#[]⟩] (dS (bs (pvB [] (v.items.getD q .zero)))) :=
          word_ref E hP _ (v.items.getD q .zero) ⟨#[]⟩ (Nat.lt_succ_self _) (fault_memP hf hlt2) (i64_mem hv hm) (by omega) (by omega) (by show 0 + _ ≤ _; omega) (by show (0 + _ + 210) * _ ≤ _; omega)
        have hos : (bs (prB [] (v.keys.take q) (v.items.take q))).size ≤ 1500000000 := by rw [bs_size]; omega
        have hws : (bs (pvB [] (v.items.getD q .zero))).size ≤ 1500000000 := by rw [bs_size]; omega
        have e2 : bs (prB [] (v.keys.take (q + 1)) (v.items.take (q + 1))) = bs (prB [] (v.keys.take q) (v.items.take q)) ++ (v.keys.getD q ⟨#[]⟩ ++ ⟨#[32]⟩ ++ bs (pvB [] (v.items.getD q .zero)) ++ ⟨#[10]⟩) := by
          rw [show v.keys.getD q ⟨#[]⟩ ++ ⟨#[32]⟩ = bs ((v.keys.getD q ⟨#[]⟩).data.toList ++ [32]) by rw [← bs_app, bs_list]; rfl, show (⟨#[10]⟩ : ByteArray) = bs [10] from rfl, bs_app, bs_app, bs_app, prB_take _ _ _ hkl q hlt2]
          simp only [List.append_assoc, List.nil_append]
        have hs3 : (v.keys.getD q ⟨#[]⟩ ++ ⟨#[32]⟩).size = (v.keys.getD q ⟨#[]⟩).size + 1 := by rw [ByteArray.size_append]; rfl
        have hs4 : (v.keys.getD q ⟨#[]⟩ ++ ⟨#[32]⟩ ++ bs (pvB [] (v.items.getD q .zero))).size = (v.keys.getD q ⟨#[]⟩).size + 1 + (bs (pvB [] (v.items.getD q .zero))).size := by rw [ByteArray.size_append, hs3]
        have hs5 : (v.keys.getD q ⟨#[]⟩ ++ ⟨#[32]⟩ ++ bs (pvB [] (v.items.getD q .zero)) ++ ⟨#[10]⟩).size = (v.keys.getD q ⟨#[]⟩).size + 1 + (bs (pvB [] (v.items.getD q .zero))).size + 1 := by rw [ByteArray.size_append, hs4]; rfl
        repeat' first
          | (refine codeW_cond rfl ?_; first | (refine condW_dec ?_ ?_ <;> intro _ <;> try (exfalso; omega)) | refine condW_not ?_ | (refine condW_bool ?_ ?_ <;> intro _ <;> try (exfalso; omega)))
          | (refine facW_intro ?_; intro _)
          | refine Or.inl ?_
          | ((conv => whnf); first | (refine condW_dec ?_ ?_ <;> intro _ <;> try (exfalso; omega)) | refine condW_not ?_ | (refine condW_bool ?_ ?_ <;> intro _ <;> try (exfalso; omega)) | (refine nbC_t (fun _ => ?_) ?_) | (refine nbC_f ?_ (fun _ => ?_)))
          | refine And.intro (by first | omega | (simp only [Int.toNat_natCast] at *; omega) | (simp only [Nat.reduceAdd, Int.cast_ofNat_Int, true_and, and_true]; omega)  | kernel_rfl) ?_
          | refine RegW.run ?_
          | refine ⟨_, h2, ?_⟩
          | fail
        all_goals first
          | (exfalso; omega)
          | exact ⟨q + 1, by omega, ⟨[], ⟨by kernel_rfl, by kernel_rfl, by kernel_rfl, by kernel_rfl, by kernel_rfl, by kernel_rfl, by kernel_rfl⟩, (by repeat' first | (exact Dle.s e2.symm) | exact trivial | exact rfl | kernel_rfl | exact Dle.of_eq rfl | exact MLe.of_eq rfl | exact Dle.i (by omega) | exact Dle.i (by simp only [Int.toNat_natCast] at *; omega) | exact Dle.nil | exact Dle.rc Dle.nil | exact Option.some_ne_none _ | exact Or.inl rfl | exact Or.inr trivial | omega | (simp only [Int.toNat_natCast] at *; omega) | (intro _ _ _ _; exact Dle.of_eq rfl) | refine And.intro ?_ ?_)⟩, by first | omega | (dsimp only; omega)⟩
          | trace_state
      · obtain rfl : q = v.keys.length := by omega
        have e4 : v.keys.take v.keys.length = v.keys := List.take_length
        have e5 : v.items.take v.keys.length = v.items := by rw [hkl]; exact List.take_length
        have e6 : bs (prB [] (v.keys.take v.keys.length) (v.items.take v.keys.length)) = ⟨(txtL v).toArray⟩ := by rw [e4, e5]; rfl
        have e7 : (bs (prB [] (v.keys.take v.keys.length) (v.items.take v.keys.length))).size = (txtL v).length := by rw [bs_size, e4, e5]; rfl
        repeat' first
          | (refine codeW_cond rfl ?_; first | (refine condW_dec ?_ ?_ <;> intro _ <;> try (exfalso; omega)) | refine condW_not ?_ | (refine condW_bool ?_ ?_ <;> intro _ <;> try (exfalso; omega)))
          | (refine facW_intro ?_; intro _)
          | refine Or.inl ?_
          | ((conv => whnf); first | (refine condW_dec ?_ ?_ <;> intro _ <;> try (exfalso; omega)) | refine condW_not ?_ | (refine condW_bool ?_ ?_ <;> intro _ <;> try (exfalso; omega)) | (refine nbC_t (fun _ => ?_) ?_) | (refine nbC_f ?_ (fun _ => ?_)))
          | refine And.intro (by first | omega | (simp only [Int.toNat_natCast] at *; omega) | (simp only [Nat.reduceAdd, Int.cast_ofNat_Int, true_and, and_true]; omega)  | kernel_rfl) ?_
          | refine RegW.run ?_
          | fail
        all_goals first
          | (exfalso; omega)
          | (have e := hr.trans (if_pos (by omega)); rw [e]; exact Dle.refl _ _)
          | (have e := hr.trans (if_neg (by omega)); rw [e, ← e6]; exact Dle.refl _ _)
          | trace_state
    · rw [if_pos h6] at hr
      subst hr
      refine Sp.body Tryz.func17 (by kernel_rfl) rfl (by kernel_rfl) (by kernel_rfl) (by kernel_rfl) ?_
      repeat' first
        | (refine codeW_cond rfl ?_; first | (refine condW_dec ?_ ?_ <;> intro _ <;> try (exfalso; omega)) | refine condW_not ?_ | (refine condW_bool ?_ ?_ <;> intro _ <;> try (exfalso; omega)))
        | (refine facW_intro ?_; intro _)
        | refine Or.inl ?_
        | ((conv => whnf); first | (refine condW_dec ?_ ?_ <;> intro _ <;> try (exfalso; omega)) | refine condW_not ?_ | (refine condW_bool ?_ ?_ <;> intro _ <;> try (exfalso; omega)) | (refine nbC_t (fun _ => ?_) ?_) | (refine nbC_f ?_ (fun _ => ?_)))
        | refine And.intro (by first | omega | (simp only [Int.toNat_natCast] at *; omega) | (simp only [Nat.reduceAdd, Int.cast_ofNat_Int, true_and, and_true]; omega)  | kernel_rfl) ?_
        | refine RegW.run ?_
        | refine ⟨_, h1, ?_⟩
        | fail
      all_goals first
        | (exfalso; omega)
        | exact Dle.refl _ _
        | trace_state
  · rw [if_pos hc] at hr
    subst hr
    generalize checkE v = e at h1 hc
    refine Sp.body Tryz.func17 (by kernel_rfl) rfl (by kernel_rfl) (by kernel_rfl) (by kernel_rfl) ?_
    repeat' first
      | (refine codeW_cond rfl ?_; first | (refine condW_dec ?_ ?_ <;> intro _ <;> try (exfalso; omega)) | refine condW_not ?_ | (refine condW_bool ?_ ?_ <;> intro _ <;> try (exfalso; omega)))
      | (refine facW_intro ?_; intro _)
      | refine Or.inl ?_
      | ((conv => whnf); first | (refine condW_dec ?_ ?_ <;> intro _ <;> try (exfalso; omega)) | refine condW_not ?_ | (refine condW_bool ?_ ?_ <;> intro _ <;> try (exfalso; omega)) | (refine nbC_t (fun _ => ?_) ?_) | (refine nbC_f ?_ (fun _ => ?_)))
      | refine And.intro (by first | omega | (simp only [Int.toNat_natCast] at *; omega) | (simp only [Nat.reduceAdd, Int.cast_ofNat_Int, true_and, and_true]; omega)  | kernel_rfl) ?_
      | refine RegW.run ?_
      | refine ⟨_, h1, ?_⟩
      | fail
    all_goals first
      | (exfalso; omega)
      | exact Dle.refl _ _
      | trace_state
theorem confPrints_sp (hP : ∀ w, E.G w → P10 w) (v : Vu) (hv : v.i64) (hw : v.wt ≤ 5000000) : Sp (cx Tryz.prog mixed tyT_ok E) 4 [encV v] (dB true) := by
  have h1 := print_sp E hP v hv hw
  have h2 := printOf_sp E hP v hv hw
  generalize printR v = r at h1 h2
  refine Sp.body Tryz.func4 (by kernel_rfl) rfl (by kernel_rfl) (by kernel_rfl) (by kernel_rfl) ?_
  repeat' first
    | (refine codeW_cond rfl ?_; first | (refine condW_dec ?_ ?_ <;> intro _ <;> try (exfalso; omega)) | refine condW_not ?_ | (refine condW_bool ?_ ?_ <;> intro _ <;> try (exfalso; omega)))
    | (refine facW_intro ?_; intro _)
    | refine Or.inl ?_
    | ((conv => whnf); first | (refine condW_dec ?_ ?_ <;> intro _ <;> try (exfalso; omega)) | refine condW_not ?_ | (refine condW_bool ?_ ?_ <;> intro _ <;> try (exfalso; omega)) | (refine nbC_t (fun _ => ?_) ?_) | (refine nbC_f ?_ (fun _ => ?_)))
    | refine And.intro (by first | omega | (simp only [Int.toNat_natCast] at *; omega) | (simp only [Nat.reduceAdd, Int.cast_ofNat_Int, true_and, and_true]; omega)  | kernel_rfl) ?_
    | refine RegW.run ?_
    | refine ⟨_, h1, ?_⟩
    | refine ⟨_, h2, ?_⟩
    | fail
  all_goals first
    | (exfalso; rename_i h; exact h rfl)
    | exact Dle.bo (by simp)
    | trace_state
end
end pn
end Go.Proofs.YtemiaognopgnnaaGreatDoor
namespace Go.Proofs.YtemiaognopgnnaaGreatDoor
open Go.RowKit
set_option linter.unusedVariables false
set_option linter.unusedSimpArgs false
namespace fj
open pn
def c1 (s : ByteArray) : ByteArray := ⟨(Lib.cut s.data.toList [10]).1.toArray⟩
def c2 (s : ByteArray) : ByteArray := ⟨(Lib.cut s.data.toList [10]).2.1.toArray⟩
def c3 (s : ByteArray) : Bool := (Lib.cut s.data.toList [10]).2.2
theorem cut_size (s : ByteArray) : (c1 s).size ≤ s.size ∧ (c2 s).size ≤ s.size := by
  have h : (Lib.cut s.data.toList [10]).1.length ≤ s.data.toList.length ∧ (Lib.cut s.data.toList [10]).2.1.length ≤ s.data.toList.length := by
    unfold Lib.cut
    split
    · simp
      omega
    · simp
  exact h
/-- A border line. -/
def bdr : ByteArray := ⟨#[37, 37, 37]⟩
def bdrN : ByteArray := ⟨#[37, 37, 37, 10]⟩
/-- What Join writes. -/
noncomputable def outJ (v : Vu) (t rest : ByteArray) : ByteArray := if 0 < v.keys.length ∨ c1 rest = bdr then bdrN ++ t ++ bdr ++ ⟨#[10]⟩ ++ rest else rest
noncomputable def joinR (v : Vu) (rest : ByteArray) : ByteArray × Int := if (printR v).2 ≠ 0 then (⟨#[]⟩, (printR v).2) else if 20000 < (outJ v (printR v).1 rest).size then (⟨#[]⟩, 4) else (outJ v (printR v).1 rest, 0)
theorem printR_size (v : Vu) : (printR v).1.size ≤ 50000 := by
  unfold printR
  split
  · exact Nat.zero_le _
  · split
    · exact Nat.zero_le _
    · split
      · exact Nat.zero_le _
      · show (List.toArray _).size ≤ _
        simp
        omega
section
variable (E : Env)
set_option maxRecDepth 100000
theorem cut_sp (hML : ∀ w, E.G w → ML w) (s : ByteArray) (hs : s.size < 4294967281) : Sp (cx Tryz.prog mixed tyT_ok E) 44 [dS s, dS ⟨#[10]⟩] (.tup [dS (c1 s), dS (c2 s), dB (c3 s)]) := by
  refine Sp.of_new (vs := [.string s, .string ⟨#[10]⟩]) ⟨_, _, Tryz.func44, by kernel_rfl, rfl⟩ ?_
  intro w hG hok
  obtain ⟨m, hm⟩ := hML w hG
  refine (Tryz.strings_Cut s ⟨#[10]⟩ m w hs hm).mono fun e w' ⟨he, n, hw⟩ => ?_
  subst hw
  have hsz := cut_size s
  refine ⟨_, he, (Below.refl _ _).trans ⟨rfl, rfl, rfl, Nat.le_refl _, fun _ _ => rfl⟩, fun M β => .tup rfl (fun i d hi => ?_)⟩
  match i, hi with
  | 0, hi =>
    obtain rfl : _ = d := by simpa using hi
    exact .v (decide_eq_true (show (c1 s).size ≤ 9223372036854775807 by omega))
  | 1, hi =>
    obtain rfl : _ = d := by simpa using hi
    exact .v (decide_eq_true (show (c2 s).size ≤ 9223372036854775807 by omega))
  | 2, hi =>
    obtain rfl : _ = d := by simpa using hi
    exact .v rfl
theorem cutLine_sp (hML : ∀ w, E.G w → ML w) (s : ByteArray) (hs : s.size < 4294967281) : Sp (cx Tryz.prog mixed tyT_ok E) 43 [dS s] (.tup [dS (c1 s), dS (c2 s)]) := by
  have h1 := cut_sp E hML s hs
  refine Sp.body Tryz.func43 (by kernel_rfl) rfl (by kernel_rfl) (by kernel_rfl) (by kernel_rfl) ?_
  repeat' first
    | (refine codeW_cond rfl ?_; first | (refine condW_dec ?_ ?_ <;> intro _ <;> try (exfalso; omega)) | refine condW_not ?_ | (refine condW_bool ?_ ?_ <;> intro _ <;> try (exfalso; omega)))
    | (refine facW_intro ?_; intro _)
    | refine Or.inl ?_
    | ((conv => whnf); first | (refine condW_dec ?_ ?_ <;> intro _ <;> try (exfalso; omega)) | refine condW_not ?_ | (refine condW_bool ?_ ?_ <;> intro _ <;> try (exfalso; omega)) | (refine nbC_t (fun _ => ?_) ?_) | (refine nbC_f ?_ (fun _ => ?_)))
    | refine And.intro (by first | omega | (simp only [Int.toNat_natCast] at *; omega) | (simp only [Nat.reduceAdd, Int.cast_ofNat_Int, true_and, and_true]; omega)  | kernel_rfl) ?_
    | refine RegW.run ?_
    | refine ⟨_, h1, ?_⟩
    | fail
  all_goals first
    | exact Dle.refl _ _
    | trace_state
set_option maxHeartbeats 4000000 in
theorem join_sp (hP : ∀ w, E.G w → P10 w) (hML : ∀ w, E.G w → ML w) (v : Vu) (rest : ByteArray) (hv : v.i64) (hw : v.wt ≤ 5000000) (hr : rest.size ≤ 1000000000) : Sp (cx Tryz.prog mixed tyT_ok E) 18 [encV v, dS rest] (.tup [dS (joinR v rest).1, i64 (joinR v rest).2]) := by
  have h1 := print_sp E hP v hv hw
  have h2 := cutLine_sp E hML rest (by omega)
  have hps := printR_size v
  obtain ⟨r, hrr⟩ : ∃ r, r = joinR v rest := ⟨_, rfl⟩
  rw [← hrr]
  unfold joinR outJ at hrr
  generalize printR v = p at h1 hps hrr
  generalize c1 rest = a at h2 hrr
  generalize c2 rest = b at h2
  have hz0 : bdrN.size = 4 := rfl
  have hz1 : bdr.size = 3 := rfl
  have hz2 : (⟨#[37, 37, 37, 10]⟩ : ByteArray).size = 4 := rfl
  have hz3 : (⟨#[37, 37, 37]⟩ : ByteArray).size = 3 := rfl
  have hz4 : (⟨#[10]⟩ : ByteArray).size = 1 := rfl
  have hs1 : ((⟨#[37, 37, 37, 10]⟩ : ByteArray) ++ p.1).size = 4 + p.1.size := by rw [ByteArray.size_append]; rfl
  have hs2 : ((⟨#[37, 37, 37, 10]⟩ : ByteArray) ++ p.1 ++ ⟨#[37, 37, 37]⟩).size = 4 + p.1.size + 3 := by rw [ByteArray.size_append, hs1]; rfl
  have hs3 : ((⟨#[37, 37, 37, 10]⟩ : ByteArray) ++ p.1 ++ ⟨#[37, 37, 37]⟩ ++ ⟨#[10]⟩).size = 4 + p.1.size + 3 + 1 := by rw [ByteArray.size_append, hs2]; rfl
  have hs4 : ((⟨#[37, 37, 37, 10]⟩ : ByteArray) ++ p.1 ++ ⟨#[37, 37, 37]⟩ ++ ⟨#[10]⟩ ++ rest).size = 4 + p.1.size + 3 + 1 + rest.size := by rw [ByteArray.size_append, hs3]
  unfold bdrN bdr at hrr
  refine Sp.body Tryz.func18 (by kernel_rfl) rfl (by kernel_rfl) (by kernel_rfl) (by kernel_rfl) ?_
  repeat' first
    | (refine codeW_cond rfl ?_; first | (refine condW_dec ?_ ?_ <;> intro _ <;> try (exfalso; omega)) | refine condW_not ?_ | (refine condW_bool ?_ ?_ <;> intro _ <;> try (exfalso; omega)))
    | (refine facW_intro ?_; intro _)
    | refine Or.inl ?_
    | ((conv => whnf); first | (refine condW_dec ?_ ?_ <;> intro _ <;> try (exfalso; omega)) | refine condW_not ?_ | (refine condW_bool ?_ ?_ <;> intro _ <;> try (exfalso; omega)) | (refine nbC_t (fun _ => ?_) ?_) | (refine nbC_f ?_ (fun _ => ?_)))
    | refine And.intro (by first | omega | (simp only [Int.toNat_natCast] at *; omega) | (simp only [Nat.reduceAdd, Int.cast_ofNat_Int, true_and, and_true]; omega)  | kernel_rfl) ?_
    | refine RegW.run ?_
    | refine ⟨_, h1, ?_⟩
    | refine ⟨_, h2, ?_⟩
    | fail
  all_goals first
    | (exfalso; omega)
    | (rw [hrr, if_pos (by omega)]; exact Dle.refl _ _)
    | (rw [hrr, if_neg (by omega), if_pos (Or.inl (by omega)), if_pos (by omega)]; exact Dle.refl _ _)
    | (rw [hrr, if_neg (by omega), if_pos (Or.inl (by omega)), if_neg (by omega)]; exact Dle.refl _ _)
    | (rw [hrr, if_neg (by omega), if_pos (Or.inr (by assumption)), if_pos (by omega)]; exact Dle.refl _ _)
    | (rw [hrr, if_neg (by omega), if_pos (Or.inr (by assumption)), if_neg (by omega)]; exact Dle.refl _ _)
    | (rw [hrr, if_neg (by omega), if_neg (c := 0 < v.keys.length ∨ a = ⟨#[37, 37, 37]⟩) (fun h => h.elim (fun h => by omega) (fun h => absurd h (by assumption))), if_pos (by omega)]; exact Dle.refl _ _)
    | (rw [hrr, if_neg (by omega), if_neg (c := 0 < v.keys.length ∨ a = ⟨#[37, 37, 37]⟩) (fun h => h.elim (fun h => by omega) (fun h => absurd h (by assumption))), if_neg (by omega)]; exact Dle.refl _ _)
    | trace_state
set_option maxHeartbeats 4000000 in
theorem joinOf_sp (hP : ∀ w, E.G w → P10 w) (hML : ∀ w, E.G w → ML w) (v : Vu) (rest : ByteArray) (hv : v.i64) (hw : v.wt ≤ 5000000) (hr : rest.size ≤ 1000000000) : Sp (cx Tryz.prog mixed tyT_ok E) 19 [encV v, dS rest] (.tup [dS (joinR v rest).1, i64 (joinR v rest).2]) := by
  have h1 := printOf_sp E hP v hv hw
  have h2 := cut_sp E hML rest (by omega)
  have hps := printR_size v
  obtain ⟨r, hrr⟩ : ∃ r, r = joinR v rest := ⟨_, rfl⟩
  rw [← hrr]
  unfold joinR outJ at hrr
  generalize printR v = p at h1 hps hrr
  generalize c1 rest = a at h2 hrr
  generalize c2 rest = b at h2
  generalize c3 rest = b3 at h2
  have hz0 : bdrN.size = 4 := rfl
  have hz1 : bdr.size = 3 := rfl
  have hz2 : (⟨#[37, 37, 37, 10]⟩ : ByteArray).size = 4 := rfl
  have hz3 : (⟨#[37, 37, 37]⟩ : ByteArray).size = 3 := rfl
  have hz4 : (⟨#[10]⟩ : ByteArray).size = 1 := rfl
  have hs1 : ((⟨#[37, 37, 37, 10]⟩ : ByteArray) ++ p.1).size = 4 + p.1.size := by rw [ByteArray.size_append]; rfl
  have hs2 : ((⟨#[37, 37, 37, 10]⟩ : ByteArray) ++ p.1 ++ ⟨#[37, 37, 37]⟩).size = 4 + p.1.size + 3 := by rw [ByteArray.size_append, hs1]; rfl
  have hs3 : ((⟨#[37, 37, 37, 10]⟩ : ByteArray) ++ p.1 ++ ⟨#[37, 37, 37]⟩ ++ ⟨#[10]⟩).size = 4 + p.1.size + 3 + 1 := by rw [ByteArray.size_append, hs2]; rfl
  have hs4 : ((⟨#[37, 37, 37, 10]⟩ : ByteArray) ++ p.1 ++ ⟨#[37, 37, 37]⟩ ++ ⟨#[10]⟩ ++ rest).size = 4 + p.1.size + 3 + 1 + rest.size := by rw [ByteArray.size_append, hs3]
  unfold bdrN bdr at hrr
  refine Sp.body Tryz.func19 (by kernel_rfl) rfl (by kernel_rfl) (by kernel_rfl) (by kernel_rfl) ?_
  repeat' first
    | (refine codeW_cond rfl ?_; first | (refine condW_dec ?_ ?_ <;> intro _ <;> try (exfalso; omega)) | refine condW_not ?_ | (refine condW_bool ?_ ?_ <;> intro _ <;> try (exfalso; omega)))
    | (refine facW_intro ?_; intro _)
    | refine Or.inl ?_
    | ((conv => whnf); first | (refine condW_dec ?_ ?_ <;> intro _ <;> try (exfalso; omega)) | refine condW_not ?_ | (refine condW_bool ?_ ?_ <;> intro _ <;> try (exfalso; omega)) | (refine nbC_t (fun _ => ?_) ?_) | (refine nbC_f ?_ (fun _ => ?_)))
    | refine And.intro (by first | omega | (simp only [Int.toNat_natCast] at *; omega) | (simp only [Nat.reduceAdd, Int.cast_ofNat_Int, true_and, and_true]; omega)  | kernel_rfl) ?_
    | refine RegW.run ?_
    | refine ⟨_, h1, ?_⟩
    | refine ⟨_, h2, ?_⟩
    | fail
  all_goals first
    | (exfalso; omega)
    | (rw [hrr, if_pos (by omega)]; exact Dle.refl _ _)
    | (rw [hrr, if_neg (by omega), if_pos (Or.inl (by omega)), if_pos (by omega)]; exact Dle.refl _ _)
    | (rw [hrr, if_neg (by omega), if_pos (Or.inl (by omega)), if_neg (by omega)]; exact Dle.refl _ _)
    | (rw [hrr, if_neg (by omega), if_pos (Or.inr (by assumption)), if_pos (by omega)]; exact Dle.refl _ _)
    | (rw [hrr, if_neg (by omega), if_pos (Or.inr (by assumption)), if_neg (by omega)]; exact Dle.refl _ _)
    | (rw [hrr, if_neg (by omega), if_neg (c := 0 < v.keys.length ∨ a = ⟨#[37, 37, 37]⟩) (fun h => h.elim (fun h => by omega) (fun h => absurd h (by assumption))), if_pos (by omega)]; exact Dle.refl _ _)
    | (rw [hrr, if_neg (by omega), if_neg (c := 0 < v.keys.length ∨ a = ⟨#[37, 37, 37]⟩) (fun h => h.elim (fun h => by omega) (fun h => absurd h (by assumption))), if_neg (by omega)]; exact Dle.refl _ _)
    | trace_state
theorem frontJoins_sp (hP : ∀ w, E.G w → P10 w) (hML : ∀ w, E.G w → ML w) (v : Vu) (rest : ByteArray) (hv : v.i64) (hw : v.wt ≤ 5000000) (hr : rest.size ≤ 1000000000) : Sp (cx Tryz.prog mixed tyT_ok E) 5 [encV v, dS rest] (dB true) := by
  have h1 := join_sp E hP hML v rest hv hw hr
  have h2 := joinOf_sp E hP hML v rest hv hw hr
  generalize joinR v rest = r at h1 h2
  refine Sp.body Tryz.func5 (by kernel_rfl) rfl (by kernel_rfl) (by kernel_rfl) (by kernel_rfl) ?_
  repeat' first
    | (refine codeW_cond rfl ?_; first | (refine condW_dec ?_ ?_ <;> intro _ <;> try (exfalso; omega)) | refine condW_not ?_ | (refine condW_bool ?_ ?_ <;> intro _ <;> try (exfalso; omega)))
    | (refine facW_intro ?_; intro _)
    | refine Or.inl ?_
    | ((conv => whnf); first | (refine condW_dec ?_ ?_ <;> intro _ <;> try (exfalso; omega)) | refine condW_not ?_ | (refine condW_bool ?_ ?_ <;> intro _ <;> try (exfalso; omega)) | (refine nbC_t (fun _ => ?_) ?_) | (refine nbC_f ?_ (fun _ => ?_)))
    | refine And.intro (by first | omega | (simp only [Int.toNat_natCast] at *; omega) | (simp only [Nat.reduceAdd, Int.cast_ofNat_Int, true_and, and_true]; omega)  | kernel_rfl) ?_
    | refine RegW.run ?_
    | refine ⟨_, h1, ?_⟩
    | refine ⟨_, h2, ?_⟩
    | fail
  all_goals first
    | (exfalso; rename_i h; exact h rfl)
    | exact Dle.bo (by simp)
    | trace_state
end
end fj
end Go.Proofs.YtemiaognopgnnaaGreatDoor
