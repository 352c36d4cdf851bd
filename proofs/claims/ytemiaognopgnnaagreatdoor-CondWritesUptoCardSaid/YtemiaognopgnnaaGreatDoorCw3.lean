/-
  Conditions as text: the reference's side.
-/
import Derived.Test.YtemiaognopgnnaaGreatDoorCw2
namespace Go.Proofs.YtemiaognopgnnaaGreatDoor
open Go.RowKit
set_option linter.unusedVariables false
set_option linter.unusedSimpArgs false
namespace cw
open rp bl pn
section
variable (E : Env)
set_option maxRecDepth 100000
theorem kidR_sp (k : Cd) (b : Bool) (hk : Sp (cx Tryz.prog mixed tyT_ok E) 48 [encC k] (dS (bs (cdB k)))) (hl : (cdB k).length ≤ 600000000000) : Sp (cx Tryz.prog mixed tyT_ok E) 87 [encC k, dB b] (dS (bs (if b then [40] ++ cdB k ++ [41] else cdB k))) := by
  have h1 := hk
  have h2 : ⟨#[40]⟩ ++ bs (cdB k) ++ ⟨#[41]⟩ = bs ([40] ++ cdB k ++ [41]) := by rw [show (⟨#[40]⟩ : ByteArray) = bs [40] from rfl, show (⟨#[41]⟩ : ByteArray) = bs [41] from rfl, bs_app, bs_app]
  have h3 := bs_size (cdB k)
  generalize cdB k = l at *
  cases b
  · simp only [Bool.false_eq_true, if_false]
    generalize bs l = s at *
    refine Sp.body Tryz.func87 (by kernel_rfl) rfl (by kernel_rfl) (by kernel_rfl) (by kernel_rfl) ?_
    repeat' first
      | (refine codeW_cond rfl ?_; first | (refine condW_dec ?_ ?_ <;> intro _ <;> try (exfalso; omega)) | refine condW_not ?_ | (refine condW_bool ?_ ?_ <;> intro _ <;> try (exfalso; omega)))
      | (refine facW_intro ?_; intro _)
      | refine Or.inl ?_
      | ((conv => whnf); first | (refine condW_dec ?_ ?_ <;> intro _ <;> try (exfalso; omega)) | refine condW_not ?_ | (refine condW_bool ?_ ?_ <;> intro _ <;> try (exfalso; omega)) | (refine nbC_t (fun _ => ?_) ?_) | (refine nbC_f ?_ (fun _ => ?_)))
      | refine And.intro (by first | omega | (simp only [Int.toNat_natCast] at *; omega) | (simp only [Nat.reduceAdd, Int.cast_ofNat_Int, true_and, and_true]; omega)  | kernel_rfl) ?_
      | refine RegW.run ?_
      | refine ⟨_, h1, ?_⟩
      | fail
    all_goals first
      | (exfalso; omega)
      | exact Dle.refl _ _
      | trace_state
  · simp only [if_true]
    rw [← h2]
    generalize bs l = s at *
    have hz1 : ((⟨#[40]⟩ : ByteArray) ++ s).size = 1 + s.size := ByteArray.size_append
    have hz0 : (⟨#[40]⟩ : ByteArray).size = 1 := rfl
    have hz2 : (⟨#[41]⟩ : ByteArray).size = 1 := rfl
    refine Sp.body Tryz.func87 (by kernel_rfl) rfl (by kernel_rfl) (by kernel_rfl) (by kernel_rfl) ?_
    repeat' first
      | (refine codeW_cond rfl ?_; first | (refine condW_dec ?_ ?_ <;> intro _ <;> try (exfalso; omega)) | refine condW_not ?_ | (refine condW_bool ?_ ?_ <;> intro _ <;> try (exfalso; omega)))
      | (refine facW_intro ?_; intro _)
      | refine Or.inl ?_
      | ((conv => whnf); first | (refine condW_dec ?_ ?_ <;> intro _ <;> try (exfalso; omega)) | refine condW_not ?_ | (refine condW_bool ?_ ?_ <;> intro _ <;> try (exfalso; omega)) | (refine nbC_t (fun _ => ?_) ?_) | (refine nbC_f ?_ (fun _ => ?_)))
      | refine And.intro (by first | omega | (simp only [Int.toNat_natCast] at *; omega) | (simp only [Nat.reduceAdd, Int.cast_ofNat_Int, true_and, and_true]; omega)  | kernel_rfl) ?_
      | refine RegW.run ?_
      | refine ⟨_, h1, ?_⟩
      | fail
    all_goals first
      | (exfalso; omega)
      | exact Dle.refl _ _
      | trace_state
set_option maxHeartbeats 8000000 in
theorem condTextR_sp (E0 : Env) (hg : ∀ w, E0.G w → ∀ g, Rep view E0.MG w b0 (wordsGv g) (.pointer (some ⟨g, 0, none⟩))) (hE : E = wEnv E0 hg) (hP : ∀ w, E.G w → P10 w) : ∀ (N : Nat) (c : Cd), SizeOf.sizeOf c < N → condE c = 0 → i64C c → c.wt ≤ 100000000 → Sp (cx Tryz.prog mixed tyT_ok E) 48 [encC c] (dS (bs (cdB c)))
  | 0, c, h, _, _, _ => by omega
  | N + 1, c, h, hc, hi, hw => by
    have hwe := c.wt_eq
    have hf := ok_facts hc
    have hkl := fun x (hx : x ∈ c.kids) => cdB_len x (hf.2.2.2.2.2 x hx) (i64Cs_mem _ x (i64C_kids c hi) hx)
    have hkw := fun x (hx : x ∈ c.kids) => Cd.wt_mem c.kids x hx
    have ih := fun x (hx : x ∈ c.kids) => condTextR_sp E0 hg hE hP N x (by have := kids_lt c x hx; omega) (hf.2.2.2.2.2 x hx) (i64Cs_mem _ x (i64C_kids c hi) hx) (by have := hkw x hx; omega)
    have ihk := fun x (hx : x ∈ c.kids) b => kidR_sp E x b (ih x hx) (by have := hkl x hx; have := hkw x hx; omega)
    have hp := cdB_eq c
    by_cases c1 : c.op = 1
    · rw [if_pos (.inl c1)] at hp
      subst hE
      refine Sp.body Tryz.func48 (by kernel_rfl) rfl (by kernel_rfl) (by kernel_rfl) (by kernel_rfl) ?_
      repeat' first
        | (refine codeW_cond rfl ?_; first | (refine condW_dec ?_ ?_ <;> intro _ <;> try (exfalso; omega)) | refine condW_not ?_ | (refine condW_bool ?_ ?_ <;> intro _ <;> try (exfalso; omega)))
        | (refine facW_intro ?_; intro _)
        | refine Or.inl ?_
        | ((conv => whnf); first | (refine condW_dec ?_ ?_ <;> intro _ <;> try (exfalso; omega)) | refine condW_not ?_ | (refine condW_bool ?_ ?_ <;> intro _ <;> try (exfalso; omega)) | (refine nbC_t (fun _ => ?_) ?_) | (refine nbC_f ?_ (fun _ => ?_)))
        | refine And.intro (by first | omega | (simp only [Int.toNat_natCast] at *; omega) | (simp only [Nat.reduceAdd, Int.cast_ofNat_Int, true_and, and_true]; omega)  | kernel_rfl) ?_
        | refine RegW.run ?_
        | fail
      refine ⟨Nat, fun q => [(20, i64 q), (5, .own 20 1 0 (kL c.op (c.kids.take q)).length)], fun q => [], [1], fun q => [(20, 9, (kL c.op (c.kids.take q)).length, fun i j => .v (.string ((kL c.op (c.kids.take q)).getD i ⟨#[]⟩)))], fun q => q ≤ c.kids.length, fun q => c.kids.length - q, ⟨0, by omega, ⟨[(20, none)], ⟨by kernel_rfl, by kernel_rfl, by kernel_rfl, by kernel_rfl, by kernel_rfl, by kernel_rfl, by kernel_rfl⟩, (by repeat' first | exact trivial | exact rfl | kernel_rfl | exact Dle.of_eq rfl | exact MLe.of_eq rfl | exact Dle.i (by omega) | exact Dle.i (by simp only [Int.toNat_natCast] at *; omega) | exact Dle.nil | exact Dle.rc Dle.nil | exact Option.some_ne_none _ | exact Or.inl rfl | exact Or.inr trivial | omega | (simp only [Int.toNat_natCast] at *; omega) | (intro _ _ _ _; exact Dle.of_eq rfl) | refine And.intro ?_ ?_)⟩⟩, fun q hq => ?_⟩
      have hq2 : q ≤ c.kids.length := hq
      have hll : (kL c.op (c.kids.take q)).length ≤ 1000000000 := by rw [kL_len, List.length_take]; have := klen_le_wt c.kids; omega
      by_cases hlt : q < c.kids.length
      · have hm := getD_mem c.kids .zero q hlt
        have h1 := ihk (c.kids.getD q .zero) hm (decide ((c.kids.getD q .zero).op = 2))
        have hbk : (if (decide ((c.kids.getD q .zero).op = 2)) = true then [40] ++ cdB (c.kids.getD q .zero) ++ [41] else cdB (c.kids.getD q .zero)) = kidB c.op (c.kids.getD q .zero) := by
          have hb : brk c.op (c.kids.getD q .zero).op = (decide ((c.kids.getD q .zero).op = 2)) := by
            unfold brk
            grind
          unfold kidB
          rw [hb]
        rw [hbk] at h1
        have e2 : (kL c.op (c.kids.take (q + 1))) = (kL c.op (c.kids.take q)) ++ [bs (kidB c.op (c.kids.getD q .zero))] := by unfold kL; rw [take_snoc c.kids .zero q hlt, List.map_append]; rfl
        have e3 : (kL c.op (c.kids.take q)).length + 1 = (kL c.op (c.kids.take (q + 1))).length := by rw [e2, List.length_append]; rfl
        have h9 : ∀ i j, i < (kL c.op (c.kids.take q)).length + 1 → j < 1 → Dle (cx Tryz.prog mixed tyT_ok (wEnv E0 hg)) (if i < (kL c.op (c.kids.take q)).length then .v (.string ((kL c.op (c.kids.take q)).getD i ⟨#[]⟩)) else ([.v (.string (bs (kidB c.op (c.kids.getD q .zero))))] : List DD).getD ((i - (kL c.op (c.kids.take q)).length) * 1 + j) .opq) (.v (.string ((kL c.op (c.kids.take (q + 1))).getD i ⟨#[]⟩))) := by
          rw [e2]
          intro i j hi hj
          obtain rfl : j = 0 := by omega
          by_cases hh : i < (kL c.op (c.kids.take q)).length
          · rw [if_pos hh]
            exact Dle.s (getD_snoc1 hh).symm
          · rw [if_neg hh, show i - (kL c.op (c.kids.take q)).length = 0 by omega]
            exact Dle.s (getD_snoc2 (by omega)).symm
        repeat' first
          | (refine codeW_cond rfl ?_; first | (refine condW_dec ?_ ?_ <;> intro _ <;> try (exfalso; omega)) | refine condW_not ?_ | (refine condW_bool ?_ ?_ <;> intro _ <;> try (exfalso; omega)))
          | (refine facW_intro ?_; intro _)
          | refine Or.inl ?_
          | ((conv => whnf); first | (refine condW_dec ?_ ?_ <;> intro _ <;> try (exfalso; omega)) | refine condW_not ?_ | (refine condW_bool ?_ ?_ <;> intro _ <;> try (exfalso; omega)) | (refine nbC_t (fun _ => ?_) ?_) | (refine nbC_f ?_ (fun _ => ?_)))
          | refine And.intro (by first | omega | (simp only [Int.toNat_natCast] at *; omega) | (simp only [Nat.reduceAdd, Int.cast_ofNat_Int, true_and, and_true]; omega)  | kernel_rfl) ?_
          | refine RegW.run ?_
          | refine ⟨_, h1, ?_⟩
          | fail
        all_goals first
          | (exfalso; omega)
          | exact ⟨q + 1, by omega, ⟨[(20, some 37)], ⟨by kernel_rfl, by kernel_rfl, by kernel_rfl, by kernel_rfl, by kernel_rfl, by kernel_rfl, by kernel_rfl⟩, (by repeat' first | (exact e3) | exact trivial | exact rfl | kernel_rfl | exact Dle.of_eq rfl | exact MLe.of_eq rfl | exact Dle.i (by omega) | exact Dle.i (by simp only [Int.toNat_natCast] at *; omega) | exact Dle.nil | exact Dle.rc Dle.nil | exact Option.some_ne_none _ | exact Or.inl rfl | exact Or.inr trivial | omega | (simp only [Int.toNat_natCast] at *; omega) | (intro _ _ _ _; exact Dle.of_eq rfl) | (intro i j hi hj; exact h9 i j hi hj) | refine And.intro ?_ ?_)⟩, by first | omega | (dsimp only; omega)⟩
          | trace_state
      · obtain rfl : q = c.kids.length := by omega
        have e5 : c.kids.take c.kids.length = c.kids := List.take_length
        have hsz := szL_kL c.op c.kids hf.2.2.2.2.2 (i64C_kids c hi)
        have h1 := join1_sp (wEnv E0 hg) (kL c.op (c.kids.take c.kids.length)) ⟨#[32, 97, 110, 100, 32]⟩ (by omega) (by decide) (by decide) (by rw [e5]; omega)
        have hjn : bs (cdB c) = jnS (kL c.op (c.kids.take c.kids.length)) ⟨#[32, 97, 110, 100, 32]⟩ := by
          rw [e5, hp]
          have := jn_kL c.op c.kids true
          rw [show sepB c.op = [32, 97, 110, 100, 32] by unfold sepB; grind] at this
          exact (congrArg bs this).symm
        rw [hjn]
        repeat' first
          | (refine codeW_cond rfl ?_; first | (refine condW_dec ?_ ?_ <;> intro _ <;> try (exfalso; omega)) | refine condW_not ?_ | (refine condW_bool ?_ ?_ <;> intro _ <;> try (exfalso; omega)))
          | (refine facW_intro ?_; intro _)
          | refine Or.inl ?_
          | ((conv => whnf); first | (refine condW_dec ?_ ?_ <;> intro _ <;> try (exfalso; omega)) | refine condW_not ?_ | (refine condW_bool ?_ ?_ <;> intro _ <;> try (exfalso; omega)) | (refine nbC_t (fun _ => ?_) ?_) | (refine nbC_f ?_ (fun _ => ?_)))
          | refine And.intro (by first | omega | (simp only [Int.toNat_natCast] at *; omega) | (simp only [Nat.reduceAdd, Int.cast_ofNat_Int, true_and, and_true]; omega)  | kernel_rfl) ?_
          | refine RegW.run ?_
          | refine ⟨_, h1, ?_⟩
          | fail
        all_goals first
          | (exfalso; omega)
          | exact Dle.refl _ _
          | trace_state
    · by_cases c2 : c.op = 2
      · rw [if_pos (.inr c2)] at hp
        subst hE
        refine Sp.body Tryz.func48 (by kernel_rfl) rfl (by kernel_rfl) (by kernel_rfl) (by kernel_rfl) ?_
        repeat' first
          | (refine codeW_cond rfl ?_; first | (refine condW_dec ?_ ?_ <;> intro _ <;> try (exfalso; omega)) | refine condW_not ?_ | (refine condW_bool ?_ ?_ <;> intro _ <;> try (exfalso; omega)))
          | (refine facW_intro ?_; intro _)
          | refine Or.inl ?_
          | ((conv => whnf); first | (refine condW_dec ?_ ?_ <;> intro _ <;> try (exfalso; omega)) | refine condW_not ?_ | (refine condW_bool ?_ ?_ <;> intro _ <;> try (exfalso; omega)) | (refine nbC_t (fun _ => ?_) ?_) | (refine nbC_f ?_ (fun _ => ?_)))
          | refine And.intro (by first | omega | (simp only [Int.toNat_natCast] at *; omega) | (simp only [Nat.reduceAdd, Int.cast_ofNat_Int, true_and, and_true]; omega)  | kernel_rfl) ?_
          | refine RegW.run ?_
          | fail
        refine ⟨Nat, fun q => [(20, i64 q), (5, .own 20 1 0 (kL c.op (c.kids.take q)).length)], fun q => [], [1], fun q => [(20, 9, (kL c.op (c.kids.take q)).length, fun i j => .v (.string ((kL c.op (c.kids.take q)).getD i ⟨#[]⟩)))], fun q => q ≤ c.kids.length, fun q => c.kids.length - q, ⟨0, by omega, ⟨[(20, none)], ⟨by kernel_rfl, by kernel_rfl, by kernel_rfl, by kernel_rfl, by kernel_rfl, by kernel_rfl, by kernel_rfl⟩, (by repeat' first | exact trivial | exact rfl | kernel_rfl | exact Dle.of_eq rfl | exact MLe.of_eq rfl | exact Dle.i (by omega) | exact Dle.i (by simp only [Int.toNat_natCast] at *; omega) | exact Dle.nil | exact Dle.rc Dle.nil | exact Option.some_ne_none _ | exact Or.inl rfl | exact Or.inr trivial | omega | (simp only [Int.toNat_natCast] at *; omega) | (intro _ _ _ _; exact Dle.of_eq rfl) | refine And.intro ?_ ?_)⟩⟩, fun q hq => ?_⟩
        have hq2 : q ≤ c.kids.length := hq
        have hll : (kL c.op (c.kids.take q)).length ≤ 1000000000 := by rw [kL_len, List.length_take]; have := klen_le_wt c.kids; omega
        by_cases hlt : q < c.kids.length
        · have hm := getD_mem c.kids .zero q hlt
          have h1 := ihk (c.kids.getD q .zero) hm false
          have hbk : (if false = true then [40] ++ cdB (c.kids.getD q .zero) ++ [41] else cdB (c.kids.getD q .zero)) = kidB c.op (c.kids.getD q .zero) := by
            have hb : brk c.op (c.kids.getD q .zero).op = false := by
              unfold brk
              grind
            unfold kidB
            rw [hb]
          rw [hbk] at h1
          have e2 : (kL c.op (c.kids.take (q + 1))) = (kL c.op (c.kids.take q)) ++ [bs (kidB c.op (c.kids.getD q .zero))] := by unfold kL; rw [take_snoc c.kids .zero q hlt, List.map_append]; rfl
          have e3 : (kL c.op (c.kids.take q)).length + 1 = (kL c.op (c.kids.take (q + 1))).length := by rw [e2, List.length_append]; rfl
          have h9 : ∀ i j, i < (kL c.op (c.kids.take q)).length + 1 → j < 1 → Dle (cx Tryz.prog mixed tyT_ok (wEnv E0 hg)) (if i < (kL c.op (c.kids.take q)).length then .v (.string ((kL c.op (c.kids.take q)).getD i ⟨#[]⟩)) else ([.v (.string (bs (kidB c.op (c.kids.getD q .zero))))] : List DD).getD ((i - (kL c.op (c.kids.take q)).length) * 1 + j) .opq) (.v (.string ((kL c.op (c.kids.take (q + 1))).getD i ⟨#[]⟩))) := by
            rw [e2]
            intro i j hi hj
            obtain rfl : j = 0 := by omega
            by_cases hh : i < (kL c.op (c.kids.take q)).length
            · rw [if_pos hh]
              exact Dle.s (getD_snoc1 hh).symm
            · rw [if_neg hh, show i - (kL c.op (c.kids.take q)).length = 0 by omega]
              exact Dle.s (getD_snoc2 (by omega)).symm
          repeat' first
            | (refine codeW_cond rfl ?_; first | (refine condW_dec ?_ ?_ <;> intro _ <;> try (exfalso; omega)) | refine condW_not ?_ | (refine condW_bool ?_ ?_ <;> intro _ <;> try (exfalso; omega)))
            | (refine facW_intro ?_; intro _)
            | refine Or.inl ?_
            | ((conv => whnf); first | (refine condW_dec ?_ ?_ <;> intro _ <;> try (exfalso; omega)) | refine condW_not ?_ | (refine condW_bool ?_ ?_ <;> intro _ <;> try (exfalso; omega)) | (refine nbC_t (fun _ => ?_) ?_) | (refine nbC_f ?_ (fun _ => ?_)))
            | refine And.intro (by first | omega | (simp only [Int.toNat_natCast] at *; omega) | (simp only [Nat.reduceAdd, Int.cast_ofNat_Int, true_and, and_true]; omega)  | kernel_rfl) ?_
            | refine RegW.run ?_
            | refine ⟨_, h1, ?_⟩
            | fail
          all_goals first
            | (exfalso; omega)
            | exact ⟨q + 1, by omega, ⟨[(20, some 37)], ⟨by kernel_rfl, by kernel_rfl, by kernel_rfl, by kernel_rfl, by kernel_rfl, by kernel_rfl, by kernel_rfl⟩, (by repeat' first | (exact e3) | exact trivial | exact rfl | kernel_rfl | exact Dle.of_eq rfl | exact MLe.of_eq rfl | exact Dle.i (by omega) | exact Dle.i (by simp only [Int.toNat_natCast] at *; omega) | exact Dle.nil | exact Dle.rc Dle.nil | exact Option.some_ne_none _ | exact Or.inl rfl | exact Or.inr trivial | omega | (simp only [Int.toNat_natCast] at *; omega) | (intro _ _ _ _; exact Dle.of_eq rfl) | (intro i j hi hj; exact h9 i j hi hj) | refine And.intro ?_ ?_)⟩, by first | omega | (dsimp only; omega)⟩
            | trace_state
        · obtain rfl : q = c.kids.length := by omega
          have e5 : c.kids.take c.kids.length = c.kids := List.take_length
          have hsz := szL_kL c.op c.kids hf.2.2.2.2.2 (i64C_kids c hi)
          have h1 := join1_sp (wEnv E0 hg) (kL c.op (c.kids.take c.kids.length)) ⟨#[32, 111, 114, 32]⟩ (by omega) (by decide) (by decide) (by rw [e5]; omega)
          have hjn : bs (cdB c) = jnS (kL c.op (c.kids.take c.kids.length)) ⟨#[32, 111, 114, 32]⟩ := by
            rw [e5, hp]
            have := jn_kL c.op c.kids true
            rw [show sepB c.op = [32, 111, 114, 32] by unfold sepB; grind] at this
            exact (congrArg bs this).symm
          rw [hjn]
          repeat' first
            | (refine codeW_cond rfl ?_; first | (refine condW_dec ?_ ?_ <;> intro _ <;> try (exfalso; omega)) | refine condW_not ?_ | (refine condW_bool ?_ ?_ <;> intro _ <;> try (exfalso; omega)))
            | (refine facW_intro ?_; intro _)
            | refine Or.inl ?_
            | ((conv => whnf); first | (refine condW_dec ?_ ?_ <;> intro _ <;> try (exfalso; omega)) | refine condW_not ?_ | (refine condW_bool ?_ ?_ <;> intro _ <;> try (exfalso; omega)) | (refine nbC_t (fun _ => ?_) ?_) | (refine nbC_f ?_ (fun _ => ?_)))
            | refine And.intro (by first | omega | (simp only [Int.toNat_natCast] at *; omega) | (simp only [Nat.reduceAdd, Int.cast_ofNat_Int, true_and, and_true]; omega)  | kernel_rfl) ?_
            | refine RegW.run ?_
            | refine ⟨_, h1, ?_⟩
            | fail
          all_goals first
            | (exfalso; omega)
            | exact Dle.refl _ _
            | trace_state
      · by_cases c3 : c.op = 3
        · rw [if_neg (c := c.op = 1 ∨ c.op = 2) (by omega), if_pos c3] at hp
          have hk1 := hf.2.2.1 c3
          have hlt : 0 < c.kids.length := by omega
          have hm := getD_mem c.kids .zero 0 hlt
          have hcf : cdF c.op true c.kids = kidB c.op (c.kids.getD 0 .zero) := by
            match hl : c.kids, hk1 with
            | [x], _ => simp only [cdF, List.append_nil]; rfl
          rw [hcf] at hp
          have hkl2 := kidB_len c.op _ (hf.2.2.2.2.2 _ hm) (i64Cs_mem _ _ (i64C_kids c hi) hm)
          have hkw2 := hkw _ hm
          have hbz := bs_size (kidB c.op (c.kids.getD 0 .zero))
          have hz0 : (⟨#[110, 111, 116, 32]⟩ : ByteArray).size = 4 := rfl
          have hpj : bs (cdB c) = ⟨#[110, 111, 116, 32]⟩ ++ bs (kidB c.op (c.kids.getD 0 .zero)) := by rw [hp, show (⟨#[110, 111, 116, 32]⟩ : ByteArray) = bs [110, 111, 116, 32] from rfl, bs_app]
          rw [hpj]
          by_cases k1 : (c.kids.getD 0 .zero).op = 1
          · have h1 := ihk _ hm true
            rw [if_pos rfl, show [40] ++ cdB (c.kids.getD 0 .zero) ++ [41] = kidB c.op (c.kids.getD 0 .zero) by unfold kidB; rw [if_pos (by unfold brk; grind)]] at h1
            subst hE
            refine Sp.body Tryz.func48 (by kernel_rfl) rfl (by kernel_rfl) (by kernel_rfl) (by kernel_rfl) ?_
            repeat' first
              | (refine codeW_cond rfl ?_; first | (refine condW_dec ?_ ?_ <;> intro _ <;> try (exfalso; omega)) | refine condW_not ?_ | (refine condW_bool ?_ ?_ <;> intro _ <;> try (exfalso; omega)))
              | (refine facW_intro ?_; intro _)
              | refine Or.inl ?_
              | ((conv => whnf); first | (refine condW_dec ?_ ?_ <;> intro _ <;> try (exfalso; omega)) | refine condW_not ?_ | (refine condW_bool ?_ ?_ <;> intro _ <;> try (exfalso; omega)) | (refine nbC_t (fun _ => ?_) ?_) | (refine nbC_f ?_ (fun _ => ?_)))
              | refine And.intro (by first | omega | (simp only [Int.toNat_natCast] at *; omega) | (simp only [Nat.reduceAdd, Int.cast_ofNat_Int, true_and, and_true]; omega)  | kernel_rfl) ?_
              | refine RegW.run ?_
              | refine ⟨_, h1, ?_⟩
              | fail
            all_goals first
              | (exfalso; omega)
              | (exfalso; rename_i hh; exact hh k1)
              | (exfalso; rename_i hh; exact k1 hh)
              | exact Dle.refl _ _
              | trace_state
          · have h1 := ihk _ hm (decide ((c.kids.getD 0 .zero).op = 2))
            rw [show (if decide ((c.kids.getD 0 .zero).op = 2) = true then [40] ++ cdB (c.kids.getD 0 .zero) ++ [41] else cdB (c.kids.getD 0 .zero)) = kidB c.op (c.kids.getD 0 .zero) by unfold kidB; rw [show brk c.op (c.kids.getD 0 .zero).op = decide ((c.kids.getD 0 .zero).op = 2) by unfold brk; grind]] at h1
            subst hE
            refine Sp.body Tryz.func48 (by kernel_rfl) rfl (by kernel_rfl) (by kernel_rfl) (by kernel_rfl) ?_
            repeat' first
              | (refine codeW_cond rfl ?_; first | (refine condW_dec ?_ ?_ <;> intro _ <;> try (exfalso; omega)) | refine condW_not ?_ | (refine condW_bool ?_ ?_ <;> intro _ <;> try (exfalso; omega)))
              | (refine facW_intro ?_; intro _)
              | refine Or.inl ?_
              | ((conv => whnf); first | (refine condW_dec ?_ ?_ <;> intro _ <;> try (exfalso; omega)) | refine condW_not ?_ | (refine condW_bool ?_ ?_ <;> intro _ <;> try (exfalso; omega)) | (refine nbC_t (fun _ => ?_) ?_) | (refine nbC_f ?_ (fun _ => ?_)))
              | refine And.intro (by first | omega | (simp only [Int.toNat_natCast] at *; omega) | (simp only [Nat.reduceAdd, Int.cast_ofNat_Int, true_and, and_true]; omega)  | kernel_rfl) ?_
              | refine RegW.run ?_
              | refine ⟨_, h1, ?_⟩
              | fail
            all_goals first
              | (exfalso; omega)
              | (exfalso; rename_i hh; exact hh k1)
              | (exfalso; rename_i hh; exact k1 hh)
              | exact Dle.refl _ _
              | trace_state
        · rw [if_neg (c := c.op = 1 ∨ c.op = 2) (by omega), if_neg c3] at hp
          by_cases c4 : c.op = 4
          · rw [if_pos c4] at hp
            rw [hp, bs_list]
            subst hE
            refine Sp.body Tryz.func48 (by kernel_rfl) rfl (by kernel_rfl) (by kernel_rfl) (by kernel_rfl) ?_
            repeat' first
              | (refine codeW_cond rfl ?_; first | (refine condW_dec ?_ ?_ <;> intro _ <;> try (exfalso; omega)) | refine condW_not ?_ | (refine condW_bool ?_ ?_ <;> intro _ <;> try (exfalso; omega)))
              | (refine facW_intro ?_; intro _)
              | refine Or.inl ?_
              | ((conv => whnf); first | (refine condW_dec ?_ ?_ <;> intro _ <;> try (exfalso; omega)) | refine condW_not ?_ | (refine condW_bool ?_ ?_ <;> intro _ <;> try (exfalso; omega)) | (refine nbC_t (fun _ => ?_) ?_) | (refine nbC_f ?_ (fun _ => ?_)))
              | refine And.intro (by first | omega | (simp only [Int.toNat_natCast] at *; omega) | (simp only [Nat.reduceAdd, Int.cast_ofNat_Int, true_and, and_true]; omega)  | kernel_rfl) ?_
              | refine RegW.run ?_
              | fail
            all_goals first
              | (exfalso; omega)
              | exact Dle.refl _ _
              | trace_state
          · rw [if_neg c4] at hp
            have h5 : 5 ≤ c.op := by omega
            have hv := hf.2.2.2.2.1 h5
            have hpl := pvB_len [] c.value (i64C_val c hi)
            have hpl2 : (([] : List UInt8).length + 3 * lvl c.value + 200) * c.value.wt ≤ 300 * c.value.wt := Nat.mul_le_mul_right _ (by simp only [List.length_nil]; omega)
            have hpl3 : ((⟨#[]⟩ : ByteArray).size + 4 * lvl c.value + 210) * c.value.wt ≤ 300 * c.value.wt := Nat.mul_le_mul_right _ (by show 0 + _ + _ ≤ _; omega)
            have h1 := word_ref E hP _ c.value ⟨#[]⟩ (Nat.lt_succ_self _) hv.2.2.1 (i64C_val c hi) (by omega) (by omega) (by show 0 + _ ≤ _; omega) (by omega)
            rw [show (⟨#[]⟩ : ByteArray).data.toList = [] from rfl] at h1
            have hop := opN_getD h5 hf.2.1
            have hol := opW_len c.op
            have hpj : bs (cdB c) = c.route ++ ⟨#[32]⟩ ++ bs (opW c.op) ++ ⟨#[32]⟩ ++ bs (pvB [] c.value) := by
              rw [hp, show (⟨#[32]⟩ : ByteArray) = bs [32] from rfl, ← bs_app, ← bs_app, ← bs_app, ← bs_app, bs_list]
            have hz0 : (⟨#[32]⟩ : ByteArray).size = 1 := rfl
            have hz1 : (c.route ++ ⟨#[32]⟩).size = c.route.size + 1 := ByteArray.size_append
            have hz2 : (c.route ++ ⟨#[32]⟩ ++ bs (opW c.op)).size = c.route.size + 1 + (opW c.op).length := by rw [ByteArray.size_append, hz1, bs_size]
            have hz3 : (c.route ++ ⟨#[32]⟩ ++ bs (opW c.op) ++ ⟨#[32]⟩).size = c.route.size + 1 + (opW c.op).length + 1 := by rw [ByteArray.size_append, hz2, hz0]
            have hz4 := bs_size (opW c.op)
            have hz5 := bs_size (pvB [] c.value)
            have hln : opNames.length = 14 := rfl
            have hol2 : (bs (opW c.op)).size ≤ 6 := by rw [hz4]; exact hol
            rw [← hz4] at hz2 hz3
            clear hz4
            rw [← hop] at hz2 hz3 hpj hol2
            rw [hpj]
            subst hE
            refine Sp.body Tryz.func48 (by kernel_rfl) rfl (by kernel_rfl) (by kernel_rfl) (by kernel_rfl) ?_
            repeat' first
              | (refine codeW_cond rfl ?_; first | (refine condW_dec ?_ ?_ <;> intro _ <;> try (exfalso; omega)) | refine condW_not ?_ | (refine condW_bool ?_ ?_ <;> intro _ <;> try (exfalso; omega)))
              | (refine facW_intro ?_; intro _)
              | refine Or.inl ?_
              | ((conv => whnf); first | (refine condW_dec ?_ ?_ <;> intro _ <;> try (exfalso; omega)) | refine condW_not ?_ | (refine condW_bool ?_ ?_ <;> intro _ <;> try (exfalso; omega)) | (refine nbC_t (fun _ => ?_) ?_) | (refine nbC_f ?_ (fun _ => ?_)))
              | refine And.intro (by first | omega | (simp only [Int.toNat_natCast] at *; omega) | (simp only [Nat.reduceAdd, Int.cast_ofNat_Int, true_and, and_true]; omega)  | kernel_rfl) ?_
              | refine RegW.run ?_
              | refine ⟨_, h1, ?_⟩
              | fail
            all_goals first
              | (exfalso; omega)
              | exact Dle.refl _ _
              | trace_state
end
end cw
end Go.Proofs.YtemiaognopgnnaaGreatDoor
