/-
  list.CheckCond.
-/
import Derived.Test.YtemiaognopgnnaaGreatDoorW2
namespace Go.Proofs.YtemiaognopgnnaaGreatDoor
open Go.RowKit
set_option linter.unusedVariables false
set_option linter.unusedSimpArgs false
def anyK (op : Int) (l : List Cd) (k : Nat) : Bool := (l.drop k).any (fun x => decide (x.op = op))
theorem anyK_yes {op : Int} {l : List Cd} {k : Nat} (h : k < l.length) (h2 : (l.getD k .zero).op = op) : anyK op l k = true := by
  unfold anyK
  rw [drop_cons l .zero k h, List.any_cons, decide_eq_true h2]; rfl
theorem anyK_next {op : Int} {l : List Cd} {k : Nat} (h : k < l.length) (h2 : ¬ (l.getD k .zero).op = op) : anyK op l k = anyK op l (k + 1) := by
  unfold anyK
  rw [drop_cons l .zero k h, List.any_cons, decide_eq_false h2]; rfl
theorem anyK_end {op : Int} {l : List Cd} {k : Nat} (h : l.length ≤ k) : anyK op l k = false := by unfold anyK; rw [List.drop_of_length_le h]; rfl
def isRouteB (s : ByteArray) : Bool := routeOk false s && !decide (s = ⟨#[]⟩) && !resB s
/-- What is wrong with a condition's form, its route and its value. -/
def condR (op : Int) (s : ByteArray) (z : Prop) [Decidable z] (rb : Bool) (e : Int) (wr : Bool) : Int :=
  if (op ≤ 3 ∧ (¬ s = ⟨#[]⟩ ∨ ¬ z)) ∨ (op = 4 ∧ ¬ z) then 1 else if op ≤ 3 then 0 else if rb = false then 3 else if e ≠ 0 then e else if op ≠ 4 ∧ wr = true then 10 else 0
def condF (op : Int) (n : Nat) : Prop := op < 1 ∨ 13 < op ∨ (op ≤ 2 ∧ n < 2) ∨ (op = 3 ∧ n ≠ 1) ∨ (4 ≤ op ∧ 0 < n)
instance (op : Int) (n : Nat) : Decidable (condF op n) := by unfold condF; infer_instance
def condH (c : Cd) : Int :=
  if condF c.op c.kids.length then 1 else if c.op ≤ 2 ∧ anyK c.op c.kids 0 = true then 1 else condR c.op c.route (zeroP c.value) (isRouteB c.route) (checkE c.value) (wrongB c.op c.value)
mutual
def condE : Cd → Int
  | .mk o r v l => if condH (.mk o r v l) = 0 then condL l else condH (.mk o r v l)
def condL : List Cd → Int
  | [] => 0
  | x :: r => if condE x = 0 then condL r else condE x
end
theorem condE_eq (c : Cd) : condE c = if condH c = 0 then condL c.kids else condH c := by cases c; simp only [condE, Cd.kids]
theorem condL_drop {l : List Cd} {k : Nat} (h : k < l.length) : condL (l.drop k) = if condE (l.getD k .zero) = 0 then condL (l.drop (k + 1)) else condE (l.getD k .zero) := by
  rw [drop_cons l .zero k h]; simp only [condL]
theorem condL_end {l : List Cd} {k : Nat} (h : l.length ≤ k) : condL (l.drop k) = 0 := by rw [List.drop_of_length_le h]; rfl
mutual
/-- The weight of a condition. -/
def Cd.wt : Cd → Nat
  | .mk _ r v l => r.size + v.wt + 1 + Cd.wtL l
def Cd.wtL : List Cd → Nat
  | [] => 0
  | x :: r => Cd.wt x + Cd.wtL r
end
theorem Cd.wt_eq (c : Cd) : c.wt = c.route.size + c.value.wt + 1 + Cd.wtL c.kids := by cases c; simp only [Cd.wt, Cd.route, Cd.value, Cd.kids]
theorem Cd.wt_mem : ∀ (l : List Cd) (x : Cd), x ∈ l → x.wt ≤ Cd.wtL l
  | a :: l, x, h => by
    rcases List.mem_cons.1 h with rfl | h
    · simp [Cd.wtL]
    · have := Cd.wt_mem l x h; simp [Cd.wtL]; omega
mutual
theorem ccnt_le_wt : ∀ c : Cd, ccnt c ≤ c.wt
  | .mk _ r v l => by have := ccntL_le_wt l; simp only [ccnt, Cd.wt]; omega
theorem ccntL_le_wt : ∀ l : List Cd, ccntL l ≤ Cd.wtL l
  | [] => by simp [ccntL]
  | x :: r => by have := ccnt_le_wt x; have := ccntL_le_wt r; simp only [ccntL, Cd.wtL]; omega
end
def condCheck (c : Cd) : Int := if 200 < ccnt c then 4 else if 20 < clvl c then 13 else condE c
section
variable (E : Env)
set_option maxRecDepth 100000
theorem isRoute_sp (s : ByteArray) (hs : s.size ≤ 1000000000) : Sp (cx Tryz.prog mixed tyT_ok E) 174 [dS s] (dB (isRouteB s)) := by
  have h1 := lSteps_sp E s hs
  have h2 := reserved_sp E s
  unfold isRouteB
  generalize routeOk false s = b at h1
  generalize resB s = q at h2
  refine Sp.body Tryz.func174 (by kernel_rfl) rfl (by kernel_rfl) (by kernel_rfl) (by kernel_rfl) ?_
  repeat' first
    | (refine facW_intro ?_; intro _)
    | refine Or.inl ?_
    | ((conv => whnf); first | (refine condW_dec ?_ ?_ <;> intro _) | refine condW_not ?_ | (refine condW_bool ?_ ?_ <;> intro _) | (refine nbC_t (fun _ => ?_) ?_) | (refine nbC_f ?_ (fun _ => ?_)))
    | refine And.intro (by first | omega | (simp only [Int.toNat_natCast] at *; omega) | (simp only [Nat.reduceAdd, Int.cast_ofNat_Int, true_and, and_true]; omega)  | kernel_rfl) ?_
    | refine RegW.run ?_
    | refine ⟨_, h1, ?_⟩
    | refine ⟨_, h2, ?_⟩
    | fail
  all_goals first
    | exact Dle.bo (by simp_all)
    | exact Dle.bo (by grind)
    | trace_state
set_option maxHeartbeats 4000000 in
theorem condFault_sp (c : Cd) (hw : c.wt ≤ 100000000) : Sp (cx Tryz.prog mixed tyT_ok E) 125 [encC c] (i64 (condH c)) := by
  have hwe := c.wt_eq
  have h1 := isRoute_sp E c.route (by omega)
  have h2 := check_sp E c.value (by have := cnt_le_wt c.value; omega)
  have h3 := wrongKind_sp E c.op c.value
  have h4 := zero_sp E c.value
  obtain ⟨r, hr⟩ : ∃ r, r = condH c := ⟨_, rfl⟩
  rw [← hr]
  unfold condH at hr
  generalize isRouteB c.route = rb at hr h1
  generalize checkE c.value = e at hr h2
  generalize wrongB c.op c.value = wr at hr h3
  by_cases hF : condF c.op c.kids.length
  · rw [if_pos hF] at hr
    unfold condF at hF
    refine Sp.body Tryz.func125 (by kernel_rfl) rfl (by kernel_rfl) (by kernel_rfl) (by kernel_rfl) ?_
    repeat' first
      | (refine facW_intro ?_; intro _)
      | refine Or.inl ?_
      | ((conv => whnf); first | (refine condW_dec ?_ ?_ <;> intro _ <;> try (exfalso; omega)) | refine condW_not ?_ | (refine condW_bool ?_ ?_ <;> intro _ <;> try (exfalso; omega)) | (refine nbC_t (fun _ => ?_) ?_) | (refine nbC_f ?_ (fun _ => ?_)))
      | refine And.intro (by first | omega | (simp only [Int.toNat_natCast] at *; omega) | (simp only [Nat.reduceAdd, Int.cast_ofNat_Int, true_and, and_true]; omega)  | kernel_rfl) ?_
      | refine RegW.run ?_
      | fail
    all_goals first
      | exact Dle.i (by rw [hr])
      | (exfalso; omega)
      | trace_state
  · rw [if_neg hF] at hr
    unfold condF at hF
    refine Sp.body Tryz.func125 (by kernel_rfl) rfl (by kernel_rfl) (by kernel_rfl) (by kernel_rfl) ?_
    repeat' first
      | (refine facW_intro ?_; intro _)
      | refine Or.inl ?_
      | ((conv => whnf); first | (refine condW_dec ?_ ?_ <;> intro _ <;> try (exfalso; omega)) | refine condW_not ?_ | (refine condW_bool ?_ ?_ <;> intro _ <;> try (exfalso; omega)) | (refine nbC_t (fun _ => ?_) ?_) | (refine nbC_f ?_ (fun _ => ?_)))
      | refine And.intro (by first | omega | (simp only [Int.toNat_natCast] at *; omega) | (simp only [Nat.reduceAdd, Int.cast_ofNat_Int, true_and, and_true]; omega)  | kernel_rfl) ?_
      | refine RegW.run ?_
      | fail
    all_goals
      refine ⟨Nat, fun k => [(43, i64 k)], fun k => [], [1], fun k => [], fun k => k ≤ c.kids.length ∧ r = if c.op ≤ 2 ∧ anyK c.op c.kids k = true then 1 else condR c.op c.route (zeroP c.value) rb e wr, fun k => c.kids.length - k, ⟨0, ⟨by omega, hr⟩, ⟨[], ⟨by kernel_rfl, by kernel_rfl, by kernel_rfl, by kernel_rfl, by kernel_rfl, by kernel_rfl, by kernel_rfl⟩, (by repeat' first | exact trivial | exact rfl | kernel_rfl | exact Dle.of_eq rfl | exact MLe.of_eq rfl | exact Dle.i (by omega) | exact Dle.i (by simp only [Int.toNat_natCast] at *; omega) | exact Dle.nil | exact Dle.rc Dle.nil | exact Option.some_ne_none _ | exact Or.inl rfl | exact Or.inr trivial | omega | (simp only [Int.toNat_natCast] at *; omega) | (intro _ _ _ _; exact Dle.of_eq rfl) | refine And.intro ?_ ?_)⟩⟩, fun k hk => ?_⟩
      obtain ⟨hk, hK⟩ := hk
      by_cases hlt : k < c.kids.length
      · by_cases ho : (c.kids.getD k .zero).op = c.op
        · have ho' : (c.kids.getD ((k : Int)).toNat .zero).op = c.op := ho
          rw [anyK_yes hlt ho] at hK
          repeat' first
            | (refine facW_intro ?_; intro _)
            | refine Or.inl ?_
            | ((conv => whnf); first | (refine condW_dec ?_ ?_ <;> intro _ <;> try (exfalso; omega)) | refine condW_not ?_ | (refine condW_bool ?_ ?_ <;> intro _ <;> try (exfalso; omega)) | (refine nbC_t (fun _ => ?_) ?_) | (refine nbC_f ?_ (fun _ => ?_)))
            | refine And.intro (by first | omega | (simp only [Int.toNat_natCast] at *; omega) | (simp only [Nat.reduceAdd, Int.cast_ofNat_Int, true_and, and_true]; omega)  | kernel_rfl) ?_
            | refine RegW.run ?_
            | fail
          all_goals first
            | exact Dle.i (by rw [hK, if_pos ⟨by omega, rfl⟩])
            | exact ⟨k + 1, ⟨by omega, by rw [hK, if_neg (fun h => by omega), if_neg (fun h => by omega)]⟩, ⟨[], ⟨by kernel_rfl, by kernel_rfl, by kernel_rfl, by kernel_rfl, by kernel_rfl, by kernel_rfl, by kernel_rfl⟩, (by repeat' first | exact trivial | exact rfl | kernel_rfl | exact Dle.of_eq rfl | exact MLe.of_eq rfl | exact Dle.i (by omega) | exact Dle.i (by simp only [Int.toNat_natCast] at *; omega) | exact Dle.nil | exact Dle.rc Dle.nil | exact Option.some_ne_none _ | exact Or.inl rfl | exact Or.inr trivial | omega | (simp only [Int.toNat_natCast] at *; omega) | (intro _ _ _ _; exact Dle.of_eq rfl) | refine And.intro ?_ ?_)⟩, by first | omega | (dsimp only; omega)⟩
            | trace_state
        · have ho' : ¬ (c.kids.getD ((k : Int)).toNat .zero).op = c.op := ho
          rw [anyK_next hlt ho] at hK
          repeat' first
            | (refine facW_intro ?_; intro _)
            | refine Or.inl ?_
            | ((conv => whnf); first | (refine condW_dec ?_ ?_ <;> intro _ <;> try (exfalso; omega)) | refine condW_not ?_ | (refine condW_bool ?_ ?_ <;> intro _ <;> try (exfalso; omega)) | (refine nbC_t (fun _ => ?_) ?_) | (refine nbC_f ?_ (fun _ => ?_)))
            | refine And.intro (by first | omega | (simp only [Int.toNat_natCast] at *; omega) | (simp only [Nat.reduceAdd, Int.cast_ofNat_Int, true_and, and_true]; omega)  | kernel_rfl) ?_
            | refine RegW.run ?_
            | fail
          all_goals first
            | exact ⟨k + 1, ⟨by omega, hK⟩, ⟨[], ⟨by kernel_rfl, by kernel_rfl, by kernel_rfl, by kernel_rfl, by kernel_rfl, by kernel_rfl, by kernel_rfl⟩, (by repeat' first | exact trivial | exact rfl | kernel_rfl | exact Dle.of_eq rfl | exact MLe.of_eq rfl | exact Dle.i (by omega) | exact Dle.i (by simp only [Int.toNat_natCast] at *; omega) | exact Dle.nil | exact Dle.rc Dle.nil | exact Option.some_ne_none _ | exact Or.inl rfl | exact Or.inr trivial | omega | (simp only [Int.toNat_natCast] at *; omega) | (intro _ _ _ _; exact Dle.of_eq rfl) | refine And.intro ?_ ?_)⟩, by first | omega | (dsimp only; omega)⟩
            | trace_state
      · rw [anyK_end (by omega)] at hK
        have hK : r = condR c.op c.route (zeroP c.value) rb e wr := by rw [hK, if_neg (fun h => by cases h.2)]
        unfold condR at hK
        repeat' first
          | (refine facW_intro ?_; intro _)
          | refine Or.inl ?_
          | ((conv => whnf); first | (refine condW_dec ?_ ?_ <;> intro _ <;> try (exfalso; omega)) | refine condW_not ?_ | (refine condW_bool ?_ ?_ <;> intro _ <;> try (exfalso; omega)) | (refine nbC_t (fun _ => ?_) ?_) | (refine nbC_f ?_ (fun _ => ?_)))
          | refine And.intro (by first | omega | (simp only [Int.toNat_natCast] at *; omega) | (simp only [Nat.reduceAdd, Int.cast_ofNat_Int, true_and, and_true]; omega)  | kernel_rfl) ?_
          | refine RegW.run ?_
          | refine ⟨_, h1, ?_⟩
          | refine ⟨_, h2, ?_⟩
          | refine ⟨_, h3, ?_⟩
          | refine ⟨_, h4, ?_⟩
          | fail
        all_goals first
          | exact Dle.i (by rw [hK]; grind)
          | trace_state
theorem condsFault_sp : ∀ (N : Nat) (c : Cd), SizeOf.sizeOf c < N → c.wt ≤ 100000000 → Sp (cx Tryz.prog mixed tyT_ok E) 81 [encC c] (i64 (condE c))
  | 0, c, h, _ => by omega
  | N + 1, c, h, hw => by
    have hwe := c.wt_eq
    have ih := fun x (hx : x ∈ c.kids) => condsFault_sp N x (by have := kids_lt c x hx; omega) (by have := Cd.wt_mem c.kids x hx; omega)
    have h1 := condFault_sp E c hw
    obtain ⟨r, hr⟩ : ∃ r, r = condE c := ⟨_, rfl⟩
    rw [← hr]
    rw [condE_eq] at hr
    generalize condH c = e at hr h1
    refine Sp.body Tryz.func81 (by kernel_rfl) rfl (by kernel_rfl) (by kernel_rfl) (by kernel_rfl) ?_
    repeat' first
      | (refine facW_intro ?_; intro _)
      | refine Or.inl ?_
      | ((conv => whnf); first | (refine condW_dec ?_ ?_ <;> intro _) | refine condW_not ?_ | (refine condW_bool ?_ ?_ <;> intro _) | (refine nbC_t (fun _ => ?_) ?_) | (refine nbC_f ?_ (fun _ => ?_)))
      | refine And.intro (by first | omega | (simp only [Int.toNat_natCast] at *; omega) | (simp only [Nat.reduceAdd, Int.cast_ofNat_Int, true_and, and_true]; omega)  | kernel_rfl) ?_
      | refine RegW.run ?_
      | refine ⟨_, h1, ?_⟩
      | fail
    rotate_left
    · rename_i h
      exact Dle.i (by rw [hr, if_neg h])
    · have hr : r = condL c.kids := by rw [hr, if_pos (by assumption)]
      refine ⟨Nat, fun k => [(15, i64 k)], fun k => [], [], fun k => [], fun k => k ≤ c.kids.length ∧ r = condL (c.kids.drop k), fun k => c.kids.length - k, ⟨0, ⟨by omega, hr⟩, ⟨[], ⟨by kernel_rfl, by kernel_rfl, by kernel_rfl, by kernel_rfl, by kernel_rfl, by kernel_rfl, by kernel_rfl⟩, (by repeat' first | exact trivial | exact rfl | kernel_rfl | exact Dle.of_eq rfl | exact MLe.of_eq rfl | exact Dle.i (by omega) | exact Dle.i (by simp only [Int.toNat_natCast] at *; omega) | exact Dle.nil | exact Dle.rc Dle.nil | exact Option.some_ne_none _ | exact Or.inl rfl | exact Or.inr trivial | omega | (simp only [Int.toNat_natCast] at *; omega) | (intro _ _ _ _; exact Dle.of_eq rfl) | refine And.intro ?_ ?_)⟩⟩, fun k hk => ?_⟩
      obtain ⟨hk, hK⟩ := hk
      by_cases hlt : k < c.kids.length
      · rw [condL_drop hlt] at hK
        have hc := ih _ (getD_mem c.kids .zero k hlt)
        generalize condE (c.kids.getD k .zero) = q at hc hK
        repeat' first
          | (refine facW_intro ?_; intro _)
          | refine Or.inl ?_
          | ((conv => whnf); first | (refine condW_dec ?_ ?_ <;> intro _ <;> try (exfalso; omega)) | refine condW_not ?_ | (refine condW_bool ?_ ?_ <;> intro _ <;> try (exfalso; omega)) | (refine nbC_t (fun _ => ?_) ?_) | (refine nbC_f ?_ (fun _ => ?_)))
          | refine And.intro (by first | omega | (simp only [Int.toNat_natCast] at *; omega) | (simp only [Nat.reduceAdd, Int.cast_ofNat_Int, true_and, and_true]; omega)  | kernel_rfl) ?_
          | refine RegW.run ?_
          | refine ⟨_, hc, ?_⟩
          | fail
        · rename_i h
          exact ⟨k + 1, ⟨by omega, by rw [hK, if_pos h]⟩, ⟨[], ⟨by kernel_rfl, by kernel_rfl, by kernel_rfl, by kernel_rfl, by kernel_rfl, by kernel_rfl, by kernel_rfl⟩, (by repeat' first | exact trivial | exact rfl | kernel_rfl | exact Dle.of_eq rfl | exact MLe.of_eq rfl | exact Dle.i (by omega) | exact Dle.i (by simp only [Int.toNat_natCast] at *; omega) | exact Dle.nil | exact Dle.rc Dle.nil | exact Option.some_ne_none _ | exact Or.inl rfl | exact Or.inr trivial | omega | (simp only [Int.toNat_natCast] at *; omega) | (intro _ _ _ _; exact Dle.of_eq rfl) | refine And.intro ?_ ?_)⟩, by first | omega | (dsimp only; omega)⟩
        · rename_i h
          exact Dle.i (by rw [hK, if_neg h])
      · repeat' first
          | (refine facW_intro ?_; intro _)
          | refine Or.inl ?_
          | ((conv => whnf); first | (refine condW_dec ?_ ?_ <;> intro _ <;> try (exfalso; omega)) | refine condW_not ?_ | (refine condW_bool ?_ ?_ <;> intro _ <;> try (exfalso; omega)) | (refine nbC_t (fun _ => ?_) ?_) | (refine nbC_f ?_ (fun _ => ?_)))
          | refine And.intro (by first | omega | (simp only [Int.toNat_natCast] at *; omega) | (simp only [Nat.reduceAdd, Int.cast_ofNat_Int, true_and, and_true]; omega)  | kernel_rfl) ?_
          | refine RegW.run ?_
          | fail
        exact Dle.i (by rw [hK, condL_end (by omega)])
theorem checkCond_sp (c : Cd) (hw : c.wt ≤ 100000000) : Sp (cx Tryz.prog mixed tyT_ok E) 45 [encC c] (i64 (condCheck c)) := by
  have hcw := ccnt_le_wt c
  have hl := clvl_le_cnt c
  have hm := cmany_cnt c
  refine Sp.body Tryz.func45 (by kernel_rfl) rfl (by kernel_rfl) (by kernel_rfl) (by kernel_rfl) ?_
  repeat' first
    | (refine facW_intro ?_; intro _)
    | refine Or.inl ?_
    | ((conv => whnf); first | (refine condW_dec ?_ ?_ <;> intro _) | refine condW_not ?_ | (refine condW_bool ?_ ?_ <;> intro _) | (refine nbC_t (fun _ => ?_) ?_) | (refine nbC_f ?_ (fun _ => ?_)))
    | refine And.intro (by first | omega | (simp only [Int.toNat_natCast] at *; omega) | (simp only [Nat.reduceAdd, Int.cast_ofNat_Int, true_and, and_true]; omega)  | kernel_rfl) ?_
    | refine RegW.run ?_
    | refine ⟨_, cmany_sp E _ c (Nat.lt_succ_self _) (by omega), ?_⟩
    | refine ⟨_, cdeep_sp E _ c (Nat.lt_succ_self _) (by omega), ?_⟩
    | refine ⟨_, condsFault_sp E _ c (Nat.lt_succ_self _) hw, ?_⟩
    | fail
  all_goals exact Dle.i (by unfold condCheck; grind)
end
end Go.Proofs.YtemiaognopgnnaaGreatDoor
