/-
  Conditions: the reference's eachCond, CondFault. The package variables condWords, opWords (CondWrites' own). A condition as text, in plain words; a value in a condition. A value in a condition: lists. Conditions as text: what a checked condition is; how long its text is.
-/
import Derived.Test.YtemiaognopgnnaaGreatDoorW4
import Derived.Test.YtemiaognopgnnaaGreatDoorPn6
namespace Go.Proofs.YtemiaognopgnnaaGreatDoor
open Go.RowKit
set_option linter.unusedVariables false
set_option linter.unusedSimpArgs false
/-- The signs of operations, by their numbers. -/
def opNames : List ByteArray := [⟨#[]⟩, ⟨#[]⟩, ⟨#[]⟩, ⟨#[]⟩, ⟨#[]⟩, ⟨#[61]⟩, ⟨#[33, 61]⟩, ⟨#[60]⟩, ⟨#[60, 61]⟩, ⟨#[62]⟩, ⟨#[62, 61]⟩, ⟨#[104, 97, 115]⟩, ⟨#[105, 110]⟩, ⟨#[98, 101, 103, 105, 110, 115]⟩]
/-- What package-level variables hold: the words that no route may be. -/
def wordsGv (g : Nat) : DD := match Nat.beq g 1 with | true => .ref 1 (fun _ => encStrs resWords) | false => match Nat.beq g 0 with | true => .ref 1 (fun _ => encStrs opNames) | false => .opq
def wEnv (E : Env) (hg : ∀ w, E.G w → ∀ g, Rep view E.MG w b0 (wordsGv g) (.pointer (some ⟨g, 0, none⟩))) : Env := { E with gv := wordsGv, gok := hg }
section
set_option maxRecDepth 100000
set_option maxHeartbeats 8000000 in
theorem eachCond_sp (E0 : Env) (hg : ∀ w, E0.G w → ∀ g, Rep view E0.MG w b0 (wordsGv g) (.pointer (some ⟨g, 0, none⟩))) (E : Env) (hE : E = wEnv E0 hg) (hML : ∀ w, E.G w → ML w) :
    ∀ (N : Nat) (c : Cd), SizeOf.sizeOf c < N → c.wt ≤ 100000000 → Sp (cx Tryz.prog mixed tyT_ok E) 86 [encC c] (i64 (condE c))
  | 0, c, h, _ => by omega
  | N + 1, c, h, hw => by
    have hwe := c.wt_eq
    have ih := fun x (hx : x ∈ c.kids) => eachCond_sp E0 hg E hE hML N x (by have := kids_lt c x hx; omega) (by have := Cd.wt_mem c.kids x hx; omega)
    have hk := containsK_sp E c c.kids
    have hz := sameZero_sp E c.value
    have hrp := routeParts_sp E hML c.route false (by omega)
    have hcw := containsW_sp E c.route
    have hcc := confCheck_sp E c.value (by have := cnt_le_wt c.value; omega)
    have hvf := valueFault_sp2 E c.op c.value
    obtain ⟨r, hr⟩ : ∃ r, r = condE c := ⟨_, rfl⟩
    rw [← hr]
    rw [condE_eq] at hr
    unfold condH condR condF isRouteB at hr
    generalize anyK c.op c.kids 0 = ak at hr hk
    generalize routeOk false c.route = rk at hr hrp
    generalize resB c.route = rs at hr hcw
    generalize checkE c.value = e at hr hcc
    generalize wrongB c.op c.value = wr at hr hvf
    generalize hL : condL c.kids = L at hr
    subst hE
    refine Sp.body Tryz.func86 (by kernel_rfl) rfl (by kernel_rfl) (by kernel_rfl) (by kernel_rfl) ?_
    repeat' first
      | (refine facW_intro ?_; intro _)
      | refine Or.inl ?_
      | ((conv => whnf); first | (refine condW_dec ?_ ?_ <;> intro _ <;> try (exfalso; omega)) | refine condW_not ?_ | (refine condW_bool ?_ ?_ <;> intro _ <;> try (exfalso; omega)) | (refine nbC_t (fun _ => ?_) ?_) | (refine nbC_f ?_ (fun _ => ?_)))
      | refine And.intro (by first | omega | (simp only [Int.toNat_natCast] at *; omega) | (simp only [Nat.reduceAdd, Int.cast_ofNat_Int, true_and, and_true]; omega)  | kernel_rfl) ?_
      | refine RegW.run ?_
      | refine ⟨_, hk, ?_⟩
      | refine ⟨_, hz, ?_⟩
      | refine ⟨_, hrp, ?_⟩
      | refine ⟨_, hcw, ?_⟩
      | refine ⟨_, hcc, ?_⟩
      | refine ⟨_, hvf, ?_⟩
      | fail
    all_goals first
      | exact Dle.i (by rw [hr]; grind)
      | skip
    all_goals
      have hr : r = condL c.kids := by rw [hr, hL]; grind
      refine ⟨Nat, fun k => [(121, i64 k)], fun k => [], [], fun k => [], fun k => k ≤ c.kids.length ∧ r = condL (c.kids.drop k), fun k => c.kids.length - k, ⟨0, ⟨by omega, hr⟩, ⟨[], ⟨by kernel_rfl, by kernel_rfl, by kernel_rfl, by kernel_rfl, by kernel_rfl, by kernel_rfl, by kernel_rfl⟩, (by repeat' first | exact trivial | exact rfl | kernel_rfl | exact Dle.of_eq rfl | exact MLe.of_eq rfl | exact Dle.i (by omega) | exact Dle.i (by simp only [Int.toNat_natCast] at *; omega) | exact Dle.nil | exact Dle.rc Dle.nil | exact Option.some_ne_none _ | exact Or.inl rfl | exact Or.inr trivial | omega | (simp only [Int.toNat_natCast] at *; omega) | (intro _ _ _ _; exact Dle.of_eq rfl) | refine And.intro ?_ ?_)⟩⟩, fun k hk => ?_⟩
      obtain ⟨hk, hK⟩ := hk
      by_cases hlt : k < c.kids.length
      · rw [condL_drop hlt] at hK
        have hc := ih _ (getD_mem c.kids .zero k hlt)
        generalize condE (c.kids.getD k .zero) = q at hc hK
        repeat' first
          | (refine facW_intro ?_; intro _)
          | refine Or.inl ?_
          | ((conv => whnf); first | (refine condW_dec ?_ ?_ <;> intro _ <;> try (exfalso; omega)) | refine condW_not ?_ | (refine condW_bool ?_ ?_ <;> intro _ <;> try (exfalso; omega)) | (refine nbC_t (fun _ => ?_) ?_) | (refine nbC_f ?_ (fun _ => ?_)))
          | refine And.intro (by first | omega | (simp only [Int.toNat_natCast] at *; omega) | (simp only [Nat.reduceAdd, Int.cast_ofNat_Int, true_and, and_true]; omega)  | kernel_rfl) ?_
          | refine RegW.run ?_
          | refine ⟨_, hc, ?_⟩
          | fail
        all_goals first
          | (rename_i h
             exact ⟨k + 1, ⟨by omega, by rw [hK, if_pos h]⟩, ⟨[], ⟨by kernel_rfl, by kernel_rfl, by kernel_rfl, by kernel_rfl, by kernel_rfl, by kernel_rfl, by kernel_rfl⟩, (by repeat' first | exact trivial | exact rfl | kernel_rfl | exact Dle.of_eq rfl | exact MLe.of_eq rfl | exact Dle.i (by omega) | exact Dle.i (by simp only [Int.toNat_natCast] at *; omega) | exact Dle.nil | exact Dle.rc Dle.nil | exact Option.some_ne_none _ | exact Or.inl rfl | exact Or.inr trivial | omega | (simp only [Int.toNat_natCast] at *; omega) | (intro _ _ _ _; exact Dle.of_eq rfl) | refine And.intro ?_ ?_)⟩, by first | omega | (dsimp only; omega)⟩)
          | (rename_i h
             exact Dle.i (by rw [hK, if_neg h]))
      · repeat' first
          | (refine facW_intro ?_; intro _)
          | refine Or.inl ?_
          | ((conv => whnf); first | (refine condW_dec ?_ ?_ <;> intro _ <;> try (exfalso; omega)) | refine condW_not ?_ | (refine condW_bool ?_ ?_ <;> intro _ <;> try (exfalso; omega)) | (refine nbC_t (fun _ => ?_) ?_) | (refine nbC_f ?_ (fun _ => ?_)))
          | refine And.intro (by first | omega | (simp only [Int.toNat_natCast] at *; omega) | (simp only [Nat.reduceAdd, Int.cast_ofNat_Int, true_and, and_true]; omega)  | kernel_rfl) ?_
          | refine RegW.run ?_
          | fail
        exact Dle.i (by rw [hK, condL_end (by omega)])
theorem refCondFault_sp (E0 : Env) (hg : ∀ w, E0.G w → ∀ g, Rep view E0.MG w b0 (wordsGv g) (.pointer (some ⟨g, 0, none⟩))) (E : Env) (hE : E = wEnv E0 hg) (hML : ∀ w, E.G w → ML w) (c : Cd) (hw : c.wt ≤ 100000000) : Sp (cx Tryz.prog mixed tyT_ok E) 47 [encC c] (i64 (condCheck c)) := by
  have hcw := ccnt_le_wt c
  have hl := clvl_le_cnt c
  have h1 := condsOf_sp E _ c (Nat.lt_succ_self _) (by omega)
  have h2 := eachCond_sp E0 hg E hE hML _ c (Nat.lt_succ_self _) hw
  refine Sp.body Tryz.func47 (by kernel_rfl) rfl (by kernel_rfl) (by kernel_rfl) (by kernel_rfl) ?_
  repeat' first
    | (refine facW_intro ?_; intro _)
    | refine Or.inl ?_
    | ((conv => whnf); first | (refine condW_dec ?_ ?_ <;> intro _) | refine condW_not ?_ | (refine condW_bool ?_ ?_ <;> intro _) | (refine nbC_t (fun _ => ?_) ?_) | (refine nbC_f ?_ (fun _ => ?_)))
    | refine And.intro (by first | omega | (simp only [Int.toNat_natCast] at *; omega) | (simp only [Nat.reduceAdd, Int.cast_ofNat_Int, true_and, and_true]; omega)  | kernel_rfl) ?_
    | refine RegW.run ?_
    | refine ⟨_, h1, ?_⟩
    | refine ⟨_, h2, ?_⟩
    | fail
  all_goals exact Dle.i (by unfold condCheck; grind)
end
end Go.Proofs.YtemiaognopgnnaaGreatDoor
namespace Go.Proofs.YtemiaognopgnnaaGreatDoor
open Go.RowKit
set_option linter.unusedVariables false
set_option linter.unusedSimpArgs false
namespace cw
open rp bl pn
/-- Whether a kid stands in brackets. -/
def brk (o k : Int) : Bool := (decide (k = 2) && !decide (o = 2)) || (decide (k = 1) && decide (o = 3))
/-- What stands between kids. -/
def sepB (o : Int) : List UInt8 := if o = 1 then [32, 97, 110, 100, 32] else [32, 111, 114, 32]
/-- The signs of operations. -/
def opW (o : Int) : List UInt8 := if o = 5 then [61] else if o = 6 then [33, 61] else if o = 7 then [60] else if o = 8 then [60, 61] else if o = 9 then [62] else if o = 10 then [62, 61] else if o = 11 then [104, 97, 115] else if o = 12 then [105, 110] else if o = 13 then [98, 101, 103, 105, 110, 115] else []
mutual
/-- A condition as text. -/
noncomputable def cdB : Cd → List UInt8
  | .mk o r v l => if o = 1 ∨ o = 2 then cdF o true l else if o = 3 then [110, 111, 116, 32] ++ cdF o true l else if o = 4 then r.data.toList else r.data.toList ++ [32] ++ opW o ++ [32] ++ pvB [] v
/-- Kids as text. -/
noncomputable def cdF (o : Int) : Bool → List Cd → List UInt8
  | _, [] => []
  | f, x :: r => (if f then [] else sepB o) ++ (if brk o x.op then [40] ++ cdB x ++ [41] else cdB x) ++ cdF o false r
end
/-- A kid as text. -/
noncomputable def kidB (o : Int) (x : Cd) : List UInt8 := if brk o x.op then [40] ++ cdB x ++ [41] else cdB x
theorem cdB_eq (c : Cd) : cdB c = if c.op = 1 ∨ c.op = 2 then cdF c.op true c.kids else if c.op = 3 then [110, 111, 116, 32] ++ cdF c.op true c.kids else if c.op = 4 then c.route.data.toList else c.route.data.toList ++ [32] ++ opW c.op ++ [32] ++ pvB [] c.value := by
  cases c
  simp only [cdB, Cd.op, Cd.route, Cd.value, Cd.kids]
  rfl
/-- Kids' texts. -/
noncomputable def kL (o : Int) (l : List Cd) : List ByteArray := l.map fun x => bs (kidB o x)
theorem kL_len (o : Int) (l : List Cd) : (kL o l).length = l.length := by simp [kL]
theorem jn_kL (o : Int) (l : List Cd) (f : Bool) : jn (sepB o) f (kL o l) = cdF o f l := by
  induction l generalizing f with
  | nil => cases f <;> simp [kL, jn, cdF]
  | cons x r ih =>
    have := ih false
    unfold kL at this ⊢
    rw [List.map_cons, jn, this, cdF]
    simp [bs, kidB]
/-- A value that a condition may have: neither a Table nor one in it. -/
def flat (v : Vu) : Prop := v.kind ≠ 6 ∧ (v.kind = 5 → ∀ x ∈ v.items, x.kind ≠ 5 ∧ x.kind ≠ 6)
section
variable (E : Env)
set_option maxRecDepth 100000
theorem dayStringR_sp (n : Int) (h0 : 0 ≤ n) (h1 : n ≤ 84005) : Sp (cx Tryz.prog mixed tyT_ok E) 127 [i64 n] (.tup [dS (dayT n), i64 0]) := by
  have h2 := dayString_sp E n h0 h1
  have h3 := badDay_sp E n
  have h4 : decide (badDayP n) = false := decide_eq_false (by unfold badDayP; omega)
  rw [h4] at h3
  refine Sp.body Tryz.func127 (by kernel_rfl) rfl (by kernel_rfl) (by kernel_rfl) (by kernel_rfl) ?_
  repeat' first
    | (refine codeW_cond rfl ?_; first | (refine condW_dec ?_ ?_ <;> intro _ <;> try (exfalso; omega)) | refine condW_not ?_ | (refine condW_bool ?_ ?_ <;> intro _ <;> try (exfalso; omega)))
    | (refine facW_intro ?_; intro _)
    | refine Or.inl ?_
    | ((conv => whnf); first | (refine condW_dec ?_ ?_ <;> intro _ <;> try (exfalso; omega)) | refine condW_not ?_ | (refine condW_bool ?_ ?_ <;> intro _ <;> try (exfalso; omega)) | (refine nbC_t (fun _ => ?_) ?_) | (refine nbC_f ?_ (fun _ => ?_)))
    | refine And.intro (by first | omega | (simp only [Int.toNat_natCast] at *; omega) | (simp only [Nat.reduceAdd, Int.cast_ofNat_Int, true_and, and_true]; omega)  | kernel_rfl) ?_
    | refine RegW.run ?_
    | refine ⟨_, h2, ?_⟩
    | refine ⟨_, h3, ?_⟩
    | fail
  all_goals first
    | exact Dle.refl _ _
    | trace_state
theorem numberL_sp (hP : ∀ w, E.G w → P10 w) (n : Int) (h : -9223372036854775808 ≤ n ∧ n ≤ 9223372036854775807) : Sp (cx Tryz.prog mixed tyT_ok E) 126 [i64 n] (dS (decS n)) := by
  have h1 := (itoa_sp E hP n).resolve_right (fun g => g h)
  refine Sp.body Tryz.func126 (by kernel_rfl) rfl (by kernel_rfl) (by kernel_rfl) (by kernel_rfl) ?_
  repeat' first
    | (refine codeW_cond rfl ?_; first | (refine condW_dec ?_ ?_ <;> intro _ <;> try (exfalso; omega)) | refine condW_not ?_ | (refine condW_bool ?_ ?_ <;> intro _ <;> try (exfalso; omega)))
    | (refine facW_intro ?_; intro _)
    | refine Or.inl ?_
    | ((conv => whnf); first | (refine condW_dec ?_ ?_ <;> intro _ <;> try (exfalso; omega)) | refine condW_not ?_ | (refine condW_bool ?_ ?_ <;> intro _ <;> try (exfalso; omega)) | (refine nbC_t (fun _ => ?_) ?_) | (refine nbC_f ?_ (fun _ => ?_)))
    | refine And.intro (by first | omega | (simp only [Int.toNat_natCast] at *; omega) | (simp only [Nat.reduceAdd, Int.cast_ofNat_Int, true_and, and_true]; omega)  | kernel_rfl) ?_
    | refine RegW.run ?_
    | refine ⟨_, h1, ?_⟩
    | fail
  all_goals first
    | exact Dle.refl _ _
    | trace_state
/-- A value that is no List. -/
theorem valueText0_sp (hP : ∀ w, E.G w → P10 w) (v : Vu) (hf : faultE v = 0) (hv : v.i64) (h5 : v.kind ≠ 5) (h6 : v.kind ≠ 6) (hw : v.wt ≤ 1000000000) : Sp (cx Tryz.prog mixed tyT_ok E) 84 [encV v] (dS (bs (pvB [] v))) := by
  have hff := fault_facts hf
  have hp := pvB_eq [] v
  have hwp := wt_parts v
  have hi : -9223372036854775808 ≤ v.i ∧ v.i ≤ 9223372036854775807 := by cases v; exact hv.2.1
  by_cases c3 : v.kind = 3
  · rw [if_pos c3] at hp
    rw [hp, bs_list]
    have h1 := newQ_l E 30 31 (by decide)
    have h2 := replQ_l E 31 v.text (by omega)
    have h3 : (repS qp v.text).size ≤ 100 * v.text.size := repS_size (l := qp) qp_prs v.text
    have hq : quo v.text = ⟨#[34]⟩ ++ repS qp v.text ++ ⟨#[34]⟩ := by unfold quo; rfl
    generalize quo v.text = q at hq
    generalize repS qp v.text = r at h2 h3 hq
    have hz1 : ((⟨#[34]⟩ : ByteArray) ++ r).size = 1 + r.size := ByteArray.size_append
    have hz0 : (⟨#[34]⟩ : ByteArray).size = 1 := rfl
    subst hq
    refine Sp.body Tryz.func84 (by kernel_rfl) rfl (by kernel_rfl) (by kernel_rfl) (by kernel_rfl) ?_
    repeat' first
      | refine Or.inr ⟨_, _, _, h1, by kernel_rfl, (by repeat' first | exact trivial | exact rfl | kernel_rfl | exact Dle.of_eq rfl | exact MLe.of_eq rfl | exact Dle.i (by omega) | exact Dle.i (by simp only [Int.toNat_natCast] at *; omega) | exact Dle.nil | exact Dle.rc Dle.nil | exact Option.some_ne_none _ | exact Or.inl rfl | exact Or.inr trivial | omega | (simp only [Int.toNat_natCast] at *; omega) | (intro _ _ _ _; exact Dle.of_eq rfl) | refine And.intro ?_ ?_), ?_⟩
      | refine Or.inr ⟨_, _, _, h2, by kernel_rfl, (by repeat' first | exact trivial | exact rfl | kernel_rfl | exact Dle.of_eq rfl | exact MLe.of_eq rfl | exact Dle.i (by omega) | exact Dle.i (by simp only [Int.toNat_natCast] at *; omega) | exact Dle.nil | exact Dle.rc Dle.nil | exact Option.some_ne_none _ | exact Or.inl rfl | exact Or.inr trivial | omega | (simp only [Int.toNat_natCast] at *; omega) | (intro _ _ _ _; exact Dle.of_eq rfl) | refine And.intro ?_ ?_), ?_⟩
      | (refine codeW_cond rfl ?_; first | (refine condW_dec ?_ ?_ <;> intro _ <;> try (exfalso; omega)) | refine condW_not ?_ | (refine condW_bool ?_ ?_ <;> intro _ <;> try (exfalso; omega)))
      | (refine facW_intro ?_; intro _)
      | refine Or.inl ?_
      | ((conv => whnf); first | (refine condW_dec ?_ ?_ <;> intro _ <;> try (exfalso; omega)) | refine condW_not ?_ | (refine condW_bool ?_ ?_ <;> intro _ <;> try (exfalso; omega)) | (refine nbC_t (fun _ => ?_) ?_) | (refine nbC_f ?_ (fun _ => ?_)))
      | refine And.intro (by first | omega | (simp only [Int.toNat_natCast] at *; omega) | (simp only [Nat.reduceAdd, Int.cast_ofNat_Int, true_and, and_true]; omega)  | kernel_rfl) ?_
      | refine RegW.run ?_
      | fail
    all_goals first
      | (exfalso; omega)
      | exact Dle.refl _ _
      | trace_state
  · rw [if_neg c3, if_neg h5, if_neg h6] at hp
    rw [hp, bs_list]
    have h1 := numberL_sp E hP v.i hi
    by_cases h4 : v.kind = 4
    · have h2 := dayStringR_sp E v.i (hff.2.2.2 h4).1 (hff.2.2.2 h4).2
      refine Sp.body Tryz.func84 (by kernel_rfl) rfl (by kernel_rfl) (by kernel_rfl) (by kernel_rfl) ?_
      repeat' first
        | (refine codeW_cond rfl ?_; first | (refine condW_dec ?_ ?_ <;> intro _ <;> try (exfalso; omega)) | refine condW_not ?_ | (refine condW_bool ?_ ?_ <;> intro _ <;> try (exfalso; omega)))
        | (refine facW_intro ?_; intro _)
        | refine Or.inl ?_
        | ((conv => whnf); first | (refine condW_dec ?_ ?_ <;> intro _ <;> try (exfalso; omega)) | refine condW_not ?_ | (refine condW_bool ?_ ?_ <;> intro _ <;> try (exfalso; omega)) | (refine nbC_t (fun _ => ?_) ?_) | (refine nbC_f ?_ (fun _ => ?_)))
        | refine And.intro (by first | omega | (simp only [Int.toNat_natCast] at *; omega) | (simp only [Nat.reduceAdd, Int.cast_ofNat_Int, true_and, and_true]; omega)  | kernel_rfl) ?_
        | refine RegW.run ?_
        | refine ⟨_, h1, ?_⟩
        | refine ⟨_, h2, ?_⟩
        | fail
      all_goals first
        | (exfalso; omega)
        | exact Dle.s (by unfold wordS; grind)
        | trace_state
    · refine Sp.body Tryz.func84 (by kernel_rfl) rfl (by kernel_rfl) (by kernel_rfl) (by kernel_rfl) ?_
      repeat' first
        | (refine codeW_cond rfl ?_; first | (refine condW_dec ?_ ?_ <;> intro _ <;> try (exfalso; omega)) | refine condW_not ?_ | (refine condW_bool ?_ ?_ <;> intro _ <;> try (exfalso; omega)))
        | (refine facW_intro ?_; intro _)
        | refine Or.inl ?_
        | ((conv => whnf); first | (refine condW_dec ?_ ?_ <;> intro _ <;> try (exfalso; omega)) | refine condW_not ?_ | (refine condW_bool ?_ ?_ <;> intro _ <;> try (exfalso; omega)) | (refine nbC_t (fun _ => ?_) ?_) | (refine nbC_f ?_ (fun _ => ?_)))
        | refine And.intro (by first | omega | (simp only [Int.toNat_natCast] at *; omega) | (simp only [Nat.reduceAdd, Int.cast_ofNat_Int, true_and, and_true]; omega)  | kernel_rfl) ?_
        | refine RegW.run ?_
        | refine ⟨_, h1, ?_⟩
        | fail
      all_goals first
        | (exfalso; omega)
        | exact Dle.s (by unfold wordS; grind)
        | trace_state
end
end cw
end Go.Proofs.YtemiaognopgnnaaGreatDoor
namespace Go.Proofs.YtemiaognopgnnaaGreatDoor
open Go.RowKit
set_option linter.unusedVariables false
set_option linter.unusedSimpArgs false
namespace cw
open rp bl pn
section
variable (E : Env)
set_option maxRecDepth 100000
set_option maxHeartbeats 8000000 in
theorem valueText_sp (hP : ∀ w, E.G w → P10 w) (v : Vu) (hf : faultE v = 0) (hv : v.i64) (hfl : flat v) (hlv : lvl v ≤ 100) (hc : cnt v ≤ 1000000) (hw : v.wt ≤ 100000000) : Sp (cx Tryz.prog mixed tyT_ok E) 84 [encV v] (dS (bs (pvB [] v))) := by
  by_cases c5 : v.kind = 5
  · have hff := fault_facts hf
    have hp := pvB_eq [] v
    have hwp := wt_parts v
    rw [if_neg (by omega), if_pos c5] at hp
    have hil : v.items.length ≤ 1000000 := by have h1 := len_le_cntL v.items; have h2 := cnt_eq v; omega
    have hlen : v.items.length * 16 ≤ 16000000 := by omega
    refine Sp.body Tryz.func84 (by kernel_rfl) rfl (by kernel_rfl) (by kernel_rfl) (by kernel_rfl) ?_
    repeat' first
      | (refine codeW_cond rfl ?_; first | (refine condW_dec ?_ ?_ <;> intro _ <;> try (exfalso; omega)) | refine condW_not ?_ | (refine condW_bool ?_ ?_ <;> intro _ <;> try (exfalso; omega)))
      | (refine facW_intro ?_; intro _)
      | refine Or.inl ?_
      | ((conv => whnf); first | (refine condW_dec ?_ ?_ <;> intro _ <;> try (exfalso; omega)) | refine condW_not ?_ | (refine condW_bool ?_ ?_ <;> intro _ <;> try (exfalso; omega)) | (refine nbC_t (fun _ => ?_) ?_) | (refine nbC_f ?_ (fun _ => ?_)))
      | refine And.intro (by first | omega | (simp only [Int.toNat_natCast] at *; omega) | (simp only [Nat.reduceAdd, Int.cast_ofNat_Int, true_and, and_true]; omega)  | kernel_rfl) ?_
      | refine RegW.run ?_
      | fail
    refine ⟨Nat, fun q => [(42, i64 q), (5, .own 43 1 0 (wL [] (v.items.take q)).length)], fun q => [], [1], fun q => [(43, 9, (wL [] (v.items.take q)).length, fun i j => .v (.string ((wL [] (v.items.take q)).getD i ⟨#[]⟩)))], fun q => q ≤ v.items.length, fun q => v.items.length - q, ⟨0, by omega, ⟨[(43, none)], ⟨by kernel_rfl, by kernel_rfl, by kernel_rfl, by kernel_rfl, by kernel_rfl, by kernel_rfl, by kernel_rfl⟩, (by repeat' first | exact trivial | exact rfl | kernel_rfl | exact Dle.of_eq rfl | exact MLe.of_eq rfl | exact Dle.i (by omega) | exact Dle.i (by simp only [Int.toNat_natCast] at *; omega) | exact Dle.nil | exact Dle.rc Dle.nil | exact Option.some_ne_none _ | exact Or.inl rfl | exact Or.inr trivial | omega | (simp only [Int.toNat_natCast] at *; omega) | (intro _ _ _ _; exact Dle.of_eq rfl) | refine And.intro ?_ ?_)⟩⟩, fun q hq => ?_⟩
    have hq2 : q ≤ v.items.length := hq
    have hll : (wL [] (v.items.take q)).length ≤ 1000000 := by rw [wL_len, List.length_take]; omega
    by_cases hlt : q < v.items.length
    · have hm := getD_mem v.items .zero q hlt
      have g6 := wtL_tk v.items q hlt
      have h1 := valueText0_sp E hP (v.items.getD q .zero) (fault_memP hf hlt) (i64_mem hv hm) (hfl.2 c5 _ hm).1 (hfl.2 c5 _ hm).2 (by omega)
      have e2 : (wL [] (v.items.take (q + 1))) = (wL [] (v.items.take q)) ++ [bs (pvB [] (v.items.getD q .zero))] := by unfold wL; rw [take_snoc v.items .zero q hlt, List.map_append]; rfl
      have e3 : (wL [] (v.items.take q)).length + 1 = (wL [] (v.items.take (q + 1))).length := by rw [e2, List.length_append]; rfl
      have h9 : ∀ i j, i < (wL [] (v.items.take q)).length + 1 → j < 1 → Dle (cx Tryz.prog mixed tyT_ok (E)) (if i < (wL [] (v.items.take q)).length then .v (.string ((wL [] (v.items.take q)).getD i ⟨#[]⟩)) else ([.v (.string (bs (pvB [] (v.items.getD q .zero))))] : List DD).getD ((i - (wL [] (v.items.take q)).length) * 1 + j) .opq) (.v (.string ((wL [] (v.items.take (q + 1))).getD i ⟨#[]⟩))) := by
        rw [e2]
        intro i j hi hj
        obtain rfl : j = 0 := by omega
        by_cases hh : i < (wL [] (v.items.take q)).length
        · rw [if_pos hh]
          exact Dle.s (getD_snoc1 hh).symm
        · rw [if_neg hh, show i - (wL [] (v.items.take q)).length = 0 by omega]
          exact Dle.s (getD_snoc2 (by omega)).symm
      repeat' first
        | (refine codeW_cond rfl ?_; first | (refine condW_dec ?_ ?_ <;> intro _ <;> try (exfalso; omega)) | refine condW_not ?_ | (refine condW_bool ?_ ?_ <;> intro _ <;> try (exfalso; omega)))
        | (refine facW_intro ?_; intro _)
        | refine Or.inl ?_
        | ((conv => whnf); first | (refine condW_dec ?_ ?_ <;> intro _ <;> try (exfalso; omega)) | refine condW_not ?_ | (refine condW_bool ?_ ?_ <;> intro _ <;> try (exfalso; omega)) | (refine nbC_t (fun _ => ?_) ?_) | (refine nbC_f ?_ (fun _ => ?_)))
        | refine And.intro (by first | omega | (simp only [Int.toNat_natCast] at *; omega) | (simp only [Nat.reduceAdd, Int.cast_ofNat_Int, true_and, and_true]; omega)  | kernel_rfl) ?_
        | refine RegW.run ?_
        | refine ⟨_, h1, ?_⟩
        | fail
      all_goals first
        | (exfalso; omega)
        | exact ⟨q + 1, by omega, ⟨[(43, some 50)], ⟨by kernel_rfl, by kernel_rfl, by kernel_rfl, by kernel_rfl, by kernel_rfl, by kernel_rfl, by kernel_rfl⟩, (by repeat' first | (exact e3) | exact trivial | exact rfl | kernel_rfl | exact Dle.of_eq rfl | exact MLe.of_eq rfl | exact Dle.i (by omega) | exact Dle.i (by simp only [Int.toNat_natCast] at *; omega) | exact Dle.nil | exact Dle.rc Dle.nil | exact Option.some_ne_none _ | exact Or.inl rfl | exact Or.inr trivial | omega | (simp only [Int.toNat_natCast] at *; omega) | (intro _ _ _ _; exact Dle.of_eq rfl) | (intro i j hi hj; exact h9 i j hi hj) | refine And.intro ?_ ?_)⟩, by first | omega | (dsimp only; omega)⟩
        | trace_state
    · obtain rfl : q = v.items.length := by omega
      have e5 : v.items.take v.items.length = v.items := List.take_length
      have hwl : (pvF [] false v.items).length ≤ 1000000000000 := by
        have hi : Vu.i64L v.items := by cases v; exact hv.2.2
        have h1 := pvF_len [] false v.items hi
        have h4 := lvl_le_cnt v
        have h3 := lvl_eq v
        have h2 : (([] : List UInt8).length + 3 * lvlL v.items + 201) * Vu.wtL v.items ≤ (3 * lvlL v.items + 201) * 100000000 := Nat.mul_le_mul (by simp) (by omega)
        have h5 : (3 * lvlL v.items + 201) * 100000000 ≤ 600 * 100000000 := Nat.mul_le_mul_right _ (by omega)
        omega
      have hsz := szL_wL [] v.items
      have h1 := join1_sp E (wL [] (v.items.take v.items.length)) ⟨#[32]⟩ (by omega) (by decide) (by decide) (by rw [e5]; omega)
      have hjs := jnS_size (wL [] (v.items.take v.items.length)) ⟨#[32]⟩
      have hz2 : (⟨#[32]⟩ : ByteArray).size = 1 := rfl
      have hjn : bs (pvB [] v) = ⟨#[91]⟩ ++ jnS (wL [] (v.items.take v.items.length)) ⟨#[32]⟩ ++ ⟨#[93]⟩ := by
        have e6 : jnS (wL [] (v.items.take v.items.length)) ⟨#[32]⟩ = bs (pvF [] true v.items) := by
          rw [e5]
          exact congrArg bs (jn_wL [] v.items true)
        rw [e6, hp, show (⟨#[91]⟩ : ByteArray) = bs [91] from rfl, show (⟨#[93]⟩ : ByteArray) = bs [93] from rfl, bs_app, bs_app]
      rw [e5, hz2, Nat.one_mul] at hjs
      have hjs2 : (jnS (wL [] (v.items.take v.items.length)) ⟨#[32]⟩).size ≤ 2000000000000 := by rw [e5]; have := wL_len [] v.items; omega
      rw [hjn]
      generalize jnS (wL [] (v.items.take v.items.length)) ⟨#[32]⟩ = r at h1 hjs2
      have hz0 : (⟨#[91]⟩ : ByteArray).size = 1 := rfl
      have hz3 : (⟨#[93]⟩ : ByteArray).size = 1 := rfl
      have hz1 : ((⟨#[91]⟩ : ByteArray) ++ r).size = 1 + r.size := ByteArray.size_append
      repeat' first
        | (refine codeW_cond rfl ?_; first | (refine condW_dec ?_ ?_ <;> intro _ <;> try (exfalso; omega)) | refine condW_not ?_ | (refine condW_bool ?_ ?_ <;> intro _ <;> try (exfalso; omega)))
        | (refine facW_intro ?_; intro _)
        | refine Or.inl ?_
        | ((conv => whnf); first | (refine condW_dec ?_ ?_ <;> intro _ <;> try (exfalso; omega)) | refine condW_not ?_ | (refine condW_bool ?_ ?_ <;> intro _ <;> try (exfalso; omega)) | (refine nbC_t (fun _ => ?_) ?_) | (refine nbC_f ?_ (fun _ => ?_)))
        | refine And.intro (by first | omega | (simp only [Int.toNat_natCast] at *; omega) | (simp only [Nat.reduceAdd, Int.cast_ofNat_Int, true_and, and_true]; omega)  | kernel_rfl) ?_
        | refine RegW.run ?_
        | refine ⟨_, h1, ?_⟩
        | fail
      all_goals first
        | (exfalso; omega)
        | exact Dle.refl _ _
        | trace_state
  · by_cases c6 : v.kind = 6
    · exact absurd c6 hfl.1
    · exact valueText0_sp E hP v hf hv c5 c6 (by omega)
end
end cw
end Go.Proofs.YtemiaognopgnnaaGreatDoor
namespace Go.Proofs.YtemiaognopgnnaaGreatDoor
open Go.RowKit
set_option linter.unusedVariables false
set_option linter.unusedSimpArgs false
namespace cw
open rp bl pn
mutual
/-- The whole numbers of a condition's values are ints. -/
def i64C : Cd → Prop
  | .mk _ _ v l => v.i64 ∧ i64Cs l
def i64Cs : List Cd → Prop
  | [] => True
  | x :: r => i64C x ∧ i64Cs r
end
theorem i64Cs_mem : ∀ (l : List Cd) (x : Cd), i64Cs l → x ∈ l → i64C x
  | a :: l, x, h, hx => by
    rcases List.mem_cons.1 hx with rfl | hx
    · exact h.1
    · exact i64Cs_mem l x h.2 hx
theorem i64C_val (c : Cd) (h : i64C c) : c.value.i64 := by cases c; exact h.1
theorem i64C_kids (c : Cd) (h : i64C c) : i64Cs c.kids := by cases c; exact h.2
theorem condL_mem : ∀ (l : List Cd) (x : Cd), condL l = 0 → x ∈ l → condE x = 0
  | a :: l, x, h, hx => by
    simp only [condL] at h
    split at h
    · rcases List.mem_cons.1 hx with rfl | hx
      · assumption
      · exact condL_mem l x h hx
    · contradiction
theorem checkE_zero {v : Vu} (h : checkE v = 0) : cnt v ≤ 1000 ∧ lvl v ≤ 8 ∧ faultE v = 0 := by
  unfold checkE at h
  split at h
  · omega
  · split at h
    · omega
    · exact ⟨by omega, by omega, h⟩
theorem wrong_flat {op : Int} {v : Vu} (h : wrongB op v = false) : flat v := by
  unfold wrongB at h
  unfold flat
  split at h
  · simp only [Bool.or_eq_false_iff, Bool.not_eq_false', decide_eq_true_eq, List.any_eq_false] at h
    refine ⟨by omega, fun _ x hx => ?_⟩
    have := h.2 x hx
    unfold compB at this
    simp only [Bool.or_eq_true, decide_eq_true_eq, not_or] at this
    exact this
  · split at h
    · simp only [Bool.not_eq_false', decide_eq_true_eq] at h
      exact ⟨by omega, fun h5 => by omega⟩
    · unfold compB at h
      simp only [Bool.or_eq_false_iff, decide_eq_false_iff_not] at h
      exact ⟨h.2, fun h5 => absurd h5 h.1⟩
theorem ok_facts {c : Cd} (h : condE c = 0) : 1 ≤ c.op ∧ c.op ≤ 13 ∧ (c.op = 3 → c.kids.length = 1) ∧ (4 ≤ c.op → c.kids.length = 0) ∧ (5 ≤ c.op → cnt c.value ≤ 1000 ∧ lvl c.value ≤ 8 ∧ faultE c.value = 0 ∧ flat c.value) ∧ ∀ x ∈ c.kids, condE x = 0 := by
  rw [condE_eq] at h
  split at h
  · rename_i hh
    unfold condH at hh
    split at hh
    · omega
    · rename_i hf
      unfold condF at hf
      refine ⟨by omega, by omega, by omega, by omega, fun h5 => ?_, fun x hx => condL_mem _ x h hx⟩
      rw [if_neg (by omega)] at hh
      unfold condR at hh
      rw [if_neg (c := c.op ≤ 3 ∧ _ ∨ c.op = 4 ∧ _) (by omega), if_neg (by omega)] at hh
      split at hh
      · omega
      · split at hh
        · contradiction
        · rename_i h1
          split at hh
          · omega
          · rename_i h2
            have h3 : checkE c.value = 0 := Decidable.not_not.1 h1
            obtain ⟨a1, a2, a3⟩ := checkE_zero h3
            refine ⟨a1, a2, a3, wrong_flat (op := c.op) ?_⟩
            cases hw : wrongB c.op c.value
            · rfl
            · exact absurd ⟨by omega, hw⟩ h2
  · contradiction
theorem opW_len (o : Int) : (opW o).length ≤ 6 := by
  unfold opW
  repeat' split
  all_goals decide
theorem sepB_len (o : Int) : (sepB o).length ≤ 5 := by
  unfold sepB
  split <;> decide
mutual
theorem cdB_len : ∀ c : Cd, condE c = 0 → i64C c → (cdB c).length + 20 ≤ 600 * c.wt
  | .mk o r v l, h, hi => by
    have hf := ok_facts h
    simp only [Cd.op, Cd.kids, Cd.value] at hf
    have h1 := cdF_len o true l hf.2.2.2.2.2 hi.2
    have hr : r.data.toList.length = r.size := by simp
    simp only [cdB, Cd.wt]
    split
    · omega
    · split
      · simp only [List.length_append, List.length_cons, List.length_nil]
        omega
      · split
        · omega
        · have h5 := hf.2.2.2.2.1 (by omega)
          have h2 := pvB_len [] v hi.1
          have h3 := opW_len o
          have h4 : (([] : List UInt8).length + 3 * lvl v + 200) * v.wt ≤ 300 * v.wt := Nat.mul_le_mul_right _ (by simp only [List.length_nil]; omega)
          simp only [List.length_append, List.length_cons, List.length_nil]
          omega
theorem cdF_len : ∀ (o : Int) (f : Bool) (l : List Cd), (∀ x ∈ l, condE x = 0) → i64Cs l → (cdF o f l).length ≤ 600 * Cd.wtL l
  | _, _, [], _, _ => by simp [cdF, Cd.wtL]
  | o, f, x :: r, h, hi => by
    have h1 := cdB_len x (h x (by simp)) hi.1
    have h2 := cdF_len o false r (fun y hy => h y (by simp [hy])) hi.2
    have h3 := sepB_len o
    simp only [cdF, Cd.wtL, List.length_append, List.length_cons]
    have h4 : (if f then [] else sepB o).length ≤ 5 := by split <;> first | (simp only [List.length_nil]; omega) | omega
    have h5 : (if brk o x.op then [40] ++ cdB x ++ [41] else cdB x).length ≤ (cdB x).length + 2 := by split <;> simp
    omega
end
theorem klen_le_wt : ∀ l : List Cd, l.length ≤ Cd.wtL l
  | [] => Nat.zero_le _
  | x :: r => by
    have h := klen_le_wt r
    have h2 := x.wt_eq
    simp only [List.length_cons, Cd.wtL]
    omega
theorem kidB_len (o : Int) (x : Cd) (h : condE x = 0) (hi : i64C x) : (kidB o x).length ≤ 600 * x.wt := by
  have h1 := cdB_len x h hi
  unfold kidB
  split <;> simp <;> omega
theorem szL_kL (o : Int) : ∀ l : List Cd, (∀ x ∈ l, condE x = 0) → i64Cs l → szL (kL o l) ≤ 600 * Cd.wtL l
  | [], _, _ => by simp [kL, szL]
  | x :: r, h, hi => by
    have h1 := szL_kL o r (fun y hy => h y (by simp [hy])) hi.2
    have h2 := kidB_len o x (h x (by simp)) hi.1
    unfold kL szL at h1 ⊢
    simp only [List.map_cons, List.sum_cons, bs_size, Cd.wtL]
    omega
theorem opN_getD {o : Int} (h : 5 ≤ o) (h2 : o ≤ 13) : opNames.getD o.toNat ⟨#[]⟩ = bs (opW o) := by
  have : o = 5 ∨ o = 6 ∨ o = 7 ∨ o = 8 ∨ o = 9 ∨ o = 10 ∨ o = 11 ∨ o = 12 ∨ o = 13 := by omega
  rcases this with rfl | rfl | rfl | rfl | rfl | rfl | rfl | rfl | rfl <;> rfl
end cw
end Go.Proofs.YtemiaognopgnnaaGreatDoor
