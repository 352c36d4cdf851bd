/-
  sort.SliceStable of a row of ints, by hand. (Printed by mk_sr.py.) sort.SliceStable of a lent row of ints under a closure with two captured variables. (Printed by mk_sr.py.) sort.SliceStable of a row of ints: of at most one element; of any. (Printed by mk_sr.py.)
-/
import Derived.Test.YthoemnhigboahaaGreatDoorSrC
import Derived.Test.YthoemnhigboahaaGreatDoorChecked
import Derived.ProofKit
import Derived.WalkKit
import Derived.Lib.ReflectliteSlice
namespace Go.Proofs.YthoemnhigboahaaGreatDoor
open Go.RowKit
set_option linter.unusedVariables false
set_option linter.unusedSimpArgs false
namespace sq
open sb
noncomputable def stW (p : Option Addr) (n c : Nat) (w : World) : World :=
  (w.alloc (.cells #[.slice p n c] 39)).alloc (.cells #[.pointer (some ⟨Tryz.prog.globals.size, 39, none⟩), .pointer (some ⟨w.heap.size, 0, none⟩), .int .u64 151] 215)
set_option maxHeartbeats 2000000 in
set_option maxRecDepth 100000 in
theorem sliceStable_raw (p : Option Addr) (n c : Nat) (hn : n < 4611686018427387904) (h2 : 2 ≤ n) (lf : Fn) (la lb : Array Value) (w : World) (R : World → Prop)
    (hp : Calls Tryz.prog 91 #[.agg #[.func lf la lb, .func (.func 118) #[] #[.slice p n c, typeHandle Tryz.prog 3]], .int .i64 n] (stW p n c w) fun e w' => e = .returned (.tuple #[]) ∧ R w') :
    Calls Tryz.prog 45 #[.iface 39 (.slice p n c), .func lf la lb] w fun e w' => e = .returned (.tuple #[]) ∧ R w' := by
  obtain ⟨i, hi, hd⟩ : ∃ i, Tryz.prog.info? 39 = some i ∧ i.desc = .slice 3 := ⟨_, rfl, rfl⟩
  obtain ⟨ie, hie, hk⟩ : ∃ ie, Tryz.prog.info? 3 = some ie ∧ ∀ n ke, 2 ≤ n → Go.Lib.swapperK n ie ke = 5 := ⟨_, rfl, fun n ke h => by
    unfold Go.Lib.swapperK
    rw [if_neg (by simp; omega), if_neg (by simp; omega)]
    rfl⟩
  have hke : ∃ ke, ∀ w, (Extern.Rtype.kind 3).run Tryz.prog w = .ok ke w := ⟨2, fun w => by kernel_rfl⟩
  obtain ⟨ke, hke⟩ := hke
  have hv := Go.Lib.run_valueOf_slice (P := Tryz.prog) 39 3 i hi hd p n c w
  have hs := fun w => Go.Lib.run_swapper_slice (P := Tryz.prog) 39 3 i ie hi hd hie ke hke p n c 118 (by rw [hk n ke h2]; kernel_rfl) w
  have hl := fun a w ha => Go.Lib.run_valueLen_slice (P := Tryz.prog) 39 3 i hi hd (by kernel_rfl) a p n c w ha
  rw [hk n ke h2, if_neg (by omega)] at hs
  unfold stW at hp
  simp only [typeHandle] at hv hl
  obtain ⟨G, hG⟩ : ∃ G, Tryz.prog.globals.size = G := ⟨_, rfl⟩
  rw [hG] at hv hp
  simp only [hG] at hl
  clear hG
  have e15 : ∀ args w, (callFunc 91 args).run Tryz.prog w = .ok (.enter 91 args) w := enters_of Tryz.func91 (by kernel_rfl) rfl
  go_enter Tryz.func45, Tryz.ntmps45
  go_wp2
  rw [run_callFunc_extern Tryz.func89 (by kernel_rfl) (by kernel_rfl) (by kernel_rfl) (e := fun args => Extern.ReflectliteValue.unpack (args.getD 0 (.tuple #[]))) (by kernel_rfl),
    show Sem.run Tryz.prog ((fun args : Array Value => Extern.ReflectliteValue.unpack (args.getD 0 (.tuple #[]))) #[.iface 39 (.slice p n c)]) w = _ from hv]
  simp only [Result.andThen]
  rw [Oper.upon_value]
  go_wp2
  rw [run_callFunc_extern Tryz.func90 (by kernel_rfl) (by kernel_rfl) (by kernel_rfl) (e := Extern.ReflectliteSwapper.swapper "internal/reflectlite" (Extern.ReflectliteValue.valueError "Swapper")) (by kernel_rfl), hs]
  simp only [Result.andThen]
  rw [Oper.upon_value]
  go_wp2
  rw [run_callFunc_extern Tryz.func92 (by kernel_rfl) (by kernel_rfl) (by kernel_rfl) (e := Extern.ReflectliteValue.method (Extern.ReflectliteValue.valueError "reflectlite.Value.Len" 0) Extern.ReflectliteValue.len) (by kernel_rfl),
    hl _ _ (by simp)]
  simp only [Result.andThen]
  rw [Oper.upon_value]
  go_wp2_with (go_at_call 91; refine hp.mono ?_; rintro e w' ⟨rfl, hR⟩)
  go_end0
  exact ⟨rfl, hR⟩
end sq
end Go.Proofs.YthoemnhigboahaaGreatDoor
namespace Go.Proofs.YthoemnhigboahaaGreatDoor
open Go.RowKit
set_option linter.unusedVariables false
set_option linter.unusedSimpArgs false
namespace sq
open sb
theorem hp_more {X : Cx RC} {M : Nat → Nat → Prop} {w w1 : World} {β : Bt} {H : List (Nat × Ob RC)} (h : Hp X M w β H) (hM : ∀ b o, M b o → b < w.heap.size) (hb : Below w.heap.size w w1) : Hp X M w1 β H :=
  ⟨fun l o hm => ⟨(h.ob l o hm).1, (h.ob l o hm).2.mono (fun _ _ h => h) (fun b o hm => World.cell?_of_block (hb.block b (hM b o hm))) (fun _ _ h => h) (fun _ b c _ hlt => ⟨hb.block b hlt, fun _ h => h⟩)⟩, h.ap⟩
theorem stW_below (p : Option Addr) (n c : Nat) (w : World) : Below w.heap.size w (stW p n c w) := by
  unfold stW
  exact ((Below.refl _ w).alloc (Nat.le_refl _) _).alloc (by show w.heap.size ≤ (w.heap.push _).size; simp) _
section
variable {lt : Nat → Nat → Bool}
section
variable (E : Env)
set_option maxRecDepth 100000 in
theorem sliceStable_l (n : Nat) (hn : n ≤ 1000000000) (h2 : 2 ≤ n) (vl : List Vu) (g : Nat) (hw : Wk lt) (hl : LessR E n vl g lt) :
    SpH (cx Tryz.prog mixed tyT_ok E) 45 [.ifo 39 2000 1 n, .fn g [.ptr 2001 0, .ptr 2002 0]] (SHR n vl id) (.tup []) (SHR n vl (sA lt 0 n)) := by
  have st := (stable_l E n hn vl g hw hl).2
  refine ⟨⟨_, _, Tryz.func45, by kernel_rfl, rfl⟩, fun M β w vs hG hMG hM hlv hr hH hbk => ?_⟩
  have m0 : ((2000, .row 3 n (rwI id)) : Nat × Ob RC) ∈ SHR n vl id := List.mem_cons_self
  obtain ⟨hkn, ho⟩ := (hH.ob 2000 _ m0).2
  rcases ho with ⟨hβ, hz⟩ | ⟨b, c, arr, hβ, hA, hsz0, hnc, hcm, hby, hcell, hvis⟩
  · omega
  have e0 : vs.getD 0 undef = .iface 39 (.slice (some ⟨b, 0, none⟩) n c) := by
    have h := hr 0 _ rfl
    generalize vs.getD 0 undef = v at h
    cases h with
    | ifo h => rw [rep_own1 h hβ]
  obtain ⟨lb, e1, hln, hlr⟩ : ∃ lb : Array Value, vs.getD 1 undef = .func (.func g) #[] lb ∧ lb.size = 2 ∧ ∀ i d, ([.ptr 2001 0, .ptr 2002 0] : List DD)[i]? = some d → Rep view M w β d (lb.getD i undef) := by
    have h := hr 1 _ rfl
    generalize vs.getD 1 undef = v at h
    cases h with
    | fn hn h => exact ⟨_, rfl, hn, h⟩
  have evs : vs = #[.iface 39 (.slice (some ⟨b, 0, none⟩) n c), .func (.func g) #[] lb] := by
    have hl : vs.size = 2 := hlv
    apply Array.ext
    · simpa using hl
    · intro k q1 q2
      have hk : k < 2 := by omega
      match k, hk with
      | 0, _ => simpa [Array.getD, q1] using e0
      | 1, _ => simpa [Array.getD, q1] using e1
  have hB := stW_below (some ⟨b, 0, none⟩) n c w
  generalize hw1 : stW (some ⟨b, 0, none⟩) n c w = w1 at hB
  have hsz1 := hB.size
  have hcl : ∀ b o, M b o → w1.cell? ⟨b, o, none⟩ = w.cell? ⟨b, o, none⟩ := fun b o hm => World.cell?_of_block (hB.block b (hM b o hm))
  have hG1 : ((cx Tryz.prog mixed tyT_ok E)).G w1 := ((cx Tryz.prog mixed tyT_ok E)).keep w w1 hG ((Kp.of hB noS).mono (((cx Tryz.prog mixed tyT_ok E)).gsz w hG) (fun _ _ h => h))
  have hc := st M β w1 #[.agg #[.func (.func g) #[] lb, .func (.func 118) #[] #[.slice (some ⟨b, 0, none⟩) n c, typeHandle Tryz.prog 3]], .int .i64 n] hG1 hMG (fun b o hm => by have := hM b o hm; omega) rfl (fun i d hd => by
    match i, hd with
    | 0, hd =>
      injection hd with hd
      subst hd
      refine .agg rfl (fun i hi => ?_) (fun i d hd => ?_)
      · match i, hi with
        | 0, _ => rfl
        | 1, _ => rfl
      · match i, hd with
        | 0, hd =>
          injection hd with hd
          subst hd
          exact .fn hln (fun i d hd => (hlr i d hd).mono (fun _ _ h => h) hcl)
        | 1, hd =>
          injection hd with hd
          subst hd
          refine .fn rfl (fun i d hd => ?_)
          match i, hd with
          | 0, hd =>
            injection hd with hd
            subst hd
            have := Rep.own (V := view) (M := M) (w := w1) (l := 2000) (s := 1) (o := 0) (n := n) hβ (by omega) hcm
            rw [Nat.zero_mul, Nat.sub_zero] at this
            exact this
          | 1, hd =>
            injection hd with hd
            subst hd
            exact .v rfl
    | 1, hd =>
      injection hd with hd
      subst hd
      exact .v rfl) (hp_more hH hM hB) hbk
  rw [evs]
  refine (sliceStable_raw (some ⟨b, 0, none⟩) n c (by omega) h2 (.func g) #[] lb w (fun w' => ∃ M' β', Kp w.heap.size (blocks β (SHR n vl id)) w w' ∧ (∀ l o, (l, o) ∈ SHR n vl id → β' l = β l) ∧ (∀ b o, M b o → M' b o) ∧ (∀ b o, M' b o → M b o ∨ blocks β (SHR n vl id) b ∨ (w.heap.size ≤ b ∧ b < w'.heap.size)) ∧ Hp (cx Tryz.prog mixed tyT_ok E) M' w' β' (SHR n vl (sA lt 0 n)) ∧ ∀ b, blocks β' (SHR n vl (sA lt 0 n)) b → blocks β (SHR n vl id) b ∨ w.heap.size ≤ b) ?_).mono ?_
  · rw [hw1]
    refine hc.mono ?_
    rintro e w' ⟨x, M', β', rfl, hk, h1, h2, h3, h4, h5, h6⟩
    have hx : x = .tuple #[] := by
      cases h4 with
      | tup hn _ => rw [Array.eq_empty_of_size_eq_zero hn]
    subst hx
    refine ⟨rfl, M', β', (Kp.of hB _).trans (hk.mono hsz1 (fun _ _ h => h)), h1, h2, fun b o hm => ?_, h5, fun b hb => ?_⟩
    · rcases h3 b o hm with h | h | ⟨h, h'⟩
      · exact .inl h
      · exact .inr (.inl h)
      · exact .inr (.inr ⟨by omega, h'⟩)
    · rcases h6 b hb with h | h
      · exact .inl h
      · exact .inr (by omega)
  · rintro e w' ⟨rfl, M', β', h1, h2, h3, h4, h5, h6⟩
    exact ⟨_, M', β', rfl, h1, h2, h3, h4, .tup rfl (fun i d h => by cases h), h5, h6⟩
end
end
end sq
end Go.Proofs.YthoemnhigboahaaGreatDoor
namespace Go.Proofs.YthoemnhigboahaaGreatDoor
open Go.RowKit
set_option linter.unusedVariables false
set_option linter.unusedSimpArgs false
namespace sq
open sb
section
variable (E : Env)
set_option maxRecDepth 100000
theorem insTiny (n : Nat) (hn : n ≤ 1) : SpH (cx Tryz.prog mixed tyT_ok E) 123 [.agg [.opq, .opq], i64 0, i64 n] [] (.tup []) [] := by
  refine SpH.body Tryz.func123 (by kernel_rfl) rfl (by kernel_rfl) (by kernel_rfl) (by kernel_rfl) ?_
  repeat' first
    | (refine codeW_cond rfl ?_; first | (refine condW_dec ?_ ?_ <;> intro _ <;> try (exfalso; omega)) | refine condW_not ?_ | (refine condW_bool ?_ ?_ <;> intro _ <;> try (exfalso; omega)))
    | (refine facW_intro ?_; intro _)
    | refine Or.inl ?_
    | ((conv => whnf); first | (refine condW_dec ?_ ?_ <;> intro _ <;> try (exfalso; omega)) | refine condW_not ?_ | (refine condW_bool ?_ ?_ <;> intro _ <;> try (exfalso; omega)) | (refine nbC_t (fun _ => ?_) ?_) | (refine nbC_f ?_ (fun _ => ?_)))
    | refine And.intro (by first | omega | (simp only [Int.toNat_natCast] at *; omega) | (simp only [Nat.reduceAdd, Int.cast_ofNat_Int, true_and, and_true]; omega)  | kernel_rfl) ?_
    | refine RegW.run ?_
    | fail
  refine ⟨Nat, fun i => [(6, i64 i)], fun i => [], [3], fun i => [], fun i => i = 1, fun i => 1 - i, ⟨1, rfl, ⟨[], ⟨by kernel_rfl, by kernel_rfl, by kernel_rfl, by kernel_rfl, by kernel_rfl, by kernel_rfl, by kernel_rfl⟩, (by repeat' first | exact trivial | exact rfl | kernel_rfl | exact Dle.of_eq rfl | exact MLe.of_eq rfl | exact Dle.i (by omega) | exact Dle.i (by simp only [Int.toNat_natCast] at *; omega) | exact Dle.nil | exact Dle.rc Dle.nil | exact Option.some_ne_none _ | exact Or.inl rfl | exact Or.inr trivial | omega | (simp only [Int.toNat_natCast] at *; omega) | (intro _ _ _ _; exact Dle.of_eq rfl) | refine And.intro ?_ ?_)⟩⟩, fun i hi => ?_⟩
  repeat' first
    | (refine codeW_cond rfl ?_; first | (refine condW_dec ?_ ?_ <;> intro _ <;> try (exfalso; omega)) | refine condW_not ?_ | (refine condW_bool ?_ ?_ <;> intro _ <;> try (exfalso; omega)))
    | (refine facW_intro ?_; intro _)
    | refine Or.inl ?_
    | ((conv => whnf); first | (refine condW_dec ?_ ?_ <;> intro _ <;> try (exfalso; omega)) | refine condW_not ?_ | (refine condW_bool ?_ ?_ <;> intro _ <;> try (exfalso; omega)) | (refine nbC_t (fun _ => ?_) ?_) | (refine nbC_f ?_ (fun _ => ?_)))
    | refine And.intro (by first | omega | (simp only [Int.toNat_natCast] at *; omega) | (simp only [Nat.reduceAdd, Int.cast_ofNat_Int, true_and, and_true]; omega)  | kernel_rfl) ?_
    | refine RegW.run ?_
    | fail
  all_goals first
    | (exfalso; omega)
    | exact ⟨[], [], rfl, ⟨[], ⟨by kernel_rfl, by kernel_rfl, by kernel_rfl, by kernel_rfl, by kernel_rfl, by kernel_rfl, by kernel_rfl⟩, (by repeat' first | exact trivial | exact rfl | kernel_rfl | exact Dle.of_eq rfl | exact MLe.of_eq rfl | exact Dle.i (by omega) | exact Dle.i (by simp only [Int.toNat_natCast] at *; omega) | exact Dle.nil | exact Dle.rc Dle.nil | exact Option.some_ne_none _ | exact Or.inl rfl | exact Or.inr trivial | omega | (simp only [Int.toNat_natCast] at *; omega) | (intro _ _ _ _; exact Dle.of_eq rfl) | refine And.intro ?_ ?_)⟩, rfl⟩
    | trace_state
theorem stableTiny (n : Nat) (hn : n ≤ 1) : SpH (cx Tryz.prog mixed tyT_ok E) 91 [.agg [.opq, .opq], i64 n] [] (.tup []) [] := by
  have c1 := insTiny E n hn
  refine SpH.body Tryz.func91 (by kernel_rfl) rfl (by kernel_rfl) (by kernel_rfl) (by kernel_rfl) ?_
  repeat' first
    | (refine codeW_cond rfl ?_; first | (refine condW_dec ?_ ?_ <;> intro _ <;> try (exfalso; omega)) | refine condW_not ?_ | (refine condW_bool ?_ ?_ <;> intro _ <;> try (exfalso; omega)))
    | (refine facW_intro ?_; intro _)
    | refine Or.inl ?_
    | ((conv => whnf); first | (refine condW_dec ?_ ?_ <;> intro _ <;> try (exfalso; omega)) | refine condW_not ?_ | (refine condW_bool ?_ ?_ <;> intro _ <;> try (exfalso; omega)) | (refine nbC_t (fun _ => ?_) ?_) | (refine nbC_f ?_ (fun _ => ?_)))
    | refine And.intro (by first | omega | (simp only [Int.toNat_natCast] at *; omega) | (simp only [Nat.reduceAdd, Int.cast_ofNat_Int, true_and, and_true]; omega)  | kernel_rfl) ?_
    | refine RegW.run ?_
    | fail
  refine ⟨Nat, fun A => [(5, i64 A), (6, i64 (A + 20))], fun A => [], [2], fun A => [], fun A => A = 0, fun A => 1 - A, ⟨0, rfl, ⟨[], ⟨by kernel_rfl, by kernel_rfl, by kernel_rfl, by kernel_rfl, by kernel_rfl, by kernel_rfl, by kernel_rfl⟩, (by repeat' first | exact trivial | exact rfl | kernel_rfl | exact Dle.of_eq rfl | exact MLe.of_eq rfl | exact Dle.i (by omega) | exact Dle.i (by simp only [Int.toNat_natCast] at *; omega) | exact Dle.nil | exact Dle.rc Dle.nil | exact Option.some_ne_none _ | exact Or.inl rfl | exact Or.inr trivial | omega | (simp only [Int.toNat_natCast] at *; omega) | (intro _ _ _ _; exact Dle.of_eq rfl) | refine And.intro ?_ ?_)⟩⟩, fun A hA => ?_⟩
  subst hA
  repeat' first
    | refine Or.inr ⟨_, _, _, Or.inl (c1), by kernel_rfl, (by repeat' first | exact trivial | exact rfl | kernel_rfl | exact Dle.of_eq rfl | exact MLe.of_eq rfl | exact Dle.i (by omega) | exact Dle.i (by simp only [Int.toNat_natCast] at *; omega) | exact Dle.nil | exact Dle.rc Dle.nil | exact Option.some_ne_none _ | exact Or.inl rfl | exact Or.inr trivial | omega | (simp only [Int.toNat_natCast] at *; omega) | (intro _ _ _ _; exact Dle.of_eq rfl) | refine And.intro ?_ ?_), ?_⟩
    | (refine codeW_cond rfl ?_; first | (refine condW_dec ?_ ?_ <;> intro _ <;> try (exfalso; omega)) | refine condW_not ?_ | (refine condW_bool ?_ ?_ <;> intro _ <;> try (exfalso; omega)))
    | (refine facW_intro ?_; intro _)
    | refine Or.inl ?_
    | ((conv => whnf); first | (refine condW_dec ?_ ?_ <;> intro _ <;> try (exfalso; omega)) | refine condW_not ?_ | (refine condW_bool ?_ ?_ <;> intro _ <;> try (exfalso; omega)) | (refine nbC_t (fun _ => ?_) ?_) | (refine nbC_f ?_ (fun _ => ?_)))
    | refine And.intro (by first | omega | (simp only [Int.toNat_natCast] at *; omega) | (simp only [Nat.reduceAdd, Int.cast_ofNat_Int, true_and, and_true]; omega)  | kernel_rfl) ?_
    | refine RegW.run ?_
    | fail
  refine ⟨Nat, fun s => [(4, i64 s)], fun s => [], [2], fun s => [], fun s => s = 20, fun s => 20 - s, ⟨20, rfl, ⟨[], ⟨by kernel_rfl, by kernel_rfl, by kernel_rfl, by kernel_rfl, by kernel_rfl, by kernel_rfl, by kernel_rfl⟩, (by repeat' first | exact trivial | exact rfl | kernel_rfl | exact Dle.of_eq rfl | exact MLe.of_eq rfl | exact Dle.i (by omega) | exact Dle.i (by simp only [Int.toNat_natCast] at *; omega) | exact Dle.nil | exact Dle.rc Dle.nil | exact Option.some_ne_none _ | exact Or.inl rfl | exact Or.inr trivial | omega | (simp only [Int.toNat_natCast] at *; omega) | (intro _ _ _ _; exact Dle.of_eq rfl) | refine And.intro ?_ ?_)⟩⟩, fun s hs => ?_⟩
  repeat' first
    | (refine codeW_cond rfl ?_; first | (refine condW_dec ?_ ?_ <;> intro _ <;> try (exfalso; omega)) | refine condW_not ?_ | (refine condW_bool ?_ ?_ <;> intro _ <;> try (exfalso; omega)))
    | (refine facW_intro ?_; intro _)
    | refine Or.inl ?_
    | ((conv => whnf); first | (refine condW_dec ?_ ?_ <;> intro _ <;> try (exfalso; omega)) | refine condW_not ?_ | (refine condW_bool ?_ ?_ <;> intro _ <;> try (exfalso; omega)) | (refine nbC_t (fun _ => ?_) ?_) | (refine nbC_f ?_ (fun _ => ?_)))
    | refine And.intro (by first | omega | (simp only [Int.toNat_natCast] at *; omega) | (simp only [Nat.reduceAdd, Int.cast_ofNat_Int, true_and, and_true]; omega)  | kernel_rfl) ?_
    | refine RegW.run ?_
    | fail
  all_goals first
    | (exfalso; omega)
    | exact ⟨[], [], rfl, ⟨[], ⟨by kernel_rfl, by kernel_rfl, by kernel_rfl, by kernel_rfl, by kernel_rfl, by kernel_rfl, by kernel_rfl⟩, (by repeat' first | exact trivial | exact rfl | kernel_rfl | exact Dle.of_eq rfl | exact MLe.of_eq rfl | exact Dle.i (by omega) | exact Dle.i (by simp only [Int.toNat_natCast] at *; omega) | exact Dle.nil | exact Dle.rc Dle.nil | exact Option.some_ne_none _ | exact Or.inl rfl | exact Or.inr trivial | omega | (simp only [Int.toNat_natCast] at *; omega) | (intro _ _ _ _; exact Dle.of_eq rfl) | refine And.intro ?_ ?_)⟩, rfl⟩
    | trace_state
set_option maxHeartbeats 2000000 in
theorem sliceTiny_raw (p : Option Addr) (n c : Nat) (h2 : n ≤ 1) (lf : Fn) (la lb : Array Value) (w : World) (R : World → Prop)
    (hp : ∀ sw, Calls Tryz.prog 91 #[.agg #[.func lf la lb, .func (.func sw) #[] #[]], .int .i64 n] (stW p n c w) fun e w' => e = .returned (.tuple #[]) ∧ R w') :
    Calls Tryz.prog 45 #[.iface 39 (.slice p n c), .func lf la lb] w fun e w' => e = .returned (.tuple #[]) ∧ R w' := by
  obtain ⟨i, hi, hd⟩ : ∃ i, Tryz.prog.info? 39 = some i ∧ i.desc = .slice 3 := ⟨_, rfl, rfl⟩
  obtain ⟨ie, hie, hk⟩ : ∃ ie, Tryz.prog.info? 3 = some ie ∧ ∀ ke, Go.Lib.swapperK n ie ke = n + 1 := ⟨_, rfl, fun ke => by
    rcases (by omega : n = 0 ∨ n = 1) with rfl | rfl <;> rfl⟩
  have hke : ∃ ke, ∀ w, (Extern.Rtype.kind 3).run Tryz.prog w = .ok ke w := ⟨2, fun w => by kernel_rfl⟩
  obtain ⟨ke, hke⟩ := hke
  obtain ⟨sw, hsw⟩ : ∃ sw, Tryz.prog.funcs.findIdx? (·.name == "internal/reflectlite" ++ ".Swapper$" ++ toString (Go.Lib.swapperK n ie ke)) = some sw := by
    rw [hk ke]
    rcases (by omega : n = 0 ∨ n = 1) with rfl | rfl
    · exact ⟨114, by kernel_rfl⟩
    · exact ⟨115, by kernel_rfl⟩
  have hv := Go.Lib.run_valueOf_slice (P := Tryz.prog) 39 3 i hi hd p n c w
  have hs := fun w => Go.Lib.run_swapper_slice (P := Tryz.prog) 39 3 i ie hi hd hie ke hke p n c sw hsw w
  have hl := fun a w ha => Go.Lib.run_valueLen_slice (P := Tryz.prog) 39 3 i hi hd (by kernel_rfl) a p n c w ha
  rw [hk ke, if_pos (by omega)] at hs
  have hp := hp sw
  unfold stW at hp
  simp only [typeHandle] at hv hl
  obtain ⟨G, hG⟩ : ∃ G, Tryz.prog.globals.size = G := ⟨_, rfl⟩
  rw [hG] at hv hp
  simp only [hG] at hl
  clear hG
  have e15 : ∀ args w, (callFunc 91 args).run Tryz.prog w = .ok (.enter 91 args) w := enters_of Tryz.func91 (by kernel_rfl) rfl
  go_enter Tryz.func45, Tryz.ntmps45
  go_wp2
  rw [run_callFunc_extern Tryz.func89 (by kernel_rfl) (by kernel_rfl) (by kernel_rfl) (e := fun args => Extern.ReflectliteValue.unpack (args.getD 0 (.tuple #[]))) (by kernel_rfl),
    show Sem.run Tryz.prog ((fun args : Array Value => Extern.ReflectliteValue.unpack (args.getD 0 (.tuple #[]))) #[.iface 39 (.slice p n c)]) w = _ from hv]
  simp only [Result.andThen]
  rw [Oper.upon_value]
  go_wp2
  rw [run_callFunc_extern Tryz.func90 (by kernel_rfl) (by kernel_rfl) (by kernel_rfl) (e := Extern.ReflectliteSwapper.swapper "internal/reflectlite" (Extern.ReflectliteValue.valueError "Swapper")) (by kernel_rfl), hs]
  simp only [Result.andThen]
  rw [Oper.upon_value]
  go_wp2
  rw [run_callFunc_extern Tryz.func92 (by kernel_rfl) (by kernel_rfl) (by kernel_rfl) (e := Extern.ReflectliteValue.method (Extern.ReflectliteValue.valueError "reflectlite.Value.Len" 0) Extern.ReflectliteValue.len) (by kernel_rfl),
    hl _ _ (by simp)]
  simp only [Result.andThen]
  rw [Oper.upon_value]
  go_wp2_with (go_at_call 91; refine hp.mono ?_; rintro e w' ⟨rfl, hR⟩)
  go_end0
  exact ⟨rfl, hR⟩
theorem rep_ownS {κ : Type} {X : Cx κ} {M : Nat → Nat → Prop} {β : Bt} {w : World} {l s n : Nat} {x : Value} (h : Rep X.V M w β (.own l s 0 n) x) : ∃ p c, x = .slice p n c := by
  generalize hN : n = m at h
  generalize hO : (0 : Nat) = o at h
  cases h with
  | own h _ _ => exact ⟨_, _, by rw [← hO]⟩
  | ownE ho _ _ => exact ⟨_, _, rfl⟩
  | ownNil h => exact ⟨_, _, rfl⟩
theorem sliceTiny_l (n g : Nat) (cs : List DD) (h2 : n ≤ 1) (H : List (Nat × Ob RC)) :
    SpH (cx Tryz.prog mixed tyT_ok E) 45 [.ifo 39 2000 1 n, .fn g cs] H (.tup []) H := by
  have st := (stableTiny E n h2).2
  refine ⟨⟨_, _, Tryz.func45, by kernel_rfl, rfl⟩, fun M β w vs hG hMG hM hlv hr hH hbk => ?_⟩
  obtain ⟨p, c, e0⟩ : ∃ p c, vs.getD 0 undef = .iface 39 (.slice p n c) := by
    have h := hr 0 _ rfl
    generalize vs.getD 0 undef = v at h
    cases h with
    | ifo h =>
      obtain ⟨p, c, rfl⟩ := rep_ownS h
      exact ⟨p, c, rfl⟩
  obtain ⟨lb, e1⟩ : ∃ lb : Array Value, vs.getD 1 undef = .func (.func g) #[] lb := by
    have h := hr 1 _ rfl
    generalize vs.getD 1 undef = v at h
    cases h with
    | fn hn h => exact ⟨_, rfl⟩
  have evs : vs = #[.iface 39 (.slice p n c), .func (.func g) #[] lb] := by
    have hl : vs.size = 2 := hlv
    apply Array.ext
    · simpa using hl
    · intro k q1 q2
      have hk : k < 2 := by omega
      match k, hk with
      | 0, _ => simpa [Array.getD, q1] using e0
      | 1, _ => simpa [Array.getD, q1] using e1
  have hB := stW_below p n c w
  generalize hw1 : stW p n c w = w1 at hB
  have hsz1 := hB.size
  have hG1 : ((cx Tryz.prog mixed tyT_ok E)).G w1 := ((cx Tryz.prog mixed tyT_ok E)).keep w w1 hG ((Kp.of hB noS).mono (((cx Tryz.prog mixed tyT_ok E)).gsz w hG) (fun _ _ h => h))
  have hc := fun sw : Nat => st M β w1 #[.agg #[.func (.func g) #[] lb, .func (.func sw) #[] #[]], .int .i64 n] hG1 hMG (fun b o hm => by have := hM b o hm; omega) rfl (fun i d hd => by
    match i, hd with
    | 0, hd =>
      injection hd with hd
      subst hd
      refine .agg rfl (fun i hi => ?_) (fun i d hd => ?_)
      · match i, hi with
        | 0, _ => rfl
        | 1, _ => rfl
      · match i, hd with
        | 0, hd =>
          injection hd with hd
          subst hd
          exact .opq
        | 1, hd =>
          injection hd with hd
          subst hd
          exact .opq
    | 1, hd =>
      injection hd with hd
      subst hd
      exact .v rfl) ⟨fun l o hm => (by cases hm), fun l o l' o' b c c' hm => (by cases hm)⟩ (fun b ⟨l, o, c, hm, _⟩ => by cases hm)
  rw [evs]
  refine (sliceTiny_raw p n c h2 (.func g) #[] lb w (fun w' => Below w.heap.size w w') fun sw => ?_).mono ?_
  · rw [hw1]
    refine (hc sw).mono ?_
    rintro e w' ⟨x, M', β', rfl, hk, h1, h2, h3, h4, h5, h6⟩
    have hx : x = .tuple #[] := by
      cases h4 with
      | tup hn _ => rw [Array.eq_empty_of_size_eq_zero hn]
    subst hx
    exact ⟨rfl, hB.trans ((hk.mono hsz1 (fun b _ ⟨l, o, c, hm, _⟩ => by cases hm) : Kp w.heap.size noS w1 w').below)⟩
  · rintro e w' ⟨rfl, hb⟩
    exact ⟨_, M, β, rfl, Kp.of hb _, fun _ _ _ => rfl, fun _ _ h => h, fun _ _ h => .inl h, .tup rfl (fun i d h => by cases h), hp_more hH hM hb, fun b hb => .inl hb⟩
theorem sliceStable_a (n : Nat) (hn : n ≤ 1000000000) (vl : List Vu) (g : Nat) {lt : Nat → Nat → Bool} (hw : Wk lt) (hl : LessR E n vl g lt) :
    SpH (cx Tryz.prog mixed tyT_ok E) 45 [.ifo 39 2000 1 n, .fn g [.ptr 2001 0, .ptr 2002 0]] (SHR n vl id) (.tup []) (SHR n vl (sA lt 0 n)) := by
  by_cases h2 : 2 ≤ n
  · exact sliceStable_l E n hn h2 vl g hw hl
  · have e : sA lt 0 n = id := srt_self hw (fun k l q1 q2 q3 => by omega)
    rw [e]
    exact sliceTiny_l E n g _ (by omega) _
end
end sq
end Go.Proofs.YthoemnhigboahaaGreatDoor
