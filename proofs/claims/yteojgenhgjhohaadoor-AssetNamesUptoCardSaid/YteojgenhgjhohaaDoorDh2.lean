/-
  Numbers in base 16: strconv.formatBits (8 digits). Numbers in base 16: strconv.formatBits (7 digits). mastref2.DigestOf$1: a step of the reference's digest, with its box and its row lent. strconv.FormatUint in base 16 and strings.Repeat of '0' as contracts over data.
-/
import Derived.Test.YteojgenhgjhohaaDoorFb0
import Derived.Test.YteojgenhgjhohaaDoorDg2
import Derived.Test.YteojgenhgjhohaaDoorFb1
import Derived.Test.YteojgenhgjhohaaDoorFb2
import Derived.Test.YteojgenhgjhohaaDoorShelf
import Derived.Handy
namespace Go.Proofs.YteojgenhgjhohaaDoor.fb
open Go.RowKit
set_option linter.unusedVariables false
set_option maxHeartbeats 40000000 in
set_option maxRecDepth 100000 in
theorem fb8 (u : Int) (w : World) (hu : 0 ≤ u) (hu2 : u < 4294967296) (h0 : ¬ u < 16) (h1 : ¬ u / 16 < 16) (h2 : ¬ u / 16 / 16 < 16) (h3 : ¬ u / 16 / 16 / 16 < 16) (h4 : ¬ u / 16 / 16 / 16 / 16 < 16) (h5 : ¬ u / 16 / 16 / 16 / 16 / 16 < 16) (h6 : ¬ u / 16 / 16 / 16 / 16 / 16 / 16 < 16) (h7 : u / 16 / 16 / 16 / 16 / 16 / 16 / 16 < 16) (htab : w.cell? ⟨5, 15, none⟩ = some (.int .u8 4)) :
    Calls Tryd.prog 60 #[.slice none 0 0, .int .u64 u, .int .i64 16, .bool false, .bool false] w fun e w' => e = .returned (.tuple #[.slice none 0 0, .string (bs [dg (u / 16 / 16 / 16 / 16 / 16 / 16 / 16), dg (u / 16 / 16 / 16 / 16 / 16 / 16 % 16), dg (u / 16 / 16 / 16 / 16 / 16 % 16), dg (u / 16 / 16 / 16 / 16 % 16), dg (u / 16 / 16 / 16 % 16), dg (u / 16 / 16 % 16), dg (u / 16 % 16), dg (u % 16)])]) ∧ Below w.heap.size w w' := by
  have c0 : 16 ≤ u := by omega
  have c1 : 16 ≤ u / 16 := by omega
  have c2 : 16 ≤ u / 16 / 16 := by omega
  have c3 : 16 ≤ u / 16 / 16 / 16 := by omega
  have c4 : 16 ≤ u / 16 / 16 / 16 / 16 := by omega
  have c5 : 16 ≤ u / 16 / 16 / 16 / 16 / 16 := by omega
  have c6 : 16 ≤ u / 16 / 16 / 16 / 16 / 16 / 16 := by omega
  have c7 : ¬ 16 ≤ u / 16 / 16 / 16 / 16 / 16 / 16 / 16 := by omega
  have a0 := and15 (u) (by omega) (by omega)
  have i0 := dg_index (u % 16) (by omega) (by omega)
  obtain ⟨d0, e0⟩ : ∃ d, d = dg (u % 16) := ⟨_, rfl⟩
  rw [← e0] at i0 ⊢
  clear e0
  have a1 := and15 (u / 16) (by omega) (by omega)
  have i1 := dg_index (u / 16 % 16) (by omega) (by omega)
  obtain ⟨d1, e1⟩ : ∃ d, d = dg (u / 16 % 16) := ⟨_, rfl⟩
  rw [← e1] at i1 ⊢
  clear e1
  have a2 := and15 (u / 16 / 16) (by omega) (by omega)
  have i2 := dg_index (u / 16 / 16 % 16) (by omega) (by omega)
  obtain ⟨d2, e2⟩ : ∃ d, d = dg (u / 16 / 16 % 16) := ⟨_, rfl⟩
  rw [← e2] at i2 ⊢
  clear e2
  have a3 := and15 (u / 16 / 16 / 16) (by omega) (by omega)
  have i3 := dg_index (u / 16 / 16 / 16 % 16) (by omega) (by omega)
  obtain ⟨d3, e3⟩ : ∃ d, d = dg (u / 16 / 16 / 16 % 16) := ⟨_, rfl⟩
  rw [← e3] at i3 ⊢
  clear e3
  have a4 := and15 (u / 16 / 16 / 16 / 16) (by omega) (by omega)
  have i4 := dg_index (u / 16 / 16 / 16 / 16 % 16) (by omega) (by omega)
  obtain ⟨d4, e4⟩ : ∃ d, d = dg (u / 16 / 16 / 16 / 16 % 16) := ⟨_, rfl⟩
  rw [← e4] at i4 ⊢
  clear e4
  have a5 := and15 (u / 16 / 16 / 16 / 16 / 16) (by omega) (by omega)
  have i5 := dg_index (u / 16 / 16 / 16 / 16 / 16 % 16) (by omega) (by omega)
  obtain ⟨d5, e5⟩ : ∃ d, d = dg (u / 16 / 16 / 16 / 16 / 16 % 16) := ⟨_, rfl⟩
  rw [← e5] at i5 ⊢
  clear e5
  have a6 := and15 (u / 16 / 16 / 16 / 16 / 16 / 16) (by omega) (by omega)
  have i6 := dg_index (u / 16 / 16 / 16 / 16 / 16 / 16 % 16) (by omega) (by omega)
  obtain ⟨d6, e6⟩ : ∃ d, d = dg (u / 16 / 16 / 16 / 16 / 16 / 16 % 16) := ⟨_, rfl⟩
  rw [← e6] at i6 ⊢
  clear e6
  have i7 := dg_index (u / 16 / 16 / 16 / 16 / 16 / 16 / 16) (by omega) (by omega)
  obtain ⟨d7, e7⟩ : ∃ d, d = dg (u / 16 / 16 / 16 / 16 / 16 / 16 / 16) := ⟨_, rfl⟩
  rw [← e7] at i7 ⊢
  clear e7
  have hz : ∀ w : World, (zeroValue 97).run Tryd.prog w = .ok (.agg (Array.replicate 65 (.int .u8 0))) w := fun _ => by kernel_rfl
  have hcv : ∀ (w' : World) (b c : Nat), w'.cell? ⟨b, 57, none⟩ = some (.int .u8 (d7.toNat : Int)) → w'.cell? ⟨b, 58, none⟩ = some (.int .u8 (d6.toNat : Int)) → w'.cell? ⟨b, 59, none⟩ = some (.int .u8 (d5.toNat : Int)) → w'.cell? ⟨b, 60, none⟩ = some (.int .u8 (d4.toNat : Int)) → w'.cell? ⟨b, 61, none⟩ = some (.int .u8 (d3.toNat : Int)) → w'.cell? ⟨b, 62, none⟩ = some (.int .u8 (d2.toNat : Int)) → w'.cell? ⟨b, 63, none⟩ = some (.int .u8 (d1.toNat : Int)) → w'.cell? ⟨b, 64, none⟩ = some (.int .u8 (d0.toNat : Int)) → (convert 44 9 (.slice (some ⟨b, 57, none⟩) 8 c)).run Tryd.prog w' = .ok (.string (bs [d7, d6, d5, d4, d3, d2, d1, d0])) w' := fun w' b c q7 q6 q5 q4 q3 q2 q1 q0 =>
    bconv_arr w' b 57 8 c [d7, d6, d5, d4, d3, d2, d1, d0] rfl (fun j hj => by
      have hj : j < 8 := hj
      match j, hj with
      | 0, _ => exact q7
      | 1, _ => exact q6
      | 2, _ => exact q5
      | 3, _ => exact q4
      | 4, _ => exact q3
      | 5, _ => exact q2
      | 6, _ => exact q1
      | 7, _ => exact q0)
  go_enter Tryd.func60, Tryd.ntmps60
  go_wp2_with (first
    | (go_at_call 79; refine (tz16 _ (by first | exact htab | exact (World.cell?_alloc_past _ _ _ (World.block_lt_of_cell? _ _ htab)).trans htab)).mono ?_; rintro e w1 ⟨rfl, rfl⟩)
    | (go_at_call 78; refine (pow16 _).mono ?_; rintro e w1 ⟨rfl, rfl⟩))
  go_rounds 8
  go_wp2
  go_ret2
  exact ⟨rfl, Below.alloc (Below.refl _ _) (Nat.le_refl _) _⟩
end Go.Proofs.YteojgenhgjhohaaDoor.fb
namespace Go.Proofs.YteojgenhgjhohaaDoor.fb
open Go.RowKit
set_option linter.unusedVariables false
set_option maxHeartbeats 40000000 in
set_option maxRecDepth 100000 in
theorem fb7 (u : Int) (w : World) (hu : 0 ≤ u) (hu2 : u < 4294967296) (h0 : ¬ u < 16) (h1 : ¬ u / 16 < 16) (h2 : ¬ u / 16 / 16 < 16) (h3 : ¬ u / 16 / 16 / 16 < 16) (h4 : ¬ u / 16 / 16 / 16 / 16 < 16) (h5 : ¬ u / 16 / 16 / 16 / 16 / 16 < 16) (h6 : u / 16 / 16 / 16 / 16 / 16 / 16 < 16) (htab : w.cell? ⟨5, 15, none⟩ = some (.int .u8 4)) :
    Calls Tryd.prog 60 #[.slice none 0 0, .int .u64 u, .int .i64 16, .bool false, .bool false] w fun e w' => e = .returned (.tuple #[.slice none 0 0, .string (bs [dg (u / 16 / 16 / 16 / 16 / 16 / 16), dg (u / 16 / 16 / 16 / 16 / 16 % 16), dg (u / 16 / 16 / 16 / 16 % 16), dg (u / 16 / 16 / 16 % 16), dg (u / 16 / 16 % 16), dg (u / 16 % 16), dg (u % 16)])]) ∧ Below w.heap.size w w' := by
  have c0 : 16 ≤ u := by omega
  have c1 : 16 ≤ u / 16 := by omega
  have c2 : 16 ≤ u / 16 / 16 := by omega
  have c3 : 16 ≤ u / 16 / 16 / 16 := by omega
  have c4 : 16 ≤ u / 16 / 16 / 16 / 16 := by omega
  have c5 : 16 ≤ u / 16 / 16 / 16 / 16 / 16 := by omega
  have c6 : ¬ 16 ≤ u / 16 / 16 / 16 / 16 / 16 / 16 := by omega
  have a0 := and15 (u) (by omega) (by omega)
  have i0 := dg_index (u % 16) (by omega) (by omega)
  obtain ⟨d0, e0⟩ : ∃ d, d = dg (u % 16) := ⟨_, rfl⟩
  rw [← e0] at i0 ⊢
  clear e0
  have a1 := and15 (u / 16) (by omega) (by omega)
  have i1 := dg_index (u / 16 % 16) (by omega) (by omega)
  obtain ⟨d1, e1⟩ : ∃ d, d = dg (u / 16 % 16) := ⟨_, rfl⟩
  rw [← e1] at i1 ⊢
  clear e1
  have a2 := and15 (u / 16 / 16) (by omega) (by omega)
  have i2 := dg_index (u / 16 / 16 % 16) (by omega) (by omega)
  obtain ⟨d2, e2⟩ : ∃ d, d = dg (u / 16 / 16 % 16) := ⟨_, rfl⟩
  rw [← e2] at i2 ⊢
  clear e2
  have a3 := and15 (u / 16 / 16 / 16) (by omega) (by omega)
  have i3 := dg_index (u / 16 / 16 / 16 % 16) (by omega) (by omega)
  obtain ⟨d3, e3⟩ : ∃ d, d = dg (u / 16 / 16 / 16 % 16) := ⟨_, rfl⟩
  rw [← e3] at i3 ⊢
  clear e3
  have a4 := and15 (u / 16 / 16 / 16 / 16) (by omega) (by omega)
  have i4 := dg_index (u / 16 / 16 / 16 / 16 % 16) (by omega) (by omega)
  obtain ⟨d4, e4⟩ : ∃ d, d = dg (u / 16 / 16 / 16 / 16 % 16) := ⟨_, rfl⟩
  rw [← e4] at i4 ⊢
  clear e4
  have a5 := and15 (u / 16 / 16 / 16 / 16 / 16) (by omega) (by omega)
  have i5 := dg_index (u / 16 / 16 / 16 / 16 / 16 % 16) (by omega) (by omega)
  obtain ⟨d5, e5⟩ : ∃ d, d = dg (u / 16 / 16 / 16 / 16 / 16 % 16) := ⟨_, rfl⟩
  rw [← e5] at i5 ⊢
  clear e5
  have i6 := dg_index (u / 16 / 16 / 16 / 16 / 16 / 16) (by omega) (by omega)
  obtain ⟨d6, e6⟩ : ∃ d, d = dg (u / 16 / 16 / 16 / 16 / 16 / 16) := ⟨_, rfl⟩
  rw [← e6] at i6 ⊢
  clear e6
  have hz : ∀ w : World, (zeroValue 97).run Tryd.prog w = .ok (.agg (Array.replicate 65 (.int .u8 0))) w := fun _ => by kernel_rfl
  have hcv : ∀ (w' : World) (b c : Nat), w'.cell? ⟨b, 58, none⟩ = some (.int .u8 (d6.toNat : Int)) → w'.cell? ⟨b, 59, none⟩ = some (.int .u8 (d5.toNat : Int)) → w'.cell? ⟨b, 60, none⟩ = some (.int .u8 (d4.toNat : Int)) → w'.cell? ⟨b, 61, none⟩ = some (.int .u8 (d3.toNat : Int)) → w'.cell? ⟨b, 62, none⟩ = some (.int .u8 (d2.toNat : Int)) → w'.cell? ⟨b, 63, none⟩ = some (.int .u8 (d1.toNat : Int)) → w'.cell? ⟨b, 64, none⟩ = some (.int .u8 (d0.toNat : Int)) → (convert 44 9 (.slice (some ⟨b, 58, none⟩) 7 c)).run Tryd.prog w' = .ok (.string (bs [d6, d5, d4, d3, d2, d1, d0])) w' := fun w' b c q6 q5 q4 q3 q2 q1 q0 =>
    bconv_arr w' b 58 7 c [d6, d5, d4, d3, d2, d1, d0] rfl (fun j hj => by
      have hj : j < 7 := hj
      match j, hj with
      | 0, _ => exact q6
      | 1, _ => exact q5
      | 2, _ => exact q4
      | 3, _ => exact q3
      | 4, _ => exact q2
      | 5, _ => exact q1
      | 6, _ => exact q0)
  go_enter Tryd.func60, Tryd.ntmps60
  go_wp2_with (first
    | (go_at_call 79; refine (tz16 _ (by first | exact htab | exact (World.cell?_alloc_past _ _ _ (World.block_lt_of_cell? _ _ htab)).trans htab)).mono ?_; rintro e w1 ⟨rfl, rfl⟩)
    | (go_at_call 78; refine (pow16 _).mono ?_; rintro e w1 ⟨rfl, rfl⟩))
  go_rounds 7
  go_wp2
  go_ret2
  exact ⟨rfl, Below.alloc (Below.refl _ _) (Nat.le_refl _) _⟩
end Go.Proofs.YteojgenhgjhohaaDoor.fb
namespace Go.Proofs.YteojgenhgjhohaaDoor.dg
open Go.RowKit Go.Proofs.YteojgenhgjhohaaDoor.fb pn
set_option linter.unusedVariables false
set_option linter.unusedSimpArgs false
def rwQ (t : Q4) (i _j : Nat) : DD := u4 (nth t i)
def eP (p x : Int) : Int := IntKind.u32.wrap (IntKind.u32.wrap (p + IntKind.u32.wrap x) * 16777619)
def eQ (p q x : Int) : Int := IntKind.u32.wrap (IntKind.u32.wrap (q + eP p x) * 2654435761)
def eR (p q r x : Int) : Int := IntKind.u32.wrap (IntKind.u32.wrap ((BitVec.ofInt IntKind.u32.bits r ^^^ BitVec.ofInt IntKind.u32.bits (eQ p q x)).toNat : Int) + 374761393)
def eS (p q r s x : Int) : Int := IntKind.u32.wrap (IntKind.u32.wrap (s + IntKind.u32.wrap (9 * eR p q r x)) + IntKind.u32.wrap x)
theorem eP_eq (p x : Int) : eP p x = sp p x := by
  unfold eP sp
  simp only [IntKind.wrap_u32]
  have : (p + x % 4294967296) % 4294967296 = (p + x) % 4294967296 := by omega
  rw [this]
theorem eQ_eq (p q x : Int) : eQ p q x = sq p q x := by
  unfold eQ sq
  rw [eP_eq]
  unfold sp
  simp only [IntKind.wrap_u32]
  have : (q + (p + x) % 4294967296 * 16777619 % 4294967296) % 4294967296 = (q + (p + x) % 4294967296 * 16777619) % 4294967296 := by omega
  rw [this]
theorem eR_eq (p q r x : Int) : eR p q r x = sr p q r x := by
  unfold eR sr
  rw [eQ_eq]
  have e : bits BinOp.xor IntKind.u32 r (sq p q x) = IntKind.u32.wrap ((BitVec.ofInt IntKind.u32.bits r ^^^ BitVec.ofInt IntKind.u32.bits (sq p q x)).toNat : Int) := rfl
  rw [e, IntKind.wrap_u32 (_ + 374761393)]
theorem eS_eq (p q r s x : Int) : eS p q r s x = ss p q r s x := by
  unfold eS ss
  rw [eR_eq]
  simp only [IntKind.wrap_u32]
  omega
section
variable (E : Env)
set_option maxRecDepth 100000
theorem rwQ_at (t : Q4) (x : Int) : ∀ i j, i < 4 → j < 1 → Dle (cx Tryd.prog mixed tyT_ok E) (([u4 (eQ t.1 t.2.1 x), u4 (eR t.1 t.2.1 t.2.2.1 x), u4 (eS t.1 t.2.1 t.2.2.1 t.2.2.2 x), u4 (eP t.1 x)] : List DD).getD (i * 1 + j) .opq) (rwQ (stp t x) i j) := by
  intro i j hi hj
  obtain rfl : j = 0 := by omega
  rw [eP_eq, eQ_eq, eR_eq, eS_eq]
  match i, hi with
  | 0, _ => exact Dle.refl _ _
  | 1, _ => exact Dle.refl _ _
  | 2, _ => exact Dle.refl _ _
  | 3, _ => exact Dle.refl _ _
set_option maxHeartbeats 4000000 in
theorem takeR_h (t : Q4) (b : Int) : SpH (cx Tryd.prog mixed tyT_ok E) 24 [.v (.int .u8 b), .ptr 3000 0] [(3000, .cells [.own 2000 1 0 4]), (2000, .row 40 4 (rwQ t))] (.tup []) [(3000, .cells [.own 43 1 0 4]), (43, .row 40 4 (rwQ (stp t b)))] := by
  have h9 := rwQ_at E t b
  refine SpH.body Tryd.func24 (by kernel_rfl) rfl (by kernel_rfl) (by kernel_rfl) (by kernel_rfl) ?_
  repeat' first
    | (refine codeW_cond rfl ?_; first | (refine condW_dec ?_ ?_ <;> intro _ <;> try (exfalso; omega)) | refine condW_not ?_ | (refine condW_bool ?_ ?_ <;> intro _ <;> try (exfalso; omega)))
    | (refine facW_intro ?_; intro _)
    | refine Or.inl ?_
    | ((conv => whnf); first | (refine condW_dec ?_ ?_ <;> intro _ <;> try (exfalso; omega)) | refine condW_not ?_ | (refine condW_bool ?_ ?_ <;> intro _ <;> try (exfalso; omega)) | (refine nbC_t (fun _ => ?_) ?_) | (refine nbC_f ?_ (fun _ => ?_)))
    | refine And.intro (by first | omega | (simp only [Int.toNat_natCast] at *; omega) | (simp only [Nat.reduceAdd, Int.cast_ofNat_Int, true_and, and_true]; omega)  | kernel_rfl) ?_
    | refine RegW.run ?_
    | fail
  all_goals first
    | exact ⟨[(3000, .cells [.own 43 1 0 4])], [(43, 40, 4, rwQ (stp t b))], rfl, ⟨[(43, some 43)], ⟨by kernel_rfl, by kernel_rfl, by kernel_rfl, by kernel_rfl, by kernel_rfl, by kernel_rfl, by kernel_rfl⟩, (by repeat' first | exact trivial | exact rfl | kernel_rfl | exact Dle.of_eq rfl | exact MLe.of_eq rfl | exact Dle.i (by omega) | exact Dle.i (by simp only [Int.toNat_natCast] at *; omega) | exact Dle.nil | exact Dle.rc Dle.nil | exact Option.some_ne_none _ | exact Or.inl rfl | exact Or.inr trivial | omega | (simp only [Int.toNat_natCast] at *; omega) | (intro _ _ _ _; exact Dle.of_eq rfl) | (intro i j hi hj; exact h9 i j hi hj) | refine And.intro ?_ ?_)⟩, rfl⟩
    | trace_state
end
end Go.Proofs.YteojgenhgjhohaaDoor.dg
namespace Go.Proofs.YteojgenhgjhohaaDoor.dg
open Go.RowKit Go.Proofs.YteojgenhgjhohaaDoor.fb pn
set_option linter.unusedVariables false
set_option linter.unusedSimpArgs false
def TB (w : World) : Prop := w.cell? ⟨5, 15, none⟩ = some (.int .u8 4)
theorem fbA (u : Int) (w : World) (hu : 0 ≤ u) (hu2 : u < 4294967296) (htab : TB w) :
    Calls Tryd.prog 60 #[.slice none 0 0, .int .u64 u, .int .i64 16, .bool false, .bool false] w fun e w' => e = .returned (.tuple #[.slice none 0 0, .string (bs (hexL u))]) ∧ Below w.heap.size w w' := by
  unfold hexL
  split
  · exact fb1 u w hu hu2 (by assumption) htab
  split
  · exact fb2 u w hu hu2 (by assumption) (by assumption) htab
  split
  · exact fb3 u w hu hu2 (by assumption) (by assumption) (by assumption) htab
  split
  · exact fb4 u w hu hu2 (by assumption) (by assumption) (by assumption) (by assumption) htab
  split
  · exact fb5 u w hu hu2 (by assumption) (by assumption) (by assumption) (by assumption) (by assumption) htab
  split
  · exact fb6 u w hu hu2 (by assumption) (by assumption) (by assumption) (by assumption) (by assumption) (by assumption) htab
  split
  · exact fb7 u w hu hu2 (by assumption) (by assumption) (by assumption) (by assumption) (by assumption) (by assumption) (by assumption) htab
  · exact fb8 u w hu hu2 (by assumption) (by assumption) (by assumption) (by assumption) (by assumption) (by assumption) (by assumption) (by omega) htab
set_option maxRecDepth 1000000 in
set_option maxHeartbeats 4000000 in
theorem fuI (u : Int) (w : World) (hu : 0 ≤ u) (hu2 : u < 4294967296) (htab : TB w) :
    Calls Tryd.prog 38 #[.int .u64 u, .int .i64 16] w fun e w' => e = .returned (.string (bs (hexL u))) ∧ Below w.heap.size w w' := by
  have hc := fbA u w hu hu2 htab
  generalize bs (hexL u) = s at *
  go_enter Tryd.func38, Tryd.ntmps38
  go_wp2_with (go_at_call 60; refine hc.mono ?_; rintro e w1 ⟨rfl, hb⟩)
  go_ret
  exact ⟨rfl, hb⟩
set_option maxRecDepth 1000000 in
set_option maxHeartbeats 4000000 in
theorem fu_raw (u : Int) (w : World) (hu : 0 ≤ u) (hu2 : u < 4294967296) (htab : TB w) :
    Calls Tryd.prog 25 #[.int .u64 u, .int .i64 16] w fun e w' => e = .returned (.string (bs (hexL u))) ∧ Below w.heap.size w w' := by
  have hc := fuI u w hu hu2 htab
  generalize bs (hexL u) = s at *
  go_enter Tryd.func25, Tryd.ntmps25
  go_wp2_with (go_at_call 38; refine hc.mono ?_; rintro e w1 ⟨rfl, hb⟩)
  go_ret
  exact ⟨rfl, hb⟩
theorem bs_size (l : List UInt8) : (bs l).size = l.length := List.size_toArray
theorem rep_raw (n : Nat) (w : World) (hn : n ≤ 8) :
    Calls Tryd.prog 26 #[.string ⟨#[48]⟩, .int .i64 n] w fun e w' => e = .returned (.string (bs (List.replicate n 48))) ∧ Below w.heap.size w w' := by
  by_cases h0 : n = 0
  · subst h0
    exact (Tryd.strings_Repeat_zero ⟨#[48]⟩ w).mono fun e w' ⟨he, hw⟩ => ⟨he, hw ▸ Below.refl _ _⟩
  by_cases h1 : n = 1
  · subst h1
    exact (Tryd.strings_Repeat_one ⟨#[48]⟩ w).mono fun e w' ⟨he, hw⟩ => ⟨he, hw ▸ Below.refl _ _⟩
  refine (Tryd.strings_Repeat_main ⟨#[48]⟩ n w (by omega) (by omega) (by show 1 * n ≤ _; omega) (by decide)).mono fun e w' ⟨he, hw⟩ => ⟨?_, hw⟩
  rw [he]
  have : n = 2 ∨ n = 3 ∨ n = 4 ∨ n = 5 ∨ n = 6 ∨ n = 7 ∨ n = 8 := by omega
  rcases this with rfl | rfl | rfl | rfl | rfl | rfl | rfl <;> rfl
section
variable (E : Env)
set_option maxRecDepth 100000
theorem fu_sp (hT : ∀ w, E.G w → TB w) (u : Int) (hu : 0 ≤ u) (hu2 : u < 4294967296) : Sp (cx Tryd.prog mixed tyT_ok E) 25 [.v (.int .u64 u), i64 16] (dS (bs (hexL u))) := by
  refine .inl ⟨⟨_, _, Tryd.func25, by kernel_rfl, rfl⟩, fun M β w vs hG hMG hM hlv hr hp hb => ?_⟩
  have h1 := (hr 0 _ rfl).val.1
  have h5 := (hr 1 _ rfl).val.1
  have evs : vs = #[.int .u64 u, .int .i64 16] := by
    apply Array.ext
    · simpa using hlv
    · intro i g1 g2
      match i, g2 with
      | 0, _ => simpa [Array.getD, g1] using h1
      | 1, _ => simpa [Array.getD, g1] using h5
  rw [evs]
  refine (fu_raw u w hu hu2 (hT w hG)).mono fun e w' ⟨he, hw⟩ => ?_
  have hsz := hexL_len u
  exact ⟨_, M, β, he, Kp.of hw _, fun _ _ _ => rfl, fun _ _ h => h, fun _ _ h => .inl h, .v (decide_eq_true (by show (bs (hexL u)).size ≤ maxLen; rw [bs_size]; unfold maxLen; omega)), ⟨fun l o hm => (by cases hm), fun l o l' o' b c c' hm => (by cases hm)⟩, fun b ⟨l, o, c, hm, _⟩ => (by cases hm)⟩
theorem rep_sp (n : Int) (h0 : 0 ≤ n) (hn : n ≤ 8) : Sp (cx Tryd.prog mixed tyT_ok E) 26 [dS ⟨#[48]⟩, i64 n] (dS (bs (List.replicate n.toNat 48))) := by
  obtain ⟨n, rfl⟩ : ∃ k : Nat, n = k := ⟨n.toNat, by omega⟩
  rw [Int.toNat_natCast]
  refine .inl ⟨⟨_, _, Tryd.func26, by kernel_rfl, rfl⟩, fun M β w vs hG hMG hM hlv hr hp hb => ?_⟩
  have h1 := (hr 0 _ rfl).val.1
  have h5 := (hr 1 _ rfl).val.1
  have evs : vs = #[.string ⟨#[48]⟩, .int .i64 n] := by
    apply Array.ext
    · simpa using hlv
    · intro i g1 g2
      match i, g2 with
      | 0, _ => simpa [Array.getD, g1] using h1
      | 1, _ => simpa [Array.getD, g1] using h5
  rw [evs]
  refine (rep_raw n w (by omega)).mono fun e w' ⟨he, hw⟩ => ?_
  exact ⟨_, M, β, he, Kp.of hw _, fun _ _ _ => rfl, fun _ _ h => h, fun _ _ h => .inl h, .v (decide_eq_true (by show (bs (List.replicate n 48)).size ≤ maxLen; rw [bs_size, List.length_replicate]; unfold maxLen; omega)), ⟨fun l o hm => (by cases hm), fun l o l' o' b c c' hm => (by cases hm)⟩, fun b ⟨l, o, c, hm, _⟩ => (by cases hm)⟩
end
end Go.Proofs.YteojgenhgjhohaaDoor.dg
