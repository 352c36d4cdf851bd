/-
  Numbers in base 16: strconv.formatBits (5, 6 digits).
-/
import Derived.Test.YteojgenhgjhohaaDoorFb0
namespace Go.Proofs.YteojgenhgjhohaaDoor.fb
open Go.RowKit
set_option linter.unusedVariables false
set_option maxHeartbeats 40000000 in
set_option maxRecDepth 100000 in
theorem fb5 (u : Int) (w : World) (hu : 0 ≤ u) (hu2 : u < 4294967296) (h0 : ¬ u < 16) (h1 : ¬ u / 16 < 16) (h2 : ¬ u / 16 / 16 < 16) (h3 : ¬ u / 16 / 16 / 16 < 16) (h4 : u / 16 / 16 / 16 / 16 < 16) (htab : w.cell? ⟨5, 15, none⟩ = some (.int .u8 4)) :
    Calls Tryd.prog 60 #[.slice none 0 0, .int .u64 u, .int .i64 16, .bool false, .bool false] w fun e w' => e = .returned (.tuple #[.slice none 0 0, .string (bs [dg (u / 16 / 16 / 16 / 16), dg (u / 16 / 16 / 16 % 16), dg (u / 16 / 16 % 16), dg (u / 16 % 16), dg (u % 16)])]) ∧ Below w.heap.size w w' := by
  have c0 : 16 ≤ u := by omega
  have c1 : 16 ≤ u / 16 := by omega
  have c2 : 16 ≤ u / 16 / 16 := by omega
  have c3 : 16 ≤ u / 16 / 16 / 16 := by omega
  have c4 : ¬ 16 ≤ u / 16 / 16 / 16 / 16 := by omega
  have a0 := and15 (u) (by omega) (by omega)
  have i0 := dg_index (u % 16) (by omega) (by omega)
  obtain ⟨d0, e0⟩ : ∃ d, d = dg (u % 16) := ⟨_, rfl⟩
  rw [← e0] at i0 ⊢
  clear e0
  have a1 := and15 (u / 16) (by omega) (by omega)
  have i1 := dg_index (u / 16 % 16) (by omega) (by omega)
  obtain ⟨d1, e1⟩ : ∃ d, d = dg (u / 16 % 16) := ⟨_, rfl⟩
  rw [← e1] at i1 ⊢
  clear e1
  have a2 := and15 (u / 16 / 16) (by omega) (by omega)
  have i2 := dg_index (u / 16 / 16 % 16) (by omega) (by omega)
  obtain ⟨d2, e2⟩ : ∃ d, d = dg (u / 16 / 16 % 16) := ⟨_, rfl⟩
  rw [← e2] at i2 ⊢
  clear e2
  have a3 := and15 (u / 16 / 16 / 16) (by omega) (by omega)
  have i3 := dg_index (u / 16 / 16 / 16 % 16) (by omega) (by omega)
  obtain ⟨d3, e3⟩ : ∃ d, d = dg (u / 16 / 16 / 16 % 16) := ⟨_, rfl⟩
  rw [← e3] at i3 ⊢
  clear e3
  have i4 := dg_index (u / 16 / 16 / 16 / 16) (by omega) (by omega)
  obtain ⟨d4, e4⟩ : ∃ d, d = dg (u / 16 / 16 / 16 / 16) := ⟨_, rfl⟩
  rw [← e4] at i4 ⊢
  clear e4
  have hz : ∀ w : World, (zeroValue 97).run Tryd.prog w = .ok (.agg (Array.replicate 65 (.int .u8 0))) w := fun _ => by kernel_rfl
  have hcv : ∀ (w' : World) (b c : Nat), w'.cell? ⟨b, 60, none⟩ = some (.int .u8 (d4.toNat : Int)) → w'.cell? ⟨b, 61, none⟩ = some (.int .u8 (d3.toNat : Int)) → w'.cell? ⟨b, 62, none⟩ = some (.int .u8 (d2.toNat : Int)) → w'.cell? ⟨b, 63, none⟩ = some (.int .u8 (d1.toNat : Int)) → w'.cell? ⟨b, 64, none⟩ = some (.int .u8 (d0.toNat : Int)) → (convert 44 9 (.slice (some ⟨b, 60, none⟩) 5 c)).run Tryd.prog w' = .ok (.string (bs [d4, d3, d2, d1, d0])) w' := fun w' b c q4 q3 q2 q1 q0 =>
    bconv_arr w' b 60 5 c [d4, d3, d2, d1, d0] rfl (fun j hj => by
      have hj : j < 5 := hj
      match j, hj with
      | 0, _ => exact q4
      | 1, _ => exact q3
      | 2, _ => exact q2
      | 3, _ => exact q1
      | 4, _ => exact q0)
  go_enter Tryd.func60, Tryd.ntmps60
  go_wp2_with (first
    | (go_at_call 79; refine (tz16 _ (by first | exact htab | exact (World.cell?_alloc_past _ _ _ (World.block_lt_of_cell? _ _ htab)).trans htab)).mono ?_; rintro e w1 ⟨rfl, rfl⟩)
    | (go_at_call 78; refine (pow16 _).mono ?_; rintro e w1 ⟨rfl, rfl⟩))
  go_rounds 5
  go_wp2
  go_ret2
  exact ⟨rfl, Below.alloc (Below.refl _ _) (Nat.le_refl _) _⟩
set_option maxHeartbeats 40000000 in
set_option maxRecDepth 100000 in
theorem fb6 (u : Int) (w : World) (hu : 0 ≤ u) (hu2 : u < 4294967296) (h0 : ¬ u < 16) (h1 : ¬ u / 16 < 16) (h2 : ¬ u / 16 / 16 < 16) (h3 : ¬ u / 16 / 16 / 16 < 16) (h4 : ¬ u / 16 / 16 / 16 / 16 < 16) (h5 : u / 16 / 16 / 16 / 16 / 16 < 16) (htab : w.cell? ⟨5, 15, none⟩ = some (.int .u8 4)) :
    Calls Tryd.prog 60 #[.slice none 0 0, .int .u64 u, .int .i64 16, .bool false, .bool false] w fun e w' => e = .returned (.tuple #[.slice none 0 0, .string (bs [dg (u / 16 / 16 / 16 / 16 / 16), dg (u / 16 / 16 / 16 / 16 % 16), dg (u / 16 / 16 / 16 % 16), dg (u / 16 / 16 % 16), dg (u / 16 % 16), dg (u % 16)])]) ∧ Below w.heap.size w w' := by
  have c0 : 16 ≤ u := by omega
  have c1 : 16 ≤ u / 16 := by omega
  have c2 : 16 ≤ u / 16 / 16 := by omega
  have c3 : 16 ≤ u / 16 / 16 / 16 := by omega
  have c4 : 16 ≤ u / 16 / 16 / 16 / 16 := by omega
  have c5 : ¬ 16 ≤ u / 16 / 16 / 16 / 16 / 16 := by omega
  have a0 := and15 (u) (by omega) (by omega)
  have i0 := dg_index (u % 16) (by omega) (by omega)
  obtain ⟨d0, e0⟩ : ∃ d, d = dg (u % 16) := ⟨_, rfl⟩
  rw [← e0] at i0 ⊢
  clear e0
  have a1 := and15 (u / 16) (by omega) (by omega)
  have i1 := dg_index (u / 16 % 16) (by omega) (by omega)
  obtain ⟨d1, e1⟩ : ∃ d, d = dg (u / 16 % 16) := ⟨_, rfl⟩
  rw [← e1] at i1 ⊢
  clear e1
  have a2 := and15 (u / 16 / 16) (by omega) (by omega)
  have i2 := dg_index (u / 16 / 16 % 16) (by omega) (by omega)
  obtain ⟨d2, e2⟩ : ∃ d, d = dg (u / 16 / 16 % 16) := ⟨_, rfl⟩
  rw [← e2] at i2 ⊢
  clear e2
  have a3 := and15 (u / 16 / 16 / 16) (by omega) (by omega)
  have i3 := dg_index (u / 16 / 16 / 16 % 16) (by omega) (by omega)
  obtain ⟨d3, e3⟩ : ∃ d, d = dg (u / 16 / 16 / 16 % 16) := ⟨_, rfl⟩
  rw [← e3] at i3 ⊢
  clear e3
  have a4 := and15 (u / 16 / 16 / 16 / 16) (by omega) (by omega)
  have i4 := dg_index (u / 16 / 16 / 16 / 16 % 16) (by omega) (by omega)
  obtain ⟨d4, e4⟩ : ∃ d, d = dg (u / 16 / 16 / 16 / 16 % 16) := ⟨_, rfl⟩
  rw [← e4] at i4 ⊢
  clear e4
  have i5 := dg_index (u / 16 / 16 / 16 / 16 / 16) (by omega) (by omega)
  obtain ⟨d5, e5⟩ : ∃ d, d = dg (u / 16 / 16 / 16 / 16 / 16) := ⟨_, rfl⟩
  rw [← e5] at i5 ⊢
  clear e5
  have hz : ∀ w : World, (zeroValue 97).run Tryd.prog w = .ok (.agg (Array.replicate 65 (.int .u8 0))) w := fun _ => by kernel_rfl
  have hcv : ∀ (w' : World) (b c : Nat), w'.cell? ⟨b, 59, none⟩ = some (.int .u8 (d5.toNat : Int)) → w'.cell? ⟨b, 60, none⟩ = some (.int .u8 (d4.toNat : Int)) → w'.cell? ⟨b, 61, none⟩ = some (.int .u8 (d3.toNat : Int)) → w'.cell? ⟨b, 62, none⟩ = some (.int .u8 (d2.toNat : Int)) → w'.cell? ⟨b, 63, none⟩ = some (.int .u8 (d1.toNat : Int)) → w'.cell? ⟨b, 64, none⟩ = some (.int .u8 (d0.toNat : Int)) → (convert 44 9 (.slice (some ⟨b, 59, none⟩) 6 c)).run Tryd.prog w' = .ok (.string (bs [d5, d4, d3, d2, d1, d0])) w' := fun w' b c q5 q4 q3 q2 q1 q0 =>
    bconv_arr w' b 59 6 c [d5, d4, d3, d2, d1, d0] rfl (fun j hj => by
      have hj : j < 6 := hj
      match j, hj with
      | 0, _ => exact q5
      | 1, _ => exact q4
      | 2, _ => exact q3
      | 3, _ => exact q2
      | 4, _ => exact q1
      | 5, _ => exact q0)
  go_enter Tryd.func60, Tryd.ntmps60
  go_wp2_with (first
    | (go_at_call 79; refine (tz16 _ (by first | exact htab | exact (World.cell?_alloc_past _ _ _ (World.block_lt_of_cell? _ _ htab)).trans htab)).mono ?_; rintro e w1 ⟨rfl, rfl⟩)
    | (go_at_call 78; refine (pow16 _).mono ?_; rintro e w1 ⟨rfl, rfl⟩))
  go_rounds 6
  go_wp2
  go_ret2
  exact ⟨rfl, Below.alloc (Below.refl _ _) (Nat.le_refl _) _⟩
end Go.Proofs.YteojgenhgjhohaaDoor.fb
