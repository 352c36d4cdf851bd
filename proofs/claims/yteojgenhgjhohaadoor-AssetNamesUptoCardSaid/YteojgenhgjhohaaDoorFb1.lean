/-
  Numbers in base 16: strconv.formatBits (1, 2, 3, 4 digits).
-/
import Derived.Test.YteojgenhgjhohaaDoorFb0
namespace Go.Proofs.YteojgenhgjhohaaDoor.fb
open Go.RowKit
set_option linter.unusedVariables false
set_option maxHeartbeats 40000000 in
set_option maxRecDepth 100000 in
theorem fb1 (u : Int) (w : World) (hu : 0 ≤ u) (hu2 : u < 4294967296)  (h0 : u < 16) (htab : w.cell? ⟨5, 15, none⟩ = some (.int .u8 4)) :
    Calls Tryd.prog 60 #[.slice none 0 0, .int .u64 u, .int .i64 16, .bool false, .bool false] w fun e w' => e = .returned (.tuple #[.slice none 0 0, .string (bs [dg (u)])]) ∧ Below w.heap.size w w' := by
  have c0 : ¬ 16 ≤ u := by omega
  have i0 := dg_index (u) (by omega) (by omega)
  obtain ⟨d0, e0⟩ : ∃ d, d = dg (u) := ⟨_, rfl⟩
  rw [← e0] at i0 ⊢
  clear e0
  have hz : ∀ w : World, (zeroValue 97).run Tryd.prog w = .ok (.agg (Array.replicate 65 (.int .u8 0))) w := fun _ => by kernel_rfl
  have hcv : ∀ (w' : World) (b c : Nat), w'.cell? ⟨b, 64, none⟩ = some (.int .u8 (d0.toNat : Int)) → (convert 44 9 (.slice (some ⟨b, 64, none⟩) 1 c)).run Tryd.prog w' = .ok (.string (bs [d0])) w' := fun w' b c q0 =>
    bconv_arr w' b 64 1 c [d0] rfl (fun j hj => by
      have hj : j < 1 := hj
      match j, hj with
      | 0, _ => exact q0)
  go_enter Tryd.func60, Tryd.ntmps60
  go_wp2_with (first
    | (go_at_call 79; refine (tz16 _ (by first | exact htab | exact (World.cell?_alloc_past _ _ _ (World.block_lt_of_cell? _ _ htab)).trans htab)).mono ?_; rintro e w1 ⟨rfl, rfl⟩)
    | (go_at_call 78; refine (pow16 _).mono ?_; rintro e w1 ⟨rfl, rfl⟩))
  go_rounds 1
  go_wp2
  go_ret2
  exact ⟨rfl, Below.alloc (Below.refl _ _) (Nat.le_refl _) _⟩
set_option maxHeartbeats 40000000 in
set_option maxRecDepth 100000 in
theorem fb2 (u : Int) (w : World) (hu : 0 ≤ u) (hu2 : u < 4294967296) (h0 : ¬ u < 16) (h1 : u / 16 < 16) (htab : w.cell? ⟨5, 15, none⟩ = some (.int .u8 4)) :
    Calls Tryd.prog 60 #[.slice none 0 0, .int .u64 u, .int .i64 16, .bool false, .bool false] w fun e w' => e = .returned (.tuple #[.slice none 0 0, .string (bs [dg (u / 16), dg (u % 16)])]) ∧ Below w.heap.size w w' := by
  have c0 : 16 ≤ u := by omega
  have c1 : ¬ 16 ≤ u / 16 := by omega
  have a0 := and15 (u) (by omega) (by omega)
  have i0 := dg_index (u % 16) (by omega) (by omega)
  obtain ⟨d0, e0⟩ : ∃ d, d = dg (u % 16) := ⟨_, rfl⟩
  rw [← e0] at i0 ⊢
  clear e0
  have i1 := dg_index (u / 16) (by omega) (by omega)
  obtain ⟨d1, e1⟩ : ∃ d, d = dg (u / 16) := ⟨_, rfl⟩
  rw [← e1] at i1 ⊢
  clear e1
  have hz : ∀ w : World, (zeroValue 97).run Tryd.prog w = .ok (.agg (Array.replicate 65 (.int .u8 0))) w := fun _ => by kernel_rfl
  have hcv : ∀ (w' : World) (b c : Nat), w'.cell? ⟨b, 63, none⟩ = some (.int .u8 (d1.toNat : Int)) → w'.cell? ⟨b, 64, none⟩ = some (.int .u8 (d0.toNat : Int)) → (convert 44 9 (.slice (some ⟨b, 63, none⟩) 2 c)).run Tryd.prog w' = .ok (.string (bs [d1, d0])) w' := fun w' b c q1 q0 =>
    bconv_arr w' b 63 2 c [d1, d0] rfl (fun j hj => by
      have hj : j < 2 := hj
      match j, hj with
      | 0, _ => exact q1
      | 1, _ => exact q0)
  go_enter Tryd.func60, Tryd.ntmps60
  go_wp2_with (first
    | (go_at_call 79; refine (tz16 _ (by first | exact htab | exact (World.cell?_alloc_past _ _ _ (World.block_lt_of_cell? _ _ htab)).trans htab)).mono ?_; rintro e w1 ⟨rfl, rfl⟩)
    | (go_at_call 78; refine (pow16 _).mono ?_; rintro e w1 ⟨rfl, rfl⟩))
  go_rounds 2
  go_wp2
  go_ret2
  exact ⟨rfl, Below.alloc (Below.refl _ _) (Nat.le_refl _) _⟩
set_option maxHeartbeats 40000000 in
set_option maxRecDepth 100000 in
theorem fb3 (u : Int) (w : World) (hu : 0 ≤ u) (hu2 : u < 4294967296) (h0 : ¬ u < 16) (h1 : ¬ u / 16 < 16) (h2 : u / 16 / 16 < 16) (htab : w.cell? ⟨5, 15, none⟩ = some (.int .u8 4)) :
    Calls Tryd.prog 60 #[.slice none 0 0, .int .u64 u, .int .i64 16, .bool false, .bool false] w fun e w' => e = .returned (.tuple #[.slice none 0 0, .string (bs [dg (u / 16 / 16), dg (u / 16 % 16), dg (u % 16)])]) ∧ Below w.heap.size w w' := by
  have c0 : 16 ≤ u := by omega
  have c1 : 16 ≤ u / 16 := by omega
  have c2 : ¬ 16 ≤ u / 16 / 16 := by omega
  have a0 := and15 (u) (by omega) (by omega)
  have i0 := dg_index (u % 16) (by omega) (by omega)
  obtain ⟨d0, e0⟩ : ∃ d, d = dg (u % 16) := ⟨_, rfl⟩
  rw [← e0] at i0 ⊢
  clear e0
  have a1 := and15 (u / 16) (by omega) (by omega)
  have i1 := dg_index (u / 16 % 16) (by omega) (by omega)
  obtain ⟨d1, e1⟩ : ∃ d, d = dg (u / 16 % 16) := ⟨_, rfl⟩
  rw [← e1] at i1 ⊢
  clear e1
  have i2 := dg_index (u / 16 / 16) (by omega) (by omega)
  obtain ⟨d2, e2⟩ : ∃ d, d = dg (u / 16 / 16) := ⟨_, rfl⟩
  rw [← e2] at i2 ⊢
  clear e2
  have hz : ∀ w : World, (zeroValue 97).run Tryd.prog w = .ok (.agg (Array.replicate 65 (.int .u8 0))) w := fun _ => by kernel_rfl
  have hcv : ∀ (w' : World) (b c : Nat), w'.cell? ⟨b, 62, none⟩ = some (.int .u8 (d2.toNat : Int)) → w'.cell? ⟨b, 63, none⟩ = some (.int .u8 (d1.toNat : Int)) → w'.cell? ⟨b, 64, none⟩ = some (.int .u8 (d0.toNat : Int)) → (convert 44 9 (.slice (some ⟨b, 62, none⟩) 3 c)).run Tryd.prog w' = .ok (.string (bs [d2, d1, d0])) w' := fun w' b c q2 q1 q0 =>
    bconv_arr w' b 62 3 c [d2, d1, d0] rfl (fun j hj => by
      have hj : j < 3 := hj
      match j, hj with
      | 0, _ => exact q2
      | 1, _ => exact q1
      | 2, _ => exact q0)
  go_enter Tryd.func60, Tryd.ntmps60
  go_wp2_with (first
    | (go_at_call 79; refine (tz16 _ (by first | exact htab | exact (World.cell?_alloc_past _ _ _ (World.block_lt_of_cell? _ _ htab)).trans htab)).mono ?_; rintro e w1 ⟨rfl, rfl⟩)
    | (go_at_call 78; refine (pow16 _).mono ?_; rintro e w1 ⟨rfl, rfl⟩))
  go_rounds 3
  go_wp2
  go_ret2
  exact ⟨rfl, Below.alloc (Below.refl _ _) (Nat.le_refl _) _⟩
set_option maxHeartbeats 40000000 in
set_option maxRecDepth 100000 in
theorem fb4 (u : Int) (w : World) (hu : 0 ≤ u) (hu2 : u < 4294967296) (h0 : ¬ u < 16) (h1 : ¬ u / 16 < 16) (h2 : ¬ u / 16 / 16 < 16) (h3 : u / 16 / 16 / 16 < 16) (htab : w.cell? ⟨5, 15, none⟩ = some (.int .u8 4)) :
    Calls Tryd.prog 60 #[.slice none 0 0, .int .u64 u, .int .i64 16, .bool false, .bool false] w fun e w' => e = .returned (.tuple #[.slice none 0 0, .string (bs [dg (u / 16 / 16 / 16), dg (u / 16 / 16 % 16), dg (u / 16 % 16), dg (u % 16)])]) ∧ Below w.heap.size w w' := by
  have c0 : 16 ≤ u := by omega
  have c1 : 16 ≤ u / 16 := by omega
  have c2 : 16 ≤ u / 16 / 16 := by omega
  have c3 : ¬ 16 ≤ u / 16 / 16 / 16 := by omega
  have a0 := and15 (u) (by omega) (by omega)
  have i0 := dg_index (u % 16) (by omega) (by omega)
  obtain ⟨d0, e0⟩ : ∃ d, d = dg (u % 16) := ⟨_, rfl⟩
  rw [← e0] at i0 ⊢
  clear e0
  have a1 := and15 (u / 16) (by omega) (by omega)
  have i1 := dg_index (u / 16 % 16) (by omega) (by omega)
  obtain ⟨d1, e1⟩ : ∃ d, d = dg (u / 16 % 16) := ⟨_, rfl⟩
  rw [← e1] at i1 ⊢
  clear e1
  have a2 := and15 (u / 16 / 16) (by omega) (by omega)
  have i2 := dg_index (u / 16 / 16 % 16) (by omega) (by omega)
  obtain ⟨d2, e2⟩ : ∃ d, d = dg (u / 16 / 16 % 16) := ⟨_, rfl⟩
  rw [← e2] at i2 ⊢
  clear e2
  have i3 := dg_index (u / 16 / 16 / 16) (by omega) (by omega)
  obtain ⟨d3, e3⟩ : ∃ d, d = dg (u / 16 / 16 / 16) := ⟨_, rfl⟩
  rw [← e3] at i3 ⊢
  clear e3
  have hz : ∀ w : World, (zeroValue 97).run Tryd.prog w = .ok (.agg (Array.replicate 65 (.int .u8 0))) w := fun _ => by kernel_rfl
  have hcv : ∀ (w' : World) (b c : Nat), w'.cell? ⟨b, 61, none⟩ = some (.int .u8 (d3.toNat : Int)) → w'.cell? ⟨b, 62, none⟩ = some (.int .u8 (d2.toNat : Int)) → w'.cell? ⟨b, 63, none⟩ = some (.int .u8 (d1.toNat : Int)) → w'.cell? ⟨b, 64, none⟩ = some (.int .u8 (d0.toNat : Int)) → (convert 44 9 (.slice (some ⟨b, 61, none⟩) 4 c)).run Tryd.prog w' = .ok (.string (bs [d3, d2, d1, d0])) w' := fun w' b c q3 q2 q1 q0 =>
    bconv_arr w' b 61 4 c [d3, d2, d1, d0] rfl (fun j hj => by
      have hj : j < 4 := hj
      match j, hj with
      | 0, _ => exact q3
      | 1, _ => exact q2
      | 2, _ => exact q1
      | 3, _ => exact q0)
  go_enter Tryd.func60, Tryd.ntmps60
  go_wp2_with (first
    | (go_at_call 79; refine (tz16 _ (by first | exact htab | exact (World.cell?_alloc_past _ _ _ (World.block_lt_of_cell? _ _ htab)).trans htab)).mono ?_; rintro e w1 ⟨rfl, rfl⟩)
    | (go_at_call 78; refine (pow16 _).mono ?_; rintro e w1 ⟨rfl, rfl⟩))
  go_rounds 4
  go_wp2
  go_ret2
  exact ⟨rfl, Below.alloc (Below.refl _ _) (Nat.le_refl _) _⟩
end Go.Proofs.YteojgenhgjhohaaDoor.fb
