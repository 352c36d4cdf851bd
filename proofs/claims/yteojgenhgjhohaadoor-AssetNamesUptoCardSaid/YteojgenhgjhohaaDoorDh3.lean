/-
  mastref2.DigestOf.
-/
import Derived.Test.YteojgenhgjhohaaDoorDh2
namespace Go.Proofs.YteojgenhgjhohaaDoor.dg
open Go.RowKit Go.Proofs.YteojgenhgjhohaaDoor.fb pn
set_option linter.unusedVariables false
set_option linter.unusedSimpArgs false
theorem bs_app (a b : List UInt8) : bs a ++ bs b = bs (a ++ b) := by
  apply ByteArray.ext
  simp [bs]
theorem byteW (b : UInt8) : IntKind.u32.wrap ((b.toNat : Nat) : Int) = (b.toNat : Int) := by
  have := UInt8.toNat_lt b
  rw [IntKind.wrap_u32]
  omega
def lbr (n k : Nat) : Int := IntKind.u8.wrap ((n : Int).fdiv (2 ^ min (8 * (k : Int)).toNat IntKind.i64.bits))
theorem lb_eq (n k : Nat) : lbx n k = lbr n k := by
  unfold lbx lbr
  have h0 : 0 ≤ (n : Int).fdiv (2 ^ min (8 * (k : Int)).toNat IntKind.i64.bits) := Int.fdiv_nonneg (by omega) (Int.le_of_lt (Int.pow_pos (by decide)))
  generalize (n : Int).fdiv (2 ^ min (8 * (k : Int)).toNat IntKind.i64.bits) = a at *
  have e0 : 0 ≤ IntKind.u32.wrap a ∧ IntKind.u32.wrap a < 4294967296 := by rw [IntKind.wrap_u32]; omega
  have e3 : IntKind.u8.wrap a = a % 256 := by simp [IntKind.wrap, IntKind.bits, IntKind.signed]
  have e4 : IntKind.u32.wrap a = a % 4294967296 := IntKind.wrap_u32 a
  generalize IntKind.u32.wrap a = v at *
  have e1 : (BitVec.ofInt 32 v).toNat = v.toNat := by rw [BitVec.toNat_ofInt]; omega
  have e2 : (BitVec.ofInt 32 v &&& BitVec.ofInt 32 255).toNat = v.toNat % 256 := by
    rw [BitVec.toNat_and, e1]
    exact Nat.and_two_pow_sub_one_eq_mod v.toNat 8
  show IntKind.u32.wrap ((BitVec.ofInt 32 v &&& BitVec.ofInt 32 255).toNat : Int) = _
  rw [e2, e3, IntKind.wrap_u32]
  omega
section
variable (E : Env)
set_option maxRecDepth 100000
theorem takeR_l (A B : Nat) (hA : A = 14 ∧ B = 24 ∨ A = 25 ∧ B = 36 ∨ A = 37 ∧ B = 42) (t : Q4) (b : Int) : SpH (cx Tryd.prog mixed tyT_ok E) 24 [.v (.int .u8 b), .ptr 3 0] [(3, .cells [.own A 1 0 4]), (A, .row 40 4 (rwQ t))] (.tup []) [(3, .cells [.own B 1 0 4]), (B, .row 40 4 (rwQ (stp t b)))] := by
  have h := ((takeR_h E t b).swap 43 B).swap 2000 A |>.swap 3000 3
  rcases hA with ⟨rfl, rfl⟩ | ⟨rfl, rfl⟩ | ⟨rfl, rfl⟩
  · have e1 : YteojgenhgjhohaaDoor.swp 43 24 3000 = 3000 := by decide
    have e2 : YteojgenhgjhohaaDoor.swp 43 24 2000 = 2000 := by decide
    have e3 : YteojgenhgjhohaaDoor.swp 2000 14 3000 = 3000 := by decide
    have e4 : YteojgenhgjhohaaDoor.swp 2000 14 24 = 24 := by decide
    have e5 : YteojgenhgjhohaaDoor.swp 3000 3 14 = 14 := by decide
    have e6 : YteojgenhgjhohaaDoor.swp 3000 3 24 = 24 := by decide
    simpa only [D.renL, D.ren, renH, Ob.ren, List.map_cons, List.map_nil, swp_l, e1, e2, e3, e4, e5, e6] using h
  · have e1 : YteojgenhgjhohaaDoor.swp 43 36 3000 = 3000 := by decide
    have e2 : YteojgenhgjhohaaDoor.swp 43 36 2000 = 2000 := by decide
    have e3 : YteojgenhgjhohaaDoor.swp 2000 25 3000 = 3000 := by decide
    have e4 : YteojgenhgjhohaaDoor.swp 2000 25 36 = 36 := by decide
    have e5 : YteojgenhgjhohaaDoor.swp 3000 3 25 = 25 := by decide
    have e6 : YteojgenhgjhohaaDoor.swp 3000 3 36 = 36 := by decide
    simpa only [D.renL, D.ren, renH, Ob.ren, List.map_cons, List.map_nil, swp_l, e1, e2, e3, e4, e5, e6] using h
  · have e1 : YteojgenhgjhohaaDoor.swp 43 42 3000 = 3000 := by decide
    have e2 : YteojgenhgjhohaaDoor.swp 43 42 2000 = 2000 := by decide
    have e3 : YteojgenhgjhohaaDoor.swp 2000 37 3000 = 3000 := by decide
    have e4 : YteojgenhgjhohaaDoor.swp 2000 37 42 = 42 := by decide
    have e5 : YteojgenhgjhohaaDoor.swp 3000 3 37 = 37 := by decide
    have e6 : YteojgenhgjhohaaDoor.swp 3000 3 42 = 42 := by decide
    simpa only [D.renL, D.ren, renH, Ob.ren, List.map_cons, List.map_nil, swp_l, e1, e2, e3, e4, e5, e6] using h
theorem rwQ_0 : ∀ i j, i < 4 → j < 1 → Dle (cx Tryd.prog mixed tyT_ok E) (([u4 1732584193, u4 4023233417, u4 2562383102, u4 271733878] : List DD).getD (i * 1 + j) .opq) (rwQ t0 i j) := by
  intro i j hi hj
  obtain rfl : j = 0 := by omega
  match i, hi with
  | 0, _ => exact Dle.refl _ _
  | 1, _ => exact Dle.refl _ _
  | 2, _ => exact Dle.refl _ _
  | 3, _ => exact Dle.refl _ _
set_option maxHeartbeats 8000000 in
theorem digestOf_sp (hT : ∀ w, E.G w → TB w) (s : ByteArray) (hs : s.size ≤ 1000000) : Sp (cx Tryd.prog mixed tyT_ok E) 9 [dS s] (dS (bs (hxs (d3 s 16) 4))) := by
  have h0 := rwQ_0 E
  refine Sp.body Tryd.func9 (by kernel_rfl) rfl (by kernel_rfl) (by kernel_rfl) (by kernel_rfl) ?_
  repeat' first
    | (refine codeW_cond rfl ?_; first | (refine condW_dec ?_ ?_ <;> intro _ <;> try (exfalso; omega)) | refine condW_not ?_ | (refine condW_bool ?_ ?_ <;> intro _ <;> try (exfalso; omega)))
    | (refine facW_intro ?_; intro _)
    | refine Or.inl ?_
    | ((conv => whnf); first | (refine condW_dec ?_ ?_ <;> intro _ <;> try (exfalso; omega)) | refine condW_not ?_ | (refine condW_bool ?_ ?_ <;> intro _ <;> try (exfalso; omega)) | (refine nbC_t (fun _ => ?_) ?_) | (refine nbC_f ?_ (fun _ => ?_)))
    | refine And.intro (by first | omega | (simp only [Int.toNat_natCast] at *; omega) | (simp only [Nat.reduceAdd, Int.cast_ofNat_Int, true_and, and_true]; omega)  | kernel_rfl) ?_
    | refine RegW.run ?_
    | fail
  refine ⟨Nat, fun k => [(5, i64 k)], fun k => [(3, .cells [.own 14 1 0 4])], [], fun k => [(14, 40, 4, rwQ (d1 s k))], fun k => k ≤ s.size, fun k => s.size - k, ⟨0, by omega, ⟨[(14, some 12)], ⟨by kernel_rfl, by kernel_rfl, by kernel_rfl, by kernel_rfl, by kernel_rfl, by kernel_rfl, by kernel_rfl⟩, (by repeat' first | (exact h0) | exact trivial | exact rfl | kernel_rfl | exact Dle.of_eq rfl | exact MLe.of_eq rfl | exact Dle.i (by omega) | exact Dle.i (by simp only [Int.toNat_natCast] at *; omega) | exact Dle.nil | exact Dle.rc Dle.nil | exact Option.some_ne_none _ | exact Or.inl rfl | exact Or.inr trivial | omega | (simp only [Int.toNat_natCast] at *; omega) | (intro _ _ _ _; exact Dle.of_eq rfl) | refine And.intro ?_ ?_)⟩⟩, fun k hk => ?_⟩
  have hk2 : k ≤ s.size := hk
  by_cases hlt : k < s.size
  · have h1 := takeR_l E 14 24 (.inl ⟨rfl, rfl⟩) (d1 s k) ((bAt s (k : Int).toNat).toNat : Int)
    rw [show stp (d1 s k) ((bAt s (k : Int).toNat).toNat : Int) = d1 s (k + 1) by show _ = stp (d1 s k) (IntKind.u32.wrap ((bAt s k).toNat : Int)); rw [byteW]; rfl] at h1
    repeat' first
      | refine Or.inr ⟨_, _, _, Or.inl (h1), by kernel_rfl, (by repeat' first | exact trivial | exact rfl | kernel_rfl | exact Dle.of_eq rfl | exact MLe.of_eq rfl | exact Dle.i (by omega) | exact Dle.i (by simp only [Int.toNat_natCast] at *; omega) | exact Dle.nil | exact Dle.rc Dle.nil | exact Option.some_ne_none _ | exact Or.inl rfl | exact Or.inr trivial | omega | (simp only [Int.toNat_natCast] at *; omega) | (intro _ _ _ _; exact Dle.of_eq rfl) | refine And.intro ?_ ?_), ?_⟩
      | (refine codeW_cond rfl ?_; first | (refine condW_dec ?_ ?_ <;> intro _ <;> try (exfalso; omega)) | refine condW_not ?_ | (refine condW_bool ?_ ?_ <;> intro _ <;> try (exfalso; omega)))
      | (refine facW_intro ?_; intro _)
      | refine Or.inl ?_
      | ((conv => whnf); first | (refine condW_dec ?_ ?_ <;> intro _ <;> try (exfalso; omega)) | refine condW_not ?_ | (refine condW_bool ?_ ?_ <;> intro _ <;> try (exfalso; omega)) | (refine nbC_t (fun _ => ?_) ?_) | (refine nbC_f ?_ (fun _ => ?_)))
      | refine And.intro (by first | omega | (simp only [Int.toNat_natCast] at *; omega) | (simp only [Nat.reduceAdd, Int.cast_ofNat_Int, true_and, and_true]; omega)  | kernel_rfl) ?_
      | refine RegW.run ?_
      | fail
    all_goals first
      | (exfalso; omega)
      | exact ⟨k + 1, by omega, ⟨[(14, some 24)], ⟨by kernel_rfl, by kernel_rfl, by kernel_rfl, by kernel_rfl, by kernel_rfl, by kernel_rfl, by kernel_rfl⟩, (by repeat' first | exact trivial | exact rfl | kernel_rfl | exact Dle.of_eq rfl | exact MLe.of_eq rfl | exact Dle.i (by omega) | exact Dle.i (by simp only [Int.toNat_natCast] at *; omega) | exact Dle.nil | exact Dle.rc Dle.nil | exact Option.some_ne_none _ | exact Or.inl rfl | exact Or.inr trivial | omega | (simp only [Int.toNat_natCast] at *; omega) | (intro _ _ _ _; exact Dle.of_eq rfl) | refine And.intro ?_ ?_)⟩, by first | omega | (dsimp only; omega)⟩
      | trace_state
  · obtain rfl : k = s.size := by omega
    repeat' first
      | (refine codeW_cond rfl ?_; first | (refine condW_dec ?_ ?_ <;> intro _ <;> try (exfalso; omega)) | refine condW_not ?_ | (refine condW_bool ?_ ?_ <;> intro _ <;> try (exfalso; omega)))
      | (refine facW_intro ?_; intro _)
      | refine Or.inl ?_
      | ((conv => whnf); first | (refine condW_dec ?_ ?_ <;> intro _ <;> try (exfalso; omega)) | refine condW_not ?_ | (refine condW_bool ?_ ?_ <;> intro _ <;> try (exfalso; omega)) | (refine nbC_t (fun _ => ?_) ?_) | (refine nbC_f ?_ (fun _ => ?_)))
      | refine And.intro (by first | omega | (simp only [Int.toNat_natCast] at *; omega) | (simp only [Nat.reduceAdd, Int.cast_ofNat_Int, true_and, and_true]; omega)  | kernel_rfl) ?_
      | refine RegW.run ?_
      | fail
    refine ⟨Nat, fun k => [(6, i64 k)], fun k => [(3, .cells [.own 25 1 0 4])], [], fun k => [(25, 40, 4, rwQ (d2 s k))], fun k => k ≤ 4, fun k => 4 - k, ⟨0, by omega, ⟨[(25, some 14)], ⟨by kernel_rfl, by kernel_rfl, by kernel_rfl, by kernel_rfl, by kernel_rfl, by kernel_rfl, by kernel_rfl⟩, (by repeat' first | exact trivial | exact rfl | kernel_rfl | exact Dle.of_eq rfl | exact MLe.of_eq rfl | exact Dle.i (by omega) | exact Dle.i (by simp only [Int.toNat_natCast] at *; omega) | exact Dle.nil | exact Dle.rc Dle.nil | exact Option.some_ne_none _ | exact Or.inl rfl | exact Or.inr trivial | omega | (simp only [Int.toNat_natCast] at *; omega) | (intro _ _ _ _; exact Dle.of_eq rfl) | refine And.intro ?_ ?_)⟩⟩, fun k hk => ?_⟩
    have hk2 : k ≤ 4 := hk
    by_cases hlt : k < 4
    · have h1 := takeR_l E 25 36 (.inr (.inl ⟨rfl, rfl⟩)) (d2 s k) (lbr s.size k)
      rw [← lb_eq, show stp (d2 s k) (lbx s.size k) = d2 s (k + 1) from rfl, lb_eq] at h1
      repeat' first
        | refine Or.inr ⟨_, _, _, Or.inl (h1), by kernel_rfl, (by repeat' first | exact trivial | exact rfl | kernel_rfl | exact Dle.of_eq rfl | exact MLe.of_eq rfl | exact Dle.i (by omega) | exact Dle.i (by simp only [Int.toNat_natCast] at *; omega) | exact Dle.nil | exact Dle.rc Dle.nil | exact Option.some_ne_none _ | exact Or.inl rfl | exact Or.inr trivial | omega | (simp only [Int.toNat_natCast] at *; omega) | (intro _ _ _ _; exact Dle.of_eq rfl) | refine And.intro ?_ ?_), ?_⟩
        | (refine codeW_cond rfl ?_; first | (refine condW_dec ?_ ?_ <;> intro _ <;> try (exfalso; omega)) | refine condW_not ?_ | (refine condW_bool ?_ ?_ <;> intro _ <;> try (exfalso; omega)))
        | (refine facW_intro ?_; intro _)
        | refine Or.inl ?_
        | ((conv => whnf); first | (refine condW_dec ?_ ?_ <;> intro _ <;> try (exfalso; omega)) | refine condW_not ?_ | (refine condW_bool ?_ ?_ <;> intro _ <;> try (exfalso; omega)) | (refine nbC_t (fun _ => ?_) ?_) | (refine nbC_f ?_ (fun _ => ?_)))
        | refine And.intro (by first | omega | (simp only [Int.toNat_natCast] at *; omega) | (simp only [Nat.reduceAdd, Int.cast_ofNat_Int, true_and, and_true]; omega)  | kernel_rfl) ?_
        | refine RegW.run ?_
        | fail
      all_goals first
        | (exfalso; omega)
        | exact ⟨k + 1, by omega, ⟨[(25, some 36)], ⟨by kernel_rfl, by kernel_rfl, by kernel_rfl, by kernel_rfl, by kernel_rfl, by kernel_rfl, by kernel_rfl⟩, (by repeat' first | exact trivial | exact rfl | kernel_rfl | exact Dle.of_eq rfl | exact MLe.of_eq rfl | exact Dle.i (by omega) | exact Dle.i (by simp only [Int.toNat_natCast] at *; omega) | exact Dle.nil | exact Dle.rc Dle.nil | exact Option.some_ne_none _ | exact Or.inl rfl | exact Or.inr trivial | omega | (simp only [Int.toNat_natCast] at *; omega) | (intro _ _ _ _; exact Dle.of_eq rfl) | refine And.intro ?_ ?_)⟩, by first | omega | (dsimp only; omega)⟩
        | trace_state
    · obtain rfl : k = 4 := by omega
      repeat' first
        | (refine codeW_cond rfl ?_; first | (refine condW_dec ?_ ?_ <;> intro _ <;> try (exfalso; omega)) | refine condW_not ?_ | (refine condW_bool ?_ ?_ <;> intro _ <;> try (exfalso; omega)))
        | (refine facW_intro ?_; intro _)
        | refine Or.inl ?_
        | ((conv => whnf); first | (refine condW_dec ?_ ?_ <;> intro _ <;> try (exfalso; omega)) | refine condW_not ?_ | (refine condW_bool ?_ ?_ <;> intro _ <;> try (exfalso; omega)) | (refine nbC_t (fun _ => ?_) ?_) | (refine nbC_f ?_ (fun _ => ?_)))
        | refine And.intro (by first | omega | (simp only [Int.toNat_natCast] at *; omega) | (simp only [Nat.reduceAdd, Int.cast_ofNat_Int, true_and, and_true]; omega)  | kernel_rfl) ?_
        | refine RegW.run ?_
        | fail
      refine ⟨Nat, fun k => [(7, i64 k)], fun k => [(3, .cells [.own 37 1 0 4])], [], fun k => [(37, 40, 4, rwQ (d3 s k))], fun k => k ≤ 16, fun k => 16 - k, ⟨0, by omega, ⟨[(37, some 25)], ⟨by kernel_rfl, by kernel_rfl, by kernel_rfl, by kernel_rfl, by kernel_rfl, by kernel_rfl, by kernel_rfl⟩, (by repeat' first | exact trivial | exact rfl | kernel_rfl | exact Dle.of_eq rfl | exact MLe.of_eq rfl | exact Dle.i (by omega) | exact Dle.i (by simp only [Int.toNat_natCast] at *; omega) | exact Dle.nil | exact Dle.rc Dle.nil | exact Option.some_ne_none _ | exact Or.inl rfl | exact Or.inr trivial | omega | (simp only [Int.toNat_natCast] at *; omega) | (intro _ _ _ _; exact Dle.of_eq rfl) | refine And.intro ?_ ?_)⟩⟩, fun k hk => ?_⟩
      have hk2 : k ≤ 16 := hk
      by_cases hlt : k < 16
      · have h1 := takeR_l E 37 42 (.inr (.inr ⟨rfl, rfl⟩)) (d3 s k) 0
        rw [show stp (d3 s k) 0 = d3 s (k + 1) from rfl] at h1
        repeat' first
          | refine Or.inr ⟨_, _, _, Or.inl (h1), by kernel_rfl, (by repeat' first | exact trivial | exact rfl | kernel_rfl | exact Dle.of_eq rfl | exact MLe.of_eq rfl | exact Dle.i (by omega) | exact Dle.i (by simp only [Int.toNat_natCast] at *; omega) | exact Dle.nil | exact Dle.rc Dle.nil | exact Option.some_ne_none _ | exact Or.inl rfl | exact Or.inr trivial | omega | (simp only [Int.toNat_natCast] at *; omega) | (intro _ _ _ _; exact Dle.of_eq rfl) | refine And.intro ?_ ?_), ?_⟩
          | (refine codeW_cond rfl ?_; first | (refine condW_dec ?_ ?_ <;> intro _ <;> try (exfalso; omega)) | refine condW_not ?_ | (refine condW_bool ?_ ?_ <;> intro _ <;> try (exfalso; omega)))
          | (refine facW_intro ?_; intro _)
          | refine Or.inl ?_
          | ((conv => whnf); first | (refine condW_dec ?_ ?_ <;> intro _ <;> try (exfalso; omega)) | refine condW_not ?_ | (refine condW_bool ?_ ?_ <;> intro _ <;> try (exfalso; omega)) | (refine nbC_t (fun _ => ?_) ?_) | (refine nbC_f ?_ (fun _ => ?_)))
          | refine And.intro (by first | omega | (simp only [Int.toNat_natCast] at *; omega) | (simp only [Nat.reduceAdd, Int.cast_ofNat_Int, true_and, and_true]; omega)  | kernel_rfl) ?_
          | refine RegW.run ?_
          | fail
        all_goals first
          | (exfalso; omega)
          | exact ⟨k + 1, by omega, ⟨[(37, some 42)], ⟨by kernel_rfl, by kernel_rfl, by kernel_rfl, by kernel_rfl, by kernel_rfl, by kernel_rfl, by kernel_rfl⟩, (by repeat' first | exact trivial | exact rfl | kernel_rfl | exact Dle.of_eq rfl | exact MLe.of_eq rfl | exact Dle.i (by omega) | exact Dle.i (by simp only [Int.toNat_natCast] at *; omega) | exact Dle.nil | exact Dle.rc Dle.nil | exact Option.some_ne_none _ | exact Or.inl rfl | exact Or.inr trivial | omega | (simp only [Int.toNat_natCast] at *; omega) | (intro _ _ _ _; exact Dle.of_eq rfl) | refine And.intro ?_ ?_)⟩, by first | omega | (dsimp only; omega)⟩
          | trace_state
      · obtain rfl : k = 16 := by omega
        repeat' first
          | (refine codeW_cond rfl ?_; first | (refine condW_dec ?_ ?_ <;> intro _ <;> try (exfalso; omega)) | refine condW_not ?_ | (refine condW_bool ?_ ?_ <;> intro _ <;> try (exfalso; omega)))
          | (refine facW_intro ?_; intro _)
          | refine Or.inl ?_
          | ((conv => whnf); first | (refine condW_dec ?_ ?_ <;> intro _ <;> try (exfalso; omega)) | refine condW_not ?_ | (refine condW_bool ?_ ?_ <;> intro _ <;> try (exfalso; omega)) | (refine nbC_t (fun _ => ?_) ?_) | (refine nbC_f ?_ (fun _ => ?_)))
          | refine And.intro (by first | omega | (simp only [Int.toNat_natCast] at *; omega) | (simp only [Nat.reduceAdd, Int.cast_ofNat_Int, true_and, and_true]; omega)  | kernel_rfl) ?_
          | refine RegW.run ?_
          | fail
        refine ⟨Nat, fun k => [(45, i64 k), (8, dS (bs (hxs (d3 s 16) k)))], fun k => [], [3, 37], fun k => [], fun k => k ≤ 4, fun k => 4 - k, ⟨0, by omega, ⟨[], ⟨by kernel_rfl, by kernel_rfl, by kernel_rfl, by kernel_rfl, by kernel_rfl, by kernel_rfl, by kernel_rfl⟩, (by repeat' first | exact trivial | exact rfl | kernel_rfl | exact Dle.of_eq rfl | exact MLe.of_eq rfl | exact Dle.i (by omega) | exact Dle.i (by simp only [Int.toNat_natCast] at *; omega) | exact Dle.nil | exact Dle.rc Dle.nil | exact Option.some_ne_none _ | exact Or.inl rfl | exact Or.inr trivial | omega | (simp only [Int.toNat_natCast] at *; omega) | (intro _ _ _ _; exact Dle.of_eq rfl) | refine And.intro ?_ ?_)⟩⟩, fun k hk => ?_⟩
        have hk2 : k ≤ 4 := hk
        by_cases hlt : k < 4
        · have hx := nth_rng (d3 s 15) 0 k
          rw [show stp (d3 s 15) 0 = d3 s 16 from rfl] at hx
          have hw : IntKind.u64.wrap (nth (d3 s 16) (0 + (k : Int).toNat)) = nth (d3 s 16) k := by
            rw [Int.toNat_natCast, Nat.zero_add, IntKind.wrap_u64]; omega
          have hf := fu_sp E hT (nth (d3 s 16) k) hx.1 hx.2
          have hl := hexL_len (nth (d3 s 16) k)
          have hp := hexL_pad (nth (d3 s 16) k) hx.1 hx.2
          rw [← hw] at hf
          have hz2 : (bs (hexL (IntKind.u64.wrap (nth (d3 s 16) (0 + (k : Int).toNat))))).size = (hexL (nth (d3 s 16) k)).length := by rw [bs_size, hw]
          have hr := rep_sp E (8 - ((bs (hexL (IntKind.u64.wrap (nth (d3 s 16) (0 + (k : Int).toNat))))).size : Int)) (by omega) (by omega)
          have h7 : bs (hxs (d3 s 16) k) ++ (bs (List.replicate (8 - ((bs (hexL (IntKind.u64.wrap (nth (d3 s 16) (0 + (k : Int).toNat))))).size : Int)).toNat 48) ++ bs (hexL (IntKind.u64.wrap (nth (d3 s 16) (0 + (k : Int).toNat))))) = bs (hxs (d3 s 16) (k + 1)) := by
            rw [hz2, hw, show (8 - ((hexL (nth (d3 s 16) k)).length : Int)).toNat = 8 - (hexL (nth (d3 s 16) k)).length by omega, bs_app, hp, bs_app]
            rfl
          have hz3 := (bs_size (hxs (d3 s 16) k)).trans (hxs_len _ k)
          have hz4 := bs_size (List.replicate (8 - ((bs (hexL (IntKind.u64.wrap (nth (d3 s 16) (0 + (k : Int).toNat))))).size : Int)).toNat 48)
          rw [List.length_replicate] at hz4
          generalize bs (hexL (IntKind.u64.wrap (nth (d3 s 16) (0 + (k : Int).toNat)))) = q1 at *
          generalize bs (List.replicate (8 - (q1.size : Int)).toNat 48) = q2 at *
          have hz5 : (q2 ++ q1).size = q2.size + q1.size := ByteArray.size_append
          repeat' first
            | (refine codeW_cond rfl ?_; first | (refine condW_dec ?_ ?_ <;> intro _ <;> try (exfalso; omega)) | refine condW_not ?_ | (refine condW_bool ?_ ?_ <;> intro _ <;> try (exfalso; omega)))
            | (refine facW_intro ?_; intro _)
            | refine Or.inl ?_
            | ((conv => whnf); first | (refine condW_dec ?_ ?_ <;> intro _ <;> try (exfalso; omega)) | refine condW_not ?_ | (refine condW_bool ?_ ?_ <;> intro _ <;> try (exfalso; omega)) | (refine nbC_t (fun _ => ?_) ?_) | (refine nbC_f ?_ (fun _ => ?_)))
            | refine And.intro (by first | omega | (simp only [Int.toNat_natCast] at *; omega) | (simp only [Nat.reduceAdd, Int.cast_ofNat_Int, true_and, and_true]; omega)  | kernel_rfl) ?_
            | refine RegW.run ?_
            | refine ⟨_, hf, ?_⟩
            | refine ⟨_, hr, ?_⟩
            | fail
          all_goals first
            | (exfalso; omega)
            | exact ⟨k + 1, by omega, ⟨[], ⟨by kernel_rfl, by kernel_rfl, by kernel_rfl, by kernel_rfl, by kernel_rfl, by kernel_rfl, by kernel_rfl⟩, (by repeat' first | (exact Dle.s h7) | exact trivial | exact rfl | kernel_rfl | exact Dle.of_eq rfl | exact MLe.of_eq rfl | exact Dle.i (by omega) | exact Dle.i (by simp only [Int.toNat_natCast] at *; omega) | exact Dle.nil | exact Dle.rc Dle.nil | exact Option.some_ne_none _ | exact Or.inl rfl | exact Or.inr trivial | omega | (simp only [Int.toNat_natCast] at *; omega) | (intro _ _ _ _; exact Dle.of_eq rfl) | refine And.intro ?_ ?_)⟩, by first | omega | (dsimp only; omega)⟩
            | trace_state
        · obtain rfl : k = 4 := by omega
          repeat' first
            | (refine codeW_cond rfl ?_; first | (refine condW_dec ?_ ?_ <;> intro _ <;> try (exfalso; omega)) | refine condW_not ?_ | (refine condW_bool ?_ ?_ <;> intro _ <;> try (exfalso; omega)))
            | (refine facW_intro ?_; intro _)
            | refine Or.inl ?_
            | ((conv => whnf); first | (refine condW_dec ?_ ?_ <;> intro _ <;> try (exfalso; omega)) | refine condW_not ?_ | (refine condW_bool ?_ ?_ <;> intro _ <;> try (exfalso; omega)) | (refine nbC_t (fun _ => ?_) ?_) | (refine nbC_f ?_ (fun _ => ?_)))
            | refine And.intro (by first | omega | (simp only [Int.toNat_natCast] at *; omega) | (simp only [Nat.reduceAdd, Int.cast_ofNat_Int, true_and, and_true]; omega)  | kernel_rfl) ?_
            | refine RegW.run ?_
            | fail
          all_goals first
            | exact Dle.refl _ _
            | trace_state
end
end Go.Proofs.YteojgenhgjhohaaDoor.dg
