/-
  Alike over schemas that are the same. A listed variable that holds a slice of strings: what the list says of memory. What SchemaReads may count on: MaxLen, the names of kinds; the law's walk.
-/
import Derived.Test.YtilfmjldcigagaaGreatDoorK0
import Derived.Test.YtilfmjldcigagaaGreatDoorCard
import Derived.Test.YtilfmjldcigagaaGreatDoorRs7
namespace Go.Proofs.YtilfmjldcigagaaGreatDoor
open Go.RowKit
set_option linter.unusedVariables false
set_option linter.unusedSimpArgs false
namespace rs
section
variable (E : Env)
set_option maxRecDepth 100000
theorem eqStrs_sp (l : List ByteArray) : Sp (cx Tryz.prog mixed tyT_ok E) 28 [encStrs l, encStrs l] (dB true) := by
  refine Sp.body Tryz.func28 (by kernel_rfl) rfl (by kernel_rfl) (by kernel_rfl) (by kernel_rfl) ?_
  repeat' first
    | (refine facW_intro ?_; intro _)
    | refine Or.inl ?_
    | ((conv => whnf); first | (refine condW_dec ?_ ?_ <;> intro _ <;> try (exfalso; omega)) | refine condW_not ?_ | (refine condW_bool ?_ ?_ <;> intro _ <;> try (exfalso; omega)) | (refine nbC_t (fun _ => ?_) ?_) | (refine nbC_f ?_ (fun _ => ?_)))
    | refine And.intro (by first | omega | (simp only [Int.toNat_natCast] at *; omega) | (simp only [Nat.reduceAdd, Int.cast_ofNat_Int, true_and, and_true]; omega) | kernel_rfl) ?_
    | refine RegW.run ?_
    | fail
  all_goals try (exfalso; rename_i h; exact h rfl)
  refine ⟨Nat, fun k => [(13, i64 k)], fun k => [], [], fun k => [], fun k => k ≤ l.length, fun k => l.length - k, ⟨0, by omega, ⟨[], ⟨by kernel_rfl, by kernel_rfl, by kernel_rfl, by kernel_rfl, by kernel_rfl, by kernel_rfl, by kernel_rfl⟩, (by repeat' first | exact trivial | exact rfl | kernel_rfl | exact Dle.of_eq rfl | exact MLe.of_eq rfl | exact Dle.i (by omega) | exact Dle.i (by simp only [Int.toNat_natCast] at *; omega) | exact Dle.nil | exact Dle.rc Dle.nil | exact Option.some_ne_none _ | exact Or.inl rfl | exact Or.inr trivial | omega | (simp only [Int.toNat_natCast] at *; omega) | (intro _ _ _ _; exact Dle.of_eq rfl) | refine And.intro ?_ ?_)⟩⟩, fun k hk => ?_⟩
  have hk : k ≤ l.length := hk
  repeat' first
    | (refine facW_intro ?_; intro _)
    | refine Or.inl ?_
    | ((conv => whnf); first | (refine condW_dec ?_ ?_ <;> intro _ <;> try (exfalso; omega)) | refine condW_not ?_ | (refine condW_bool ?_ ?_ <;> intro _ <;> try (exfalso; omega)) | (refine nbC_t (fun _ => ?_) ?_) | (refine nbC_f ?_ (fun _ => ?_)))
    | refine And.intro (by first | omega | (simp only [Int.toNat_natCast] at *; omega) | (simp only [Nat.reduceAdd, Int.cast_ofNat_Int, true_and, and_true]; omega) | kernel_rfl) ?_
    | refine RegW.run ?_
    | fail
  all_goals first
    | (exfalso; rename_i h; exact h rfl)
    | exact ⟨k + 1, by omega, ⟨[], ⟨by kernel_rfl, by kernel_rfl, by kernel_rfl, by kernel_rfl, by kernel_rfl, by kernel_rfl, by kernel_rfl⟩, (by repeat' first | exact trivial | exact rfl | kernel_rfl | exact Dle.of_eq rfl | exact MLe.of_eq rfl | exact Dle.i (by omega) | exact Dle.i (by simp only [Int.toNat_natCast] at *; omega) | exact Dle.nil | exact Dle.rc Dle.nil | exact Option.some_ne_none _ | exact Or.inl rfl | exact Or.inr trivial | omega | (simp only [Int.toNat_natCast] at *; omega) | (intro _ _ _ _; exact Dle.of_eq rfl) | refine And.intro ?_ ?_)⟩, by first | omega | (dsimp only; omega)⟩
    | exact Dle.refl _ _
    | trace_state
theorem eqFuncV_sp (l : List Vu) (h : ∀ x ∈ l, Sp (cx Tryz.prog mixed tyT_ok E) 25 [encV x, encV x] (dB true)) : Sp (cx Tryz.prog mixed tyT_ok E) 24 [.rc (.vals l), .rc (.vals l), .fn 25 []] (dB true) := by
  refine Sp.body Tryz.func24 (by kernel_rfl) rfl (by kernel_rfl) (by kernel_rfl) (by kernel_rfl) ?_
  repeat' first
    | (refine facW_intro ?_; intro _)
    | refine Or.inl ?_
    | ((conv => whnf); first | (refine condW_dec ?_ ?_ <;> intro _ <;> try (exfalso; omega)) | refine condW_not ?_ | (refine condW_bool ?_ ?_ <;> intro _ <;> try (exfalso; omega)) | (refine nbC_t (fun _ => ?_) ?_) | (refine nbC_f ?_ (fun _ => ?_)))
    | refine And.intro (by first | omega | (simp only [Int.toNat_natCast] at *; omega) | (simp only [Nat.reduceAdd, Int.cast_ofNat_Int, true_and, and_true]; omega) | kernel_rfl) ?_
    | refine RegW.run ?_
    | fail
  all_goals try (exfalso; rename_i h; exact h rfl)
  refine ⟨Nat, fun k => [(17, i64 k)], fun k => [], [], fun k => [], fun k => k ≤ l.length, fun k => l.length - k, ⟨0, by omega, ⟨[], ⟨by kernel_rfl, by kernel_rfl, by kernel_rfl, by kernel_rfl, by kernel_rfl, by kernel_rfl, by kernel_rfl⟩, (by repeat' first | exact trivial | exact rfl | kernel_rfl | exact Dle.of_eq rfl | exact MLe.of_eq rfl | exact Dle.i (by omega) | exact Dle.i (by simp only [Int.toNat_natCast] at *; omega) | exact Dle.nil | exact Dle.rc Dle.nil | exact Option.some_ne_none _ | exact Or.inl rfl | exact Or.inr trivial | omega | (simp only [Int.toNat_natCast] at *; omega) | (intro _ _ _ _; exact Dle.of_eq rfl) | refine And.intro ?_ ?_)⟩⟩, fun k hk => ?_⟩
  have hk : k ≤ l.length := hk
  by_cases hlt : k < l.length
  · have h1 := h _ (getD_mem l .zero k hlt)
    repeat' first
      | (refine facW_intro ?_; intro _)
      | refine Or.inl ?_
      | ((conv => whnf); first | (refine condW_dec ?_ ?_ <;> intro _ <;> try (exfalso; omega)) | refine condW_not ?_ | (refine condW_bool ?_ ?_ <;> intro _ <;> try (exfalso; omega)) | (refine nbC_t (fun _ => ?_) ?_) | (refine nbC_f ?_ (fun _ => ?_)))
      | refine And.intro (by first | omega | (simp only [Int.toNat_natCast] at *; omega) | (simp only [Nat.reduceAdd, Int.cast_ofNat_Int, true_and, and_true]; omega) | kernel_rfl) ?_
      | refine RegW.run ?_
      | refine ⟨_, h1, ?_⟩
      | fail
    all_goals first
      | exact ⟨k + 1, by omega, ⟨[], ⟨by kernel_rfl, by kernel_rfl, by kernel_rfl, by kernel_rfl, by kernel_rfl, by kernel_rfl, by kernel_rfl⟩, (by repeat' first | exact trivial | exact rfl | kernel_rfl | exact Dle.of_eq rfl | exact MLe.of_eq rfl | exact Dle.i (by omega) | exact Dle.i (by simp only [Int.toNat_natCast] at *; omega) | exact Dle.nil | exact Dle.rc Dle.nil | exact Option.some_ne_none _ | exact Or.inl rfl | exact Or.inr trivial | omega | (simp only [Int.toNat_natCast] at *; omega) | (intro _ _ _ _; exact Dle.of_eq rfl) | refine And.intro ?_ ?_)⟩, by first | omega | (dsimp only; omega)⟩
      | trace_state
  · repeat' first
      | (refine facW_intro ?_; intro _)
      | refine Or.inl ?_
      | ((conv => whnf); first | (refine condW_dec ?_ ?_ <;> intro _ <;> try (exfalso; omega)) | refine condW_not ?_ | (refine condW_bool ?_ ?_ <;> intro _ <;> try (exfalso; omega)) | (refine nbC_t (fun _ => ?_) ?_) | (refine nbC_f ?_ (fun _ => ?_)))
      | refine And.intro (by first | omega | (simp only [Int.toNat_natCast] at *; omega) | (simp only [Nat.reduceAdd, Int.cast_ofNat_Int, true_and, and_true]; omega) | kernel_rfl) ?_
      | refine RegW.run ?_
      | fail
    all_goals first
      | exact Dle.refl _ _
      | trace_state
theorem alikeV_sp : ∀ (N : Nat) (v : Vu), SizeOf.sizeOf v < N → Sp (cx Tryz.prog mixed tyT_ok E) 25 [encV v, encV v] (dB true)
  | 0, v, h => by omega
  | N + 1, v, h => by
    have h1 := eqFuncV_sp E v.items (fun x hx => alikeV_sp N x (by have := items_lt v x hx; omega))
    have h2 := eqStrs_sp E v.keys
    refine Sp.body Tryz.func25 (by kernel_rfl) rfl (by kernel_rfl) (by kernel_rfl) (by kernel_rfl) ?_
    repeat' first
      | (refine facW_intro ?_; intro _)
      | refine Or.inl ?_
      | ((conv => whnf); first | (refine condW_dec ?_ ?_ <;> intro _ <;> try (exfalso; omega)) | refine condW_not ?_ | (refine condW_bool ?_ ?_ <;> intro _ <;> try (exfalso; omega)) | (refine nbC_t (fun _ => ?_) ?_) | (refine nbC_f ?_ (fun _ => ?_)))
      | refine And.intro (by first | omega | (simp only [Int.toNat_natCast] at *; omega) | (simp only [Nat.reduceAdd, Int.cast_ofNat_Int, true_and, and_true]; omega) | kernel_rfl) ?_
      | refine RegW.run ?_
      | refine ⟨_, h1, ?_⟩
      | refine ⟨_, h2, ?_⟩
      | fail
    all_goals first
      | (exfalso; rename_i h; exact h rfl)
      | (exfalso; simp_all; done)
      | exact Dle.refl _ _
      | exact Dle.bo (by simp)
      | trace_state
theorem alike3_sp (f : Fd) : Sp (cx Tryz.prog mixed tyT_ok E) 35 [encF f, encF f] (dB true) := by
  have h1 := alikeV_sp E _ f.dflt (Nat.lt_succ_self _)
  have h2 := eqStrs_sp E f.oneOf
  refine Sp.body Tryz.func35 (by kernel_rfl) rfl (by kernel_rfl) (by kernel_rfl) (by kernel_rfl) ?_
  repeat' first
    | (refine facW_intro ?_; intro _)
    | refine Or.inl ?_
    | ((conv => whnf); first | (refine condW_dec ?_ ?_ <;> intro _ <;> try (exfalso; omega)) | refine condW_not ?_ | (refine condW_bool ?_ ?_ <;> intro _ <;> try (exfalso; omega)) | (refine nbC_t (fun _ => ?_) ?_) | (refine nbC_f ?_ (fun _ => ?_)))
    | refine And.intro (by first | omega | (simp only [Int.toNat_natCast] at *; omega) | (simp only [Nat.reduceAdd, Int.cast_ofNat_Int, true_and, and_true]; omega) | kernel_rfl) ?_
    | refine RegW.run ?_
    | refine ⟨_, h1, ?_⟩
    | refine ⟨_, h2, ?_⟩
    | fail
  all_goals first
    | (exfalso; rename_i h; exact h rfl)
    | (exfalso; simp_all; done)
    | exact Dle.refl _ _
    | exact Dle.bo (by simp)
    | trace_state
set_option maxHeartbeats 4000000 in
theorem eqFuncF_sp (l : List Fd) : Sp (cx Tryz.prog mixed tyT_ok E) 34 [encFs l, encFs l, .fn 35 []] (dB true) := by
  refine Sp.body Tryz.func34 (by kernel_rfl) rfl (by kernel_rfl) (by kernel_rfl) (by kernel_rfl) ?_
  repeat' first
    | (refine facW_intro ?_; intro _)
    | refine Or.inl ?_
    | ((conv => whnf); first | (refine condW_dec ?_ ?_ <;> intro _ <;> try (exfalso; omega)) | refine condW_not ?_ | (refine condW_bool ?_ ?_ <;> intro _ <;> try (exfalso; omega)) | (refine nbC_t (fun _ => ?_) ?_) | (refine nbC_f ?_ (fun _ => ?_)))
    | refine And.intro (by first | omega | (simp only [Int.toNat_natCast] at *; omega) | (simp only [Nat.reduceAdd, Int.cast_ofNat_Int, true_and, and_true]; omega) | kernel_rfl) ?_
    | refine RegW.run ?_
    | fail
  all_goals try (exfalso; rename_i h; exact h rfl)
  refine ⟨Nat, fun k => [(17, i64 k)], fun k => [], [], fun k => [], fun k => k ≤ l.length, fun k => l.length - k, ⟨0, by omega, ⟨[], ⟨by kernel_rfl, by kernel_rfl, by kernel_rfl, by kernel_rfl, by kernel_rfl, by kernel_rfl, by kernel_rfl⟩, (by repeat' first | exact trivial | exact rfl | kernel_rfl | exact Dle.of_eq rfl | exact MLe.of_eq rfl | exact Dle.i (by omega) | exact Dle.i (by simp only [Int.toNat_natCast] at *; omega) | exact Dle.nil | exact Dle.rc Dle.nil | exact Option.some_ne_none _ | exact Or.inl rfl | exact Or.inr trivial | omega | (simp only [Int.toNat_natCast] at *; omega) | (intro _ _ _ _; exact Dle.of_eq rfl) | refine And.intro ?_ ?_)⟩⟩, fun k hk => ?_⟩
  have hk : k ≤ l.length := hk
  by_cases hlt : k < l.length
  · have h1 := alike3_sp E (l.getD k default)
    repeat' first
      | (refine facW_intro ?_; intro _)
      | refine Or.inl ?_
      | ((conv => whnf); first | (refine condW_dec ?_ ?_ <;> intro _ <;> try (exfalso; omega)) | refine condW_not ?_ | (refine condW_bool ?_ ?_ <;> intro _ <;> try (exfalso; omega)) | (refine nbC_t (fun _ => ?_) ?_) | (refine nbC_f ?_ (fun _ => ?_)))
      | refine And.intro (by first | omega | (simp only [Int.toNat_natCast] at *; omega) | (simp only [Nat.reduceAdd, Int.cast_ofNat_Int, true_and, and_true]; omega) | kernel_rfl) ?_
      | refine RegW.run ?_
      | refine ⟨_, h1, ?_⟩
      | fail
    all_goals first
      | exact ⟨k + 1, by omega, ⟨[], ⟨by kernel_rfl, by kernel_rfl, by kernel_rfl, by kernel_rfl, by kernel_rfl, by kernel_rfl, by kernel_rfl⟩, (by repeat' first | exact trivial | exact rfl | kernel_rfl | exact Dle.of_eq rfl | exact MLe.of_eq rfl | exact Dle.i (by omega) | exact Dle.i (by simp only [Int.toNat_natCast] at *; omega) | exact Dle.nil | exact Dle.rc Dle.nil | exact Option.some_ne_none _ | exact Or.inl rfl | exact Or.inr trivial | omega | (simp only [Int.toNat_natCast] at *; omega) | (intro _ _ _ _; exact Dle.of_eq rfl) | refine And.intro ?_ ?_)⟩, by first | omega | (dsimp only; omega)⟩
      | trace_state
  · repeat' first
      | (refine facW_intro ?_; intro _)
      | refine Or.inl ?_
      | ((conv => whnf); first | (refine condW_dec ?_ ?_ <;> intro _ <;> try (exfalso; omega)) | refine condW_not ?_ | (refine condW_bool ?_ ?_ <;> intro _ <;> try (exfalso; omega)) | (refine nbC_t (fun _ => ?_) ?_) | (refine nbC_f ?_ (fun _ => ?_)))
      | refine And.intro (by first | omega | (simp only [Int.toNat_natCast] at *; omega) | (simp only [Nat.reduceAdd, Int.cast_ofNat_Int, true_and, and_true]; omega) | kernel_rfl) ?_
      | refine RegW.run ?_
      | fail
    all_goals first
      | exact Dle.refl _ _
      | trace_state
set_option maxHeartbeats 4000000 in
theorem alikeS_sp (l : List Fd) (b : Bool) : Sp (cx Tryz.prog mixed tyT_ok E) 7 [.ifc 28 (.agg [encFs l, dB b]), .ifc 28 (.agg [encFs l, dB b])] (dB true) := by
  have h1 := eqFuncF_sp E l
  refine Sp.body Tryz.func7 (by kernel_rfl) rfl (by kernel_rfl) (by kernel_rfl) (by kernel_rfl) ?_
  repeat' first
    | (refine facW_intro ?_; intro _)
    | refine Or.inl ?_
    | ((conv => whnf); first | (refine condW_dec ?_ ?_ <;> intro _ <;> try (exfalso; omega)) | refine condW_not ?_ | (refine condW_bool ?_ ?_ <;> intro _ <;> try (exfalso; omega)) | (refine nbC_t (fun _ => ?_) ?_) | (refine nbC_f ?_ (fun _ => ?_)))
    | refine And.intro (by first | omega | (simp only [Int.toNat_natCast] at *; omega) | (simp only [Nat.reduceAdd, Int.cast_ofNat_Int, true_and, and_true]; omega) | kernel_rfl) ?_
    | refine RegW.run ?_
    | refine ⟨_, h1, ?_⟩
    | fail
  all_goals first
    | (exfalso; rename_i h; exact h rfl)
    | (exfalso; simp_all; done)
    | exact Dle.refl _ _
    | exact Dle.bo (by simp)
    | trace_state
end
end rs
end Go.Proofs.YtilfmjldcigagaaGreatDoor
namespace Go.Proofs.YtilfmjldcigagaaGreatDoor
open Go.RowKit Go.WideShapes Go.ChangeShapes Go.ChangeAt
set_option linter.unusedVariables false
set_option linter.unusedSimpArgs false
/-- The words' variable and its row. -/
def WordsAt (g : Nat) (ws : List (List UInt8)) (b o c : Nat) (W : World) : Prop :=
  W.cell? ⟨g, 0, none⟩ = some (.slice (some ⟨b, o, none⟩) ws.length c) ∧ ∀ i l, ws[i]? = some l → W.cell? ⟨b, o + i, none⟩ = some (.string ⟨l.toArray⟩)
theorem words_at {P : Program} {W : World} {name : String} {ws : List (List UInt8)} {g : Nat} {t e : TypeId} (h0 : 0 < ws.length)
    (hg : P.globalNamed name = some g) (hty : (P.globals[g]?).map (·.type) = some t) (ht : P.underlying t = some (.slice e)) (he : P.underlying e = some .string) (hce : P.cellsOf e = 1) :
    ∀ (laid : List (String × DataW Unit)) (i : Nat) (ps : List MemPlace), laid[i]? = some (name, .slice (ws.map fun l => .lit (.string l)) []) → DataW.LaidVars P W laid ps → ∃ b o c, ws.length ≤ c ∧ c ≤ maxLen ∧ WordsAt g ws b o c W
  | [], i, _, h, _ => by simp at h
  | (n', d) :: r, 0, ps, h, hl => by
    simp at h
    obtain ⟨rfl, rfl⟩ := h
    obtain ⟨g', t', cs, fuel, p, q, hg', ht', hvar, hd, _, _⟩ := hl
    obtain rfl := Option.some.inj (hg.symm.trans hg')
    obtain rfl := Option.some.inj (hty.symm.trans ht')
    have hcell : ∀ k v, cs[k]? = some v → W.cell? ⟨g, k, none⟩ = some v := by
      intro k v hk
      unfold World.var? at hvar
      rw [hg] at hvar
      simp only [Option.bind_some] at hvar
      split at hvar
      · rename_i arr u v' hh
        injection hvar with hvar
        subst hvar
        unfold World.cell?
        simp [hh, hk]
      · cases hvar
    rcases DataW.trod_slice ht hd with ⟨_, hx⟩ | ⟨a, len, cap, elems, rest, n, hfu, hcs, hx, _, hl1, hm, hlen, hi, _⟩
    · injection hx with hx _
      cases hx
    · injection hx with hx _
      injection hx with hx1 hx2
      have hle : elems.length = ws.length := by
        have := congrArg List.length hx1
        simpa using this.symm
      have hlw : len = ws.length := by omega
      have hel : ∀ i (hi' : i < len), ∃ l x, ws[i]? = some l ∧ W.cells? 0 (a.add (i * P.cellsOf e)) (P.cellsOf e) = some [x] ∧ x = .string ⟨l.toArray⟩ := by
        intro i hi'
        have h1 := hi i hi'
        obtain ⟨el, hel⟩ : ∃ el, elems[i]? = some el := ⟨_, List.getElem?_eq_getElem (by omega)⟩
        rw [hel] at h1
        have h2 : (elems.map (·.1))[i]? = some el.1 := by rw [List.getElem?_map, hel]; rfl
        rw [← hx1, List.getElem?_map] at h2
        cases hw : ws[i]? with
        | none => rw [hw] at h2; cases h2
        | some l =>
          rw [hw] at h2
          injection h2 with h2
          cases hc : W.cells? 0 (a.add (i * P.cellsOf e)) (P.cellsOf e) with
          | none => rw [hc] at h1; cases h1
          | some xs =>
            rw [hc] at h1
            obtain ⟨s, hs1, hs2, _⟩ := DataW.trod_string he h1
            rw [hs2] at h2
            injection h2 with h2
            injection h2 with h2
            refine ⟨l, .string s, rfl, ?_, ?_⟩
            · rw [hs1]
            · rw [h2]
      have hs0 : a.spot = none := by
        obtain ⟨l, x, _, h1, _⟩ := hel 0 (by omega)
        obtain ⟨_, _, h2⟩ := World.cells?_some h1
        have h3 := h2 0 (by omega)
        have := World.cell?_spot (h3.trans (by rfl))
        simpa [Addr.add] using this
      obtain ⟨b, o, spot⟩ := a
      simp only at hs0
      subst hs0
      refine ⟨b, o, cap, by omega, hm, ?_, fun i l hil => ?_⟩
      · refine hcell 0 _ ?_
        rw [← Array.getElem?_toList, hcs, ← hlw]
        rfl
      · have hil' : i < len := by
          have := (List.getElem?_eq_some_iff.1 hil).1
          omega
        obtain ⟨l', x, h1, h2, h3⟩ := hel i hil'
        rw [hil] at h1
        injection h1 with h1
        subst h1
        obtain ⟨_, _, h4⟩ := World.cells?_some h2
        have h5 := h4 0 (by omega)
        rw [Go.Deep.add_add, Go.WideShapes.add_plain, hce, Nat.mul_one, Nat.add_zero] at h5
        rw [h5, h3]
        rfl
  | (n', d) :: r, i + 1, ps, h, hl => by
    obtain ⟨g', t', cs, fuel, p, q, _, _, _, _, hr, _⟩ := hl
    exact words_at h0 hg hty ht he hce r i q (by simpa using h) hr
end Go.Proofs.YtilfmjldcigagaaGreatDoor
namespace Go.Proofs.YtilfmjldcigagaaGreatDoor
open Go.RowKit
set_option linter.unusedVariables false
set_option linter.unusedSimpArgs false
namespace rs
def namesL : List (List UInt8) := [[110, 105, 108], [98, 111, 111, 108], [105, 110, 116], [115, 116, 114, 105, 110, 103], [100, 97, 121], [108, 105, 115, 116], [116, 97, 98, 108, 101]]
/-- Where the two rows of names lie. -/
structure Pl where
  b : Nat
  o : Nat
  c : Nat
  b2 : Nat
  o2 : Nat
  c2 : Nat
def NG (p : Pl) (W : World) : Prop := ML W ∧ (7 ≤ p.c ∧ p.c ≤ maxLen ∧ WordsAt 1 namesL p.b p.o p.c W) ∧ (7 ≤ p.c2 ∧ p.c2 ≤ maxLen ∧ WordsAt 0 namesL p.b2 p.o2 p.c2 W)
theorem NG.lt {p : Pl} {W : World} (h : NG p W) : 4 < W.heap.size ∧ 1 < W.heap.size ∧ p.b < W.heap.size ∧ 0 < W.heap.size ∧ p.b2 < W.heap.size := by
  obtain ⟨h1, ⟨_, _, h2, h3⟩, ⟨_, _, h4, h5⟩⟩ := h
  exact ⟨h1.lt, World.block_lt_of_cell? W ⟨_, 0, none⟩ h2, World.block_lt_of_cell? W ⟨p.b, p.o + 0, none⟩ (h3 0 _ rfl), World.block_lt_of_cell? W ⟨_, 0, none⟩ h4, World.block_lt_of_cell? W ⟨p.b2, p.o2 + 0, none⟩ (h5 0 _ rfl)⟩
def nM (p : Pl) : Nat := max (max (max 4 1) (max 0 p.b)) p.b2 + 1
theorem NG.kp {p : Pl} {W W' : World} (h : NG p W) (hk : Kp (nM p) noS W W') : NG p W' := by
  obtain ⟨⟨m, h1⟩, ⟨q1, q2, h2, h3⟩, ⟨q3, q4, h4, h5⟩⟩ := h
  refine ⟨⟨m, (hk.cell (by unfold nM; omega) (fun h => h)).trans h1⟩, ⟨q1, q2, (hk.cell (by unfold nM; omega) (fun h => h)).trans h2, fun i l hi => (hk.cell (by unfold nM; omega) (fun h => h)).trans (h3 i l hi)⟩, ⟨q3, q4, (hk.cell (by unfold nM; omega) (fun h => h)).trans h4, fun i l hi => (hk.cell (by unfold nM; omega) (fun h => h)).trans (h5 i l hi)⟩⟩
def nMG (p : Pl) (b' : Nat) : Prop := b' = 1 ∨ b' = p.b ∨ b' = 0 ∨ b' = p.b2
def env0 (p : Pl) : Env := ⟨nM p, NG p, fun w h => by have := h.lt; unfold nM; omega, fun w w' h hk => h.kp hk, fun b' _ => nMG p b', fun b' _ h => by unfold nMG at h; unfold nM; omega, fun _ => .opq, fun _ _ _ => .opq⟩
theorem names_rep (p : Pl) (W : World) (g b o c : Nat) (hM1 : nMG p g) (hM2 : nMG p b) (h4 : 7 ≤ c) (h5 : c ≤ maxLen) (h : WordsAt g namesL b o c W) : Rep view (fun b' _ => nMG p b') W b0 (.ref 1 (fun _ => encStrs names)) (.pointer (some ⟨g, 0, none⟩)) := by
  obtain ⟨h2, h3⟩ := h
  refine .ref (fun _ => .slice (some ⟨b, o, none⟩) namesL.length c) (fun j hj => ?_) (fun j hj => ?_)
  · obtain rfl : j = 0 := by omega
    exact ⟨hM1, h2, rfl⟩
  · refine .sl (fun i _ => .string (names.getD i ⟨#[]⟩)) h4 h5 (by decide) (fun i j hi hj => ?_) (fun i j hi hj => ?_)
    · obtain rfl : j = 0 := by omega
      refine ⟨hM2, ?_, rfl⟩
      rw [Nat.mul_one, Nat.add_zero]
      have hi : i < 7 := hi
      match i, hi with
      | 0, _ => exact h3 0 _ rfl
      | 1, _ => exact h3 1 _ rfl
      | 2, _ => exact h3 2 _ rfl
      | 3, _ => exact h3 3 _ rfl
      | 4, _ => exact h3 4 _ rfl
      | 5, _ => exact h3 5 _ rfl
      | 6, _ => exact h3 6 _ rfl
    · have hi : i < 7 := hi
      match i, hi with
      | 0, _ => exact .v (by decide)
      | 1, _ => exact .v (by decide)
      | 2, _ => exact .v (by decide)
      | 3, _ => exact .v (by decide)
      | 4, _ => exact .v (by decide)
      | 5, _ => exact .v (by decide)
      | 6, _ => exact .v (by decide)
theorem names_gv (p : Pl) (W : World) (h : NG p W) (g : Nat) : Rep view (fun b' _ => nMG p b') W b0 (namesGv g) (.pointer (some ⟨g, 0, none⟩)) := by
  obtain ⟨_, ⟨q1, q2, h2⟩, ⟨q3, q4, h4⟩⟩ := h
  unfold namesGv
  cases hb : Nat.beq g 1
  · cases hb2 : Nat.beq g 0
    · exact .opq
    · have hb2 := Nat.eq_of_beq_eq_true hb2
      subst hb2
      exact names_rep p W _ _ _ _ (.inr (.inr (.inl rfl))) (.inr (.inr (.inr rfl))) q3 q4 h4
  · have hb := Nat.eq_of_beq_eq_true hb
    subst hb
    exact names_rep p W _ _ _ _ (.inl rfl) (.inr (.inl rfl)) q1 q2 h2
section
variable (E : Env)
set_option maxRecDepth 100000
set_option maxHeartbeats 4000000 in
theorem schemaReads_sp (hML : ∀ w, E.G w → ML w) (E0 : Env) (hg : ∀ w, E0.G w → ∀ g, Rep view E0.MG w b0 (namesGv g) (.pointer (some ⟨g, 0, none⟩))) (hE : E = nEnv E0 hg) (v : Vu) (hw : v.wt ≤ 10000000) : Sp (cx Tryz.prog mixed tyT_ok E) 3 [encV v] (dB true) := by
  have h1 := readSchema_sp E hML E0 hg hE v hw
  have h2 := readSchemaOf_sp E hML E0 hg hE v hw
  generalize readS schemaE v = q at h1 h2
  have h3 := alikeS_sp E q.1 q.2.1
  refine Sp.body Tryz.func3 (by kernel_rfl) rfl (by kernel_rfl) (by kernel_rfl) (by kernel_rfl) ?_
  repeat' first
    | (refine facW_intro ?_; intro _)
    | refine Or.inl ?_
    | ((conv => whnf); first | (refine condW_dec ?_ ?_ <;> intro _ <;> try (exfalso; omega)) | refine condW_not ?_ | (refine condW_bool ?_ ?_ <;> intro _ <;> try (exfalso; omega)) | (refine nbC_t (fun _ => ?_) ?_) | (refine nbC_f ?_ (fun _ => ?_)))
    | refine And.intro (by first | omega | (simp only [Int.toNat_natCast] at *; omega) | (simp only [Nat.reduceAdd, Int.cast_ofNat_Int, true_and, and_true]; omega) | kernel_rfl) ?_
    | refine RegW.run ?_
    | refine ⟨_, h1, ?_⟩
    | refine ⟨_, h2, ?_⟩
    | refine ⟨_, h3, ?_⟩
    | fail
  all_goals first
    | (exfalso; rename_i h; exact h rfl)
    | exact Dle.bo (by simp)
    | exact Dle.refl _ _
    | trace_state
end
end rs
end Go.Proofs.YtilfmjldcigagaaGreatDoor
