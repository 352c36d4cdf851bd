/-
  asset.joined: texts joined by a strings.Builder.
-/
import Derived.Test.YtdmbodlkkdeaoaaBl0
import Derived.Test.YtdmbodlkkdeaoaaL0
import Derived.WalkLawsBesides
namespace Go.Proofs.Ytdmbodlkkdeaoaa.bl
open Go.RowKit Go.Shelf
set_option linter.unusedVariables false
set_option linter.unusedSimpArgs false
/-- Strings one behind the other. -/
def catL (l : List ByteArray) : List UInt8 := l.flatMap (·.data.toList)
def catS (l : List ByteArray) : ByteArray := ⟨(catL l).toArray⟩
theorem catL_snoc {l : List ByteArray} {k : Nat} (h : k < l.length) : catL (l.take (k + 1)) = catL (l.take k) ++ (l.getD k ⟨#[]⟩).data.toList := by
  unfold catL
  rw [List.take_add_one, List.flatMap_append]
  simp [List.getD, h]
theorem catL_take_le (l : List ByteArray) (k : Nat) : (catL (l.take k)).length ≤ (catL l).length := by
  have h : catL l = catL (l.take k) ++ catL (l.drop k) := by unfold catL; rw [← List.flatMap_append, List.take_append_drop]
  rw [h, List.length_append]
  omega
theorem ib_alloc {B b : Nat} {bs : List Value} {w : World} (h : Lib.IsBuilder TB TY B b bs w) (o : Obj) : Lib.IsBuilder TB TY B b bs (w.alloc o) := by
  have one : ∀ p, Lib.BuilderAt TB TY B b p bs w → Lib.BuilderAt TB TY B b p bs (w.alloc o) := fun p h => by
    have hlt := h.lt
    obtain ⟨hB, v, hb, hown, hne⟩ := h
    exact ⟨hB, v, (Lib.alloc_old w o b hlt).trans hb, hown.alloc _, hne⟩
  exact h.imp (one _) (one _)
theorem ib_set {B b : Nat} {bs : List Value} {w : World} (h : Lib.IsBuilder TB TY B b bs w) {w1 : World} (hw : Lib.IsBuilder TB TY B b bs w1) {r i : Nat} (hr : w.heap.size ≤ r) (x : Value) (hs : ∀ p v, w.heap[b]? = some (.cells #[p, v] TB (0, 0)) → w1.heap[b]? = some (.cells #[p, v] TB (0, 0))) : Lib.IsBuilder TB TY B b bs (w1.setCell ⟨r, i, none⟩ x) := by
  have one : ∀ p, Lib.BuilderAt TB TY B b p bs w → ∀ q, Lib.BuilderAt TB TY B b q bs w1 → Lib.BuilderAt TB TY B b q bs (w1.setCell ⟨r, i, none⟩ x) := fun p h q h1 => by
    have hlt := h.lt
    obtain ⟨hB, v, hb, hown, hne⟩ := h
    obtain ⟨hB1, v1, hb1, hown1, hne1⟩ := h1
    have e := (hs _ _ hb).symm.trans hb1
    have e2 : v = v1 := by simp at e; exact e.2
    subst e2
    have hg : v.ownBlock ≠ some r := by
      intro g
      have := (hown.lt r g).2
      omega
    refine ⟨hB1, v, ?_, ?_, hne1⟩
    · have : (w1.setCell ⟨r, i, none⟩ x).heap[b]? = w1.heap[b]? := Below.heap_setCell _ _ _ _ (show b ≠ r by omega)
      exact this.trans hb1
    · exact hown1.kept (row := some r) ⟨rfl, rfl, rfl, by simp [World.setCell], fun k _ hk => Below.heap_setCell _ _ _ _ (fun e => hk (by simp [e]))⟩ (Or.inr hg)
  rcases h with h | h <;> rcases hw with h1 | h1
  · exact .inl (one _ h _ h1)
  · exact .inr (one _ h _ h1)
  · exact .inl (one _ h _ h1)
  · exact .inr (one _ h _ h1)
set_option maxHeartbeats 2000000 in
set_option maxRecDepth 100000 in
theorem joined_raw (A : Option Addr) (n c : Nat) (K : Nat → Int) (T : List ByteArray) (w : World) (hn : T.length = n) (hn2 : n ≤ 1000000000000)
    (hA : n = 0 ∨ ∃ b o, A = some ⟨b, o, none⟩ ∧ b < w.heap.size ∧ ∀ j, j < n → w.cell? ⟨b, o + j * 2, none⟩ = some (.int .i64 (K j)) ∧ w.cell? ⟨b, o + j * 2 + 1, none⟩ = some (.string (T.getD j ⟨#[]⟩)))
    (hs : (catL T).length ≤ 140737488355328) :
    Calls Try.prog 16 #[.slice A n c] w fun e w' => e = .returned (.string (catS T)) ∧ Below w.heap.size w w' := by
  have HA := hide hA
  clear hA
  go_enter Try.func16, Try.ntmps16
  go_wp2_with fail
  go_loopw [8] (fun i wr => ∃ k : Nat, k ≤ n ∧ i = .int .i64 k ∧ Hid (Lib.IsBuilder TB TY w.heap.size w.heap.size (Lib.byteCells (catL (T.take k))) wr) ∧ Hid (Below w.heap.size w wr)) (fun i _ => n - (intOf i).toNat)
  case atStart => exact ⟨0, Nat.zero_le _, rfl, hide (Lib.fresh_isBuilder TB TY w), hide ((Below.refl _ w).alloc (Nat.le_refl _) _)⟩
  case round =>
    obtain ⟨k, hk, rfl, HB, HW⟩ := hrel
    by_cases hlt : k < n
    · obtain ⟨b, o, rfl, hbk, hcs⟩ := HA.out.resolve_left (by omega)
      have a0 : wr.cell? ⟨b, o + k * 2, none⟩ = some (.int .i64 (K k)) := (HW.out.cell (p := ⟨b, o + k * 2, none⟩) hbk).trans (hcs k hlt).1
      have a1 : wr.cell? ⟨b, o + k * 2 + 1, none⟩ = some (.string (T.getD k ⟨#[]⟩)) := (HW.out.cell (p := ⟨b, o + k * 2 + 1, none⟩) hbk).trans (hcs k hlt).2
      have hki : (k : Int) < n := by omega
      have e240 : ∀ args w, (callFunc 47 args).run Try.prog w = .ok (.enter 47 args) w := enters_of Try.func47 (by kernel_rfl) rfl
      go_wp2_with fail
      have hkT : k < T.length := by omega
      have hsn := catL_snoc (l := T) (k := k) hkT
      have eT : T.getD k ⟨#[]⟩ = T[k] := by simp [List.getD, hkT]
      rw [eT] at hsn
      have hle := catL_take_le T (k + 1)
      rw [hsn, List.length_append] at hle
      have hT : T[k].data.toList.length = T[k].size := by simp
      have hbl : (Lib.byteCells (catL (T.take k))).length = (catL (T.take k)).length := by simp [Lib.byteCells]
      have hz := HW.out.size
      refine (writeString w.heap.size w.heap.size _ _ _ (ib_alloc HB.out _) (by omega) (by simp; omega)).mono ?_
      rintro e w2 ⟨rfl, h2, hb2⟩
      have eB : Lib.byteCells (catL (T.take k)) ++ Lib.strCells T[k] = Lib.byteCells (catL (T.take (k + 1))) := by rw [hsn, Lib.strCells_eq, Lib.byteCells_append]
      rw [eB] at h2
      have HB2 := hide (Or.inr h2 : Lib.IsBuilder TB TY w.heap.size w.heap.size _ w2)
      have HW2 := hide ((HW.out.alloc hz _).trans hb2)
      clear h2 hb2
      go_wp2_with fail
      go_roundw
      case rel => exact ⟨k + 1, by omega, by go_num, HB2, HW2⟩
      case measure => simp [intOf]; omega
    · obtain rfl : k = n := by omega
      have e169 : ∀ args w, (callFunc 48 args).run Try.prog w = .ok (.enter 48 args) w := enters_of Try.func48 (by kernel_rfl) rfl
      go_wp2_with fail
      refine (Try.Builder_String_any w.heap.size w.heap.size _ wr HB.out HW.out.size).mono ?_
      rintro e w2 ⟨rfl, hb2⟩
      have hb3 := HW.out.trans hb2
      go_wp2_with fail
      go_ret
      refine ⟨?_, hb3⟩
      unfold catS
      rw [List.take_of_length_le (by omega)]
      rfl
end Go.Proofs.Ytdmbodlkkdeaoaa.bl
