/-
  asset.joined: texts joined by a strings.Builder. A look into an own map, in the world; asset.relinked: names put for the paths of links.
-/
import Derived.Test.YtiiohopjkepkgaaBl0
import Derived.Test.YtiiohopjkepkgaaL0
import Derived.WalkLawsBesides
import Derived.Test.YtiiohopjkepkgaaRl0
import Derived.Test.YtiiohopjkepkgaaBu0
import Derived.Test.YtiiohopjkepkgaaN18
namespace Go.Proofs.Ytiiohopjkepkgaa.bl
open Go.RowKit Go.Shelf
set_option linter.unusedVariables false
set_option linter.unusedSimpArgs false
/-- Strings one behind the other. -/
def catL (l : List ByteArray) : List UInt8 := l.flatMap (·.data.toList)
def catS (l : List ByteArray) : ByteArray := ⟨(catL l).toArray⟩
theorem catL_snoc {l : List ByteArray} {k : Nat} (h : k < l.length) : catL (l.take (k + 1)) = catL (l.take k) ++ (l.getD k ⟨#[]⟩).data.toList := by
  unfold catL
  rw [List.take_add_one, List.flatMap_append]
  simp [List.getD, h]
theorem catL_take_le (l : List ByteArray) (k : Nat) : (catL (l.take k)).length ≤ (catL l).length := by
  have h : catL l = catL (l.take k) ++ catL (l.drop k) := by unfold catL; rw [← List.flatMap_append, List.take_append_drop]
  rw [h, List.length_append]
  omega
theorem ib_alloc {B b : Nat} {bs : List Value} {w : World} (h : Lib.IsBuilder TB TY B b bs w) (o : Obj) : Lib.IsBuilder TB TY B b bs (w.alloc o) := by
  have one : ∀ p, Lib.BuilderAt TB TY B b p bs w → Lib.BuilderAt TB TY B b p bs (w.alloc o) := fun p h => by
    have hlt := h.lt
    obtain ⟨hB, v, hb, hown, hne⟩ := h
    exact ⟨hB, v, (Lib.alloc_old w o b hlt).trans hb, hown.alloc _, hne⟩
  exact h.imp (one _) (one _)
theorem ib_set {B b : Nat} {bs : List Value} {w : World} (h : Lib.IsBuilder TB TY B b bs w) {w1 : World} (hw : Lib.IsBuilder TB TY B b bs w1) {r i : Nat} (hr : w.heap.size ≤ r) (x : Value) (hs : ∀ p v, w.heap[b]? = some (.cells #[p, v] TB (0, 0)) → w1.heap[b]? = some (.cells #[p, v] TB (0, 0))) : Lib.IsBuilder TB TY B b bs (w1.setCell ⟨r, i, none⟩ x) := by
  have one : ∀ p, Lib.BuilderAt TB TY B b p bs w → ∀ q, Lib.BuilderAt TB TY B b q bs w1 → Lib.BuilderAt TB TY B b q bs (w1.setCell ⟨r, i, none⟩ x) := fun p h q h1 => by
    have hlt := h.lt
    obtain ⟨hB, v, hb, hown, hne⟩ := h
    obtain ⟨hB1, v1, hb1, hown1, hne1⟩ := h1
    have e := (hs _ _ hb).symm.trans hb1
    have e2 : v = v1 := by simp at e; exact e.2
    subst e2
    have hg : v.ownBlock ≠ some r := by
      intro g
      have := (hown.lt r g).2
      omega
    refine ⟨hB1, v, ?_, ?_, hne1⟩
    · have : (w1.setCell ⟨r, i, none⟩ x).heap[b]? = w1.heap[b]? := Below.heap_setCell _ _ _ _ (show b ≠ r by omega)
      exact this.trans hb1
    · exact hown1.kept (row := some r) ⟨rfl, rfl, rfl, by simp [World.setCell], fun k _ hk => Below.heap_setCell _ _ _ _ (fun e => hk (by simp [e]))⟩ (Or.inr hg)
  rcases h with h | h <;> rcases hw with h1 | h1
  · exact .inl (one _ h _ h1)
  · exact .inr (one _ h _ h1)
  · exact .inl (one _ h _ h1)
  · exact .inr (one _ h _ h1)
end Go.Proofs.Ytiiohopjkepkgaa.bl
namespace Go.Proofs.Ytiiohopjkepkgaa
open Go.RowKit Go.Shelf
set_option linter.unusedVariables false
set_option linter.unusedSimpArgs false
namespace rl
open tk bl
section
variable {κ : Type} {X : Cx κ} {M : Nat → Nat → Prop} {w w2 : World} {β : Bt}
theorem look_run {l t : Nat} {es : List (Value × D κ)} (ho : ObAt X M w β l (.map t es) false) {kf : KF} {k e : Nat} (ht : (X.T t).k = .map kf k e) {b c : Nat} (hb : β l = some (some (b, c))) {key : Value} (hok : kf.ok key) {q : Bool} {v : Value} (hq : Look es key (zeroD (X.T e)) (q, .v v)) (hw : w2.heap[b]? = w.heap[b]?) :
    (Instr.lookup t (.map (some b)) key true).run X.P w2 = .ok (.tuple #[v, .bool q]) w2 := by
  obtain ⟨_, ⟨kf', k', e', h1, hke, hes, hnd⟩, b', c', arr, clk, g1, hA, hks, hvs, hid⟩ := ho
  rw [ht] at h1
  injection h1 with e1 e2 e3
  subst e1 e2 e3
  have hf := X.form t
  rw [ht] at hf
  obtain ⟨hu, K1, hkey⟩ := hf
  rw [hb] at g1
  injection g1 with g1
  injection g1 with g1
  injection g1 with g1 g2
  subst g1
  have hA2 : w2.heap[b]? = some (.map arr clk) := hw.trans hA
  obtain ⟨lk, hlk⟩ := hkey _ hok
  obtain ⟨hsz, hkk⟩ := arr_keys hks
  have hz := run_zero X (TyI.known_ne hke) w2
  rcases K1.find w2 hlk arr.toList (fun e he => by
    have : e.key ∈ arr.toList.map (·.key) := List.mem_map.2 ⟨e, he, rfl⟩
    rw [hks] at this
    obtain ⟨p, hp, hpe⟩ := List.mem_map.1 this
    exact hkey _ (hpe ▸ hes p hp)) with ⟨h1, h2⟩ | ⟨j, e0, h1, h2, h3⟩
  · have hno : ∀ p ∈ es, p.1 ≠ key := fun p hp hpe => by
      have : p.1 ∈ es.map (·.1) := List.mem_map.2 ⟨p, hp, rfl⟩
      rw [← hks] at this
      obtain ⟨e, he, hee⟩ := List.mem_map.1 this
      exact h2 e he (hee.trans hpe)
    rcases hq with ⟨p, hp, hpe, _⟩ | ⟨_, hq⟩
    · exact absurd hpe (hno p hp)
    · injection hq with q1 q2
      subst q1
      have hr := zeroD_rep (X := X) (M := M) (w := w) (β := b0) (t := e) (TyI.known_ne hke)
      rw [← q2] at hr
      have hv := hr.val.1
      simp [Instr.lookup, run_underlying hu, MapKept.run_getObj_map hA2, K1.check w2 _ hlk, h1, hz, Result.andThen, hv]
  · have hjl : j < es.length := by
      have := (List.getElem?_eq_some_iff.1 h2).1
      simp at this
      omega
    have hp := hkk j e0 es[j] h2 (List.getElem?_eq_getElem hjl)
    have hr := hvs j es[j].2 (by rw [List.getElem?_map, List.getElem?_eq_getElem hjl]; rfl)
    have he0 : arr.getD j default = e0 := by
      have : arr[j]? = some e0 := by simpa using h2
      simp [Array.getD_eq_getD_getElem?, this]
    rw [he0] at hr
    rcases hq with ⟨p, hp', hpe, hq⟩ | ⟨hno, _⟩
    · have : p = es[j] := by
        obtain ⟨i, hi, rfl⟩ := List.getElem_of_mem hp'
        have e1 : (es.map (·.1))[i]'(by simpa using hi) = (es.map (·.1))[j]'(by simpa using hjl) := by simp [hpe, ← hp, h3]
        have := nodup_inj hnd _ _ e1
        subst this
        rfl
      subst this
      injection hq with q1 q2
      subst q1
      rw [← q2] at hr
      have hv := hr.val.1
      simp [Instr.lookup, run_underlying hu, MapKept.run_getObj_map hA2, K1.check w2 _ hlk, h1, Result.andThen, hv]
    · exact absurd (by rw [← hp]; exact h3) (hno es[j] (List.getElem_mem hjl))
end
set_option maxHeartbeats 2000000 in
set_option maxRecDepth 100000 in
theorem relinked_raw (s : ByteArray) (A : Option Addr) (n c : Nat) (L : List Lk) (nm : ByteArray → Option ByteArray) (mb : Nat) (w : World) (hn : L.length = n) (hn2 : n ≤ 1000000) (ho : Ord s L) (hs : s.size ≤ 1000000) (hnm : ∀ p x, nm p = some x → x.size ≤ 1048576)
    (hA : n = 0 ∨ ∃ b o, A = some ⟨b, o, none⟩ ∧ b < w.heap.size ∧ ∀ j, j < n → w.cell? ⟨b, o + j * 3, none⟩ = some (.int .i64 (L.getD j .zero).f) ∧ w.cell? ⟨b, o + j * 3 + 1, none⟩ = some (.int .i64 (L.getD j .zero).e) ∧ w.cell? ⟨b, o + j * 3 + 2, none⟩ = some (.string (L.getD j .zero).p))
    (hm : mb < w.heap.size) (hlook : ∀ (W : World) (j : Nat), j < n → W.heap[mb]? = w.heap[mb]? → (Instr.lookup 27 (.map (some mb)) (.string (L.getD j .zero).p) true).run Try.prog W = .ok (.tuple #[.string ((nm (L.getD j .zero).p).getD ⟨#[]⟩), .bool (nm (L.getD j .zero).p).isSome]) W) :
    Calls Try.prog 8 #[.string s, .slice A n c, .map (some mb)] w fun e w' => e = .returned (.string (rlS s nm L)) ∧ Below w.heap.size w w' := by
  have HA := hide hA
  have HL := hide hlook
  clear hA hlook
  have hsl : ∀ (W : World) (a b : Nat), a ≤ b → b ≤ s.size → (Instr.slice 9 (.string s) (some (.int .i64 (a : Int))) (some (.int .i64 (b : Int))) none).run Try.prog W = .ok (.string (s.extract a b)) W := fun W a b h1 h2 => by
    rw [run_slice_string W 9 s .i64 .i64 a b Try.underlying9 (by omega) (by omega) (by omega)]
    rfl
  have hsl2 : ∀ (W : World) (a : Nat), a ≤ s.size → (Instr.slice 9 (.string s) (some (.int .i64 (a : Int))) none none).run Try.prog W = .ok (.string (s.extract a s.size)) W := fun W a h1 => by
    rw [run_slice_string_from_if W 9 s .i64 a Try.underlying9, if_pos ⟨by omega, by omega⟩]
    rfl
  have e240 : ∀ args w, (callFunc 16 args).run Try.prog w = .ok (.enter 16 args) w := enters_of Try.func16 (by kernel_rfl) rfl
  have e169 : ∀ args w, (callFunc 17 args).run Try.prog w = .ok (.enter 17 args) w := enters_of Try.func17 (by kernel_rfl) rfl
  go_enter Try.func8, Try.ntmps8
  go_wp2_with fail
  go_loopw [8, 15] (fun last i wr => ∃ k : Nat, k ≤ n ∧ last = .int .i64 ((rlK s nm L k).2 : Nat) ∧ i = .int .i64 k ∧ Hid (Lib.IsBuilder TB TY w.heap.size w.heap.size (Lib.byteCells (rlK s nm L k).1.data.toList) wr) ∧ Hid (Below w.heap.size w wr)) (fun _ i _ => n - (intOf i).toNat)
  case atStart => exact ⟨0, Nat.zero_le _, rfl, rfl, hide (Lib.fresh_isBuilder TB TY w), hide ((Below.refl _ w).alloc (Nat.le_refl _) _)⟩
  case round =>
    obtain ⟨k, hk, rfl, rfl, HB, HW⟩ := hrel
    obtain ⟨z1, z2, z3⟩ := rlK_at (nm := nm) ho k (by omega)
    have z4 := szK_max (nm := nm) ho hnm k (by omega)
    by_cases hlt : k < n
    · obtain ⟨b, o, rfl, hbk, hcs⟩ := HA.out.resolve_left (by omega)
      obtain ⟨f, e, hf, he, hfe, hes, _⟩ := ho k (by omega)
      have z5 := z3 k (Nat.le_refl _) (by omega)
      have a0 : wr.cell? ⟨b, o + k * 3, none⟩ = some (.int .i64 f) := (HW.out.cell (p := ⟨b, o + k * 3, none⟩) hbk).trans ((hcs k hlt).1.trans (by rw [hf]))
      have a1 : wr.cell? ⟨b, o + k * 3 + 1, none⟩ = some (.int .i64 e) := (HW.out.cell (p := ⟨b, o + k * 3 + 1, none⟩) hbk).trans ((hcs k hlt).2.1.trans (by rw [he]))
      have a2 : wr.cell? ⟨b, o + k * 3 + 2, none⟩ = some (.string (L.getD k .zero).p) := (HW.out.cell (p := ⟨b, o + k * 3 + 2, none⟩) hbk).trans (hcs k hlt).2.2
      have hki : (k : Int) < n := by omega
      have e3 : ∀ n, nm (L.getD k .zero).p = n → rlK s nm L (k + 1) = match n with | none => rlK s nm L k | some x => ((rlK s nm L k).1 ++ (s.extract (rlK s nm L k).2 f ++ x), e) := fun n hnn => by
        cases n with
        | none => exact (rlK_no (s := s) hnn).1
        | some x => rw [(rlK_yes (s := s) hnn).1, hf, he]; rfl
      have hlk := HL.out (wr.alloc (.cells #[.int .i64 f, .int .i64 e, .string (L.getD k .zero).p] 36)) k hlt (by
        have h1 := HW.out.block mb hm
        have h2 := HW.out.size
        rw [Lib.alloc_old wr _ mb (by omega)]
        exact h1)
      generalize (L.getD k .zero).p = p at a2 hlk e3
      cases hnn : nm p with
      | none =>
        have e1 := e3 _ hnn
        simp only at e1
        rw [hnn] at hlk
        simp only [Option.isSome_none, Option.getD_none] at hlk
        have HB2 := hide (ib_alloc HB.out (.cells #[.int .i64 f, .int .i64 e, .string p] 36))
        have HW2 := hide (HW.out.alloc HW.out.size (.cells #[.int .i64 f, .int .i64 e, .string p] 36))
        go_wp2_with fail
        go_roundw
        case rel => exact ⟨k + 1, by omega, by rw [e1], by go_num, by rw [e1]; exact HB2, HW2⟩
        case measure => simp [intOf]; omega
      | some x =>
        have e1 := e3 _ hnn
        simp only at e1
        have hx := hnm _ _ hnn
        rw [hnn] at hlk
        simp only [Option.isSome_some, Option.getD_some] at hlk
        rw [hf] at z5
        generalize rlK s nm L k = q at HB z1 z2 z5 e1 ⊢
        obtain ⟨q, a⟩ := q
        simp only at HB z1 z2 z5 e1 ⊢
        have hs1 : ∀ W, (Instr.slice 9 (.string s) (some (.int .i64 (a : Int))) (some (.int .i64 (f : Int))) none).run Try.prog W = .ok (.string (s.extract a f)) W := fun W => hsl W a f (by omega) (by omega)
        have hsz1 : (s.extract a f).size ≤ 1000000 := by rw [ByteArray.size_extract]; omega
        generalize s.extract a f = y at hs1 e1 hsz1
        have HB2 := hide (ib_alloc HB.out (.cells #[.int .i64 f, .int .i64 e, .string p] 36))
        have HW2 := hide (HW.out.alloc HW.out.size (.cells #[.int .i64 f, .int .i64 e, .string p] 36))
        have hbl : (Lib.byteCells q.data.toList).length = q.size := by simp [Lib.byteCells]
        have hq : q.size ≤ 2000000000000 := by omega
        go_wp2_with fail
        refine (writeString2 w.heap.size w.heap.size _ _ _ HB2.out (by rw [hbl]; omega) HW2.out.size).mono ?_
        rintro r w2 ⟨rfl, h2, hb2, hk2⟩
        have HB3 := hide (Or.inr h2 : Lib.IsBuilder TB TY w.heap.size w.heap.size _ w2)
        have HW3 := hide (HW2.out.trans hb2)
        have HK := hide hk2
        clear h2 hb2 hk2 HB2 HW2
        go_wp2_with fail
        refine (writeString2 w.heap.size w.heap.size _ _ _ HB3.out (by rw [List.length_append, hbl, Lib.strCells_length]; omega) HW3.out.size).mono ?_
        rintro r w3 ⟨rfl, h3, hb3, hk3⟩
        have eB : Lib.byteCells q.data.toList ++ Lib.strCells y ++ Lib.strCells x = Lib.byteCells (q ++ (y ++ x)).data.toList := by
          have e9 : (q ++ (y ++ x)).data.toList = q.data.toList ++ (y.data.toList ++ x.data.toList) := by simp [ByteArray.data_append]
          rw [e9, Lib.strCells_eq, Lib.strCells_eq, Lib.byteCells_append, Lib.byteCells_append, List.append_assoc]
        rw [eB] at h3
        have HB4 := hide (Or.inr h3 : Lib.IsBuilder TB TY w.heap.size w.heap.size _ w3)
        have HW4 := hide (HW3.out.trans hb3)
        have hcl : w3.cell? ⟨wr.heap.size, 1, none⟩ = some (.int .i64 e) := by
          have h9 := (HK.out.trans hk3).block wr.heap.size _ _ _ (heap_alloc_new wr (.cells #[.int .i64 f, .int .i64 e, .string p] 36)) (by decide) (by decide)
          rw [Lib.cell_of_heap (h9.trans (heap_alloc_new wr _))]
          rfl
        clear h3 hb3 hk3 HB3 HW3 eB HK
        go_wp2_with fail
        go_roundw
        case rel => exact ⟨k + 1, by omega, by rw [e1], by go_num, by rw [e1]; exact HB4, HW4⟩
        case measure => simp [intOf]; omega
    · obtain rfl : k = n := by omega
      have hR : rlS s nm L = (rlK s nm L k).1 ++ s.extract (rlK s nm L k).2 s.size := by unfold rlS; rw [hn]
      have HR := hide hR
      clear hR
      obtain ⟨q, hq0⟩ : ∃ q, q = rlK s nm L k := ⟨_, rfl⟩
      rw [← hq0] at HB z1 z2 HR ⊢
      clear hq0
      obtain ⟨q, a⟩ := q
      simp only at HB z1 z2 HR ⊢
      have hs1 := fun W => hsl2 W a z1
      have hsz1 : (s.extract a s.size).size ≤ 1000000 := by rw [ByteArray.size_extract]; omega
      have hbl : (Lib.byteCells q.data.toList).length = q.size := by simp [Lib.byteCells]
      have hq : q.size ≤ 2000000000000 := by omega
      go_wp2_with fail
      refine (writeString w.heap.size w.heap.size _ _ _ HB.out (by rw [hbl]; omega) HW.out.size).mono ?_
      rintro r w2 ⟨rfl, h2, hb2⟩
      have eB : Lib.byteCells q.data.toList ++ Lib.strCells (s.extract a s.size) = Lib.byteCells (q ++ s.extract a s.size).data.toList := by
        have e9 : (q ++ s.extract a s.size).data.toList = q.data.toList ++ (s.extract a s.size).data.toList := by simp [ByteArray.data_append]
        rw [e9, Lib.strCells_eq, Lib.byteCells_append]
      rw [eB] at h2
      have HB3 := hide (Or.inr h2 : Lib.IsBuilder TB TY w.heap.size w.heap.size _ w2)
      have HW3 := hide (HW.out.trans hb2)
      clear h2 hb2 eB
      go_wp2_with fail
      refine (Try.Builder_String_any w.heap.size w.heap.size _ w2 HB3.out HW3.out.size).mono ?_
      rintro r w3 ⟨rfl, hb3⟩
      have hb4 := HW3.out.trans hb3
      go_wp2_with fail
      go_ret
      have hE : q ++ s.extract a s.size = ⟨(q.data.toList ++ List.take (s.size - a) (List.drop a s.data.toList)).toArray⟩ := by
        apply ByteArray.ext
        apply Array.ext'
        simp [ByteArray.data_append, ByteArray.data_extract]
      exact ⟨by rw [HR.out, hE]; rfl, hb4⟩
end rl
end Go.Proofs.Ytiiohopjkepkgaa
