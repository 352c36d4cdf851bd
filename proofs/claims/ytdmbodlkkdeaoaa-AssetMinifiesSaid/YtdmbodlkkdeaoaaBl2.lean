/-
  A strings.Builder of a call's own in this program: copyCheck, WriteString. (Walks turned from the library's: this program's copyCheck has no text where it panics.) asset.joined: texts joined by a strings.Builder. asset.joined over data.
-/
import Derived.Test.YtdmbodlkkdeaoaaShelf
import Derived.Shelf.Strings.Builder1
import Derived.Test.YtdmbodlkkdeaoaaL0
import Derived.WalkLawsBesides
import Derived.Test.YtdmbodlkkdeaoaaN18
import Derived.Test.YtdmbodlkkdeaoaaQ1
namespace Go.Proofs.Ytdmbodlkkdeaoaa.bl
open Go.RowKit Go.Shelf
set_option linter.unusedVariables false
set_option linter.unusedSimpArgs false
abbrev TB : TypeId := 140
abbrev TY : TypeId := 5
theorem sizeB : (Try.prog.info? TB).map (·.size) = some 2 := by kernel_rfl
theorem liesB : liesAt Try.prog Try.prog.depth TB (2 / Try.prog.cellsOf TB) 0 TB 1 = true := by kernel_rfl
theorem infoY : (Try.prog.info? TY).map (fun i => (i.zero, i.size, i.bytes)) = some (some (.int .u8 0), 1, 1) := by kernel_rfl
set_option maxHeartbeats 1000000 in
set_option maxRecDepth 100000 in
theorem check_used (b : Nat) (w : World) (h0 : w.cell? ⟨b, 0, none⟩ = some (.pointer (some ⟨b, 0, none⟩))) :
    Calls Try.prog 90 #[.pointer (some ⟨b, 0, none⟩)] w fun e w' => e = .returned (.tuple #[]) ∧ w' = w := by
  obtain ⟨j, hj, _⟩ := Option.map_eq_some_iff.1 sizeB
  go_enter Try.func90, Try.ntmps90
  go_wp2
  rw [Lib.run_neq_ptr_same w _ Try.underlying137 hj]
  go_wp2
  go_end0
  exact ⟨rfl, rfl⟩
set_option maxHeartbeats 1000000 in
set_option maxRecDepth 100000 in
theorem check_fresh (b : Nat) (w : World) (h0 : w.cell? ⟨b, 0, none⟩ = some (.pointer none)) (hsh : w.shape? b = some (TB, 2)) (hfz : w.frozen? ⟨b, 0, none⟩ = false) :
    Calls Try.prog 90 #[.pointer (some ⟨b, 0, none⟩)] w fun e w' => e = .returned (.tuple #[]) ∧ w' = w.setCell ⟨b, 0, none⟩ (.pointer (some ⟨b, 0, none⟩)) := by
  obtain ⟨j, hj, hjs⟩ := Option.map_eq_some_iff.1 sizeB
  go_enter Try.func90, Try.ntmps90
  go_wp2
  rw [Lib.run_to_unsafe w ⟨b, 0, none⟩ Try.underlying137 Try.underlying243 hj (by rw [hjs]; decide) hsh (Nat.zero_lt_succ 1)]
  simp only [Result.andThen]
  rw [Oper.upon_value]
  go_wp2
  rw [run_callFunc_extern Try.func107 (by kernel_rfl) (by kernel_rfl) (by kernel_rfl) (e := Extern.AbiNoEscape.same) (by kernel_rfl)]
  rw [Lib.run_noEscape]
  simp only [Result.andThen]
  rw [Oper.upon_value]
  go_wp2
  rw [Lib.run_from_unsafe w ⟨b, 0, none⟩ Try.underlying243 Try.underlying137 hj hsh liesB]
  simp only [Result.andThen]
  rw [Oper.upon_value]
  go_wp2
  go_end0
  exact ⟨rfl, rfl⟩
theorem check (B b : Nat) (bs : List Value) (w : World) (h : Lib.IsBuilder TB TY B b bs w) :
    Calls Try.prog 90 #[.pointer (some ⟨b, 0, none⟩)] w fun e w' => e = .returned (.tuple #[]) ∧ (Lib.BuilderAt TB TY B b (.pointer (some ⟨b, 0, none⟩)) bs w' ∧ Below B w w') := by
  rcases h with h | h
  · refine (check_fresh b w h.cell0 h.shape h.frozen0).mono ?_
    rintro e w' ⟨rfl, rfl⟩
    exact ⟨rfl, h.used _, (Below.refl B w).setCell (p := ⟨b, 0, none⟩) h.1 _⟩
  · refine (check_used b w h.cell0).mono ?_
    rintro e w' ⟨rfl, rfl⟩
    exact ⟨rfl, h, Below.refl B _⟩
theorem neY : TB ≠ TY := by decide
set_option maxHeartbeats 2000000 in
set_option maxRecDepth 100000 in
theorem writeString (B b : Nat) (bs : List Value) (s : ByteArray) (w : World) (h : Lib.IsBuilder TB TY B b bs w) (hlen : bs.length + s.size ≤ 140737488355328) (hBw : B ≤ w.heap.size) :
    Calls Try.prog 47 #[.pointer (some ⟨b, 0, none⟩), .string s] w fun e w' => e = .returned (.tuple #[.int .i64 s.size, .nilIface]) ∧ (Lib.BuilderAt TB TY B b (.pointer (some ⟨b, 0, none⟩)) (bs ++ Lib.strCells s) w' ∧ Below B w w') := by
  obtain ⟨i0, hi, hz0, hz1, hz2⟩ := info_parts infoY
  have e240 : ∀ args w, (callFunc 90 args).run Try.prog w = .ok (.enter 90 args) w := enters_of Try.func90 (by kernel_rfl) rfl
  go_enter Try.func47, Try.ntmps47
  go_wp2_with (go_at_fn 90; refine (check B b bs _ h).mono ?_)
  rintro e w1 ⟨rfl, h1, hb1⟩
  obtain ⟨hB, v, hbk, hown, hne⟩ := h1
  have c0 : w1.cell? ⟨b, 0, none⟩ = some (.pointer (some ⟨b, 0, none⟩)) := by rw [Lib.cell_of_heap hbk]; rfl
  have c1 : w1.cell? ⟨b, 1, none⟩ = some v := by rw [Lib.cell_of_heap hbk]; rfl
  go_wp2_with (at_builtin; refine Lib.wpList_append_own_string _ rfl _ _ 138 9 rfl B TY i0 Try.underlying138 Try.underlying9 hi hz0 hz1 hz2 _ _ _ rfl hown s rfl ?c3 ?c4 ?c5 ?_)
  case c3 => unfold maxLen; omega
  case c4 => omega
  case c5 => have := hb1.size; omega
  intro v' w2 hown' hgrow _
  have hlt : b < w1.heap.size := by
    rcases Nat.lt_or_ge b w1.heap.size with h' | h'
    · exact h'
    · simp [Array.getElem?_eq_none h'] at hbk
  have hb2 : w2.heap[b]? = some (.cells #[.pointer (some ⟨b, 0, none⟩), v] TB (0, 0)) := by
    rw [hgrow.block b hlt (fun e => hne e.symm)]
    exact hbk
  have d0 : w2.cell? ⟨b, 0, none⟩ = some (.pointer (some ⟨b, 0, none⟩)) := by rw [Lib.cell_of_heap hb2]; rfl
  have d1 : w2.cell? ⟨b, 1, none⟩ = some v := by rw [Lib.cell_of_heap hb2]; rfl
  have f1 : w2.frozen? ⟨b, 1, none⟩ = false := Lib.frozen_of_heap hb2 1
  obtain ⟨ao, n', cap, rfl⟩ : ∃ ao n' cap, v' = .slice ao n' cap := by
    rcases hown'.2 with ⟨hv, _⟩ | ⟨g, cap, cur, hv, _⟩
    · exact ⟨_, _, _, hv⟩
    · exact ⟨_, _, _, hv⟩
  go_wp2
  go_ret2
  refine ⟨rfl, ?_, ?_⟩
  · exact Lib.BuilderAt.put (T := TB) (e := TY) hB hb2 (bs' := bs ++ Lib.strCells s) (by simpa [Lib.strCells_length] using hown') neY
  · exact (hb1.grown hgrow (by have := hb1.size; omega) (fun k hk => (hown.lt k hk).1)).setCell (p := ⟨b, 1, none⟩) hB _
end Go.Proofs.Ytdmbodlkkdeaoaa.bl
namespace Go.Proofs.Ytdmbodlkkdeaoaa.bl
open Go.RowKit Go.Shelf
set_option linter.unusedVariables false
set_option linter.unusedSimpArgs false
/-- Strings one behind the other. -/
def catL (l : List ByteArray) : List UInt8 := l.flatMap (·.data.toList)
def catS (l : List ByteArray) : ByteArray := ⟨(catL l).toArray⟩
theorem catL_snoc {l : List ByteArray} {k : Nat} (h : k < l.length) : catL (l.take (k + 1)) = catL (l.take k) ++ (l.getD k ⟨#[]⟩).data.toList := by
  unfold catL
  rw [List.take_add_one, List.flatMap_append]
  simp [List.getD, h]
theorem catL_take_le (l : List ByteArray) (k : Nat) : (catL (l.take k)).length ≤ (catL l).length := by
  have h : catL l = catL (l.take k) ++ catL (l.drop k) := by unfold catL; rw [← List.flatMap_append, List.take_append_drop]
  rw [h, List.length_append]
  omega
theorem ib_alloc {B b : Nat} {bs : List Value} {w : World} (h : Lib.IsBuilder TB TY B b bs w) (o : Obj) : Lib.IsBuilder TB TY B b bs (w.alloc o) := by
  have one : ∀ p, Lib.BuilderAt TB TY B b p bs w → Lib.BuilderAt TB TY B b p bs (w.alloc o) := fun p h => by
    have hlt := h.lt
    obtain ⟨hB, v, hb, hown, hne⟩ := h
    exact ⟨hB, v, (Lib.alloc_old w o b hlt).trans hb, hown.alloc _, hne⟩
  exact h.imp (one _) (one _)
theorem ib_set {B b : Nat} {bs : List Value} {w : World} (h : Lib.IsBuilder TB TY B b bs w) {w1 : World} (hw : Lib.IsBuilder TB TY B b bs w1) {r i : Nat} (hr : w.heap.size ≤ r) (x : Value) (hs : ∀ p v, w.heap[b]? = some (.cells #[p, v] TB (0, 0)) → w1.heap[b]? = some (.cells #[p, v] TB (0, 0))) : Lib.IsBuilder TB TY B b bs (w1.setCell ⟨r, i, none⟩ x) := by
  have one : ∀ p, Lib.BuilderAt TB TY B b p bs w → ∀ q, Lib.BuilderAt TB TY B b q bs w1 → Lib.BuilderAt TB TY B b q bs (w1.setCell ⟨r, i, none⟩ x) := fun p h q h1 => by
    have hlt := h.lt
    obtain ⟨hB, v, hb, hown, hne⟩ := h
    obtain ⟨hB1, v1, hb1, hown1, hne1⟩ := h1
    have e := (hs _ _ hb).symm.trans hb1
    have e2 : v = v1 := by simp at e; exact e.2
    subst e2
    have hg : v.ownBlock ≠ some r := by
      intro g
      have := (hown.lt r g).2
      omega
    refine ⟨hB1, v, ?_, ?_, hne1⟩
    · have : (w1.setCell ⟨r, i, none⟩ x).heap[b]? = w1.heap[b]? := Below.heap_setCell _ _ _ _ (show b ≠ r by omega)
      exact this.trans hb1
    · exact hown1.kept (row := some r) ⟨rfl, rfl, rfl, by simp [World.setCell], fun k _ hk => Below.heap_setCell _ _ _ _ (fun e => hk (by simp [e]))⟩ (Or.inr hg)
  rcases h with h | h <;> rcases hw with h1 | h1
  · exact .inl (one _ h _ h1)
  · exact .inr (one _ h _ h1)
  · exact .inl (one _ h _ h1)
  · exact .inr (one _ h _ h1)
set_option maxHeartbeats 2000000 in
set_option maxRecDepth 100000 in
theorem joined_raw (A : Option Addr) (n c : Nat) (K : Nat → Int) (T : List ByteArray) (w : World) (hn : T.length = n) (hn2 : n ≤ 1000000000000)
    (hA : n = 0 ∨ ∃ b o, A = some ⟨b, o, none⟩ ∧ b < w.heap.size ∧ ∀ j, j < n → w.cell? ⟨b, o + j * 2, none⟩ = some (.int .i64 (K j)) ∧ w.cell? ⟨b, o + j * 2 + 1, none⟩ = some (.string (T.getD j ⟨#[]⟩)))
    (hs : (catL T).length ≤ 140737488355328) :
    Calls Try.prog 16 #[.slice A n c] w fun e w' => e = .returned (.string (catS T)) ∧ Below w.heap.size w w' := by
  have HA := hide hA
  clear hA
  go_enter Try.func16, Try.ntmps16
  go_wp2_with fail
  go_loopw [8] (fun i wr => ∃ k : Nat, k ≤ n ∧ i = .int .i64 k ∧ Hid (Lib.IsBuilder TB TY w.heap.size w.heap.size (Lib.byteCells (catL (T.take k))) wr) ∧ Hid (Below w.heap.size w wr)) (fun i _ => n - (intOf i).toNat)
  case atStart => exact ⟨0, Nat.zero_le _, rfl, hide (Lib.fresh_isBuilder TB TY w), hide ((Below.refl _ w).alloc (Nat.le_refl _) _)⟩
  case round =>
    obtain ⟨k, hk, rfl, HB, HW⟩ := hrel
    by_cases hlt : k < n
    · obtain ⟨b, o, rfl, hbk, hcs⟩ := HA.out.resolve_left (by omega)
      have a0 : wr.cell? ⟨b, o + k * 2, none⟩ = some (.int .i64 (K k)) := (HW.out.cell (p := ⟨b, o + k * 2, none⟩) hbk).trans (hcs k hlt).1
      have a1 : wr.cell? ⟨b, o + k * 2 + 1, none⟩ = some (.string (T.getD k ⟨#[]⟩)) := (HW.out.cell (p := ⟨b, o + k * 2 + 1, none⟩) hbk).trans (hcs k hlt).2
      have hki : (k : Int) < n := by omega
      have e240 : ∀ args w, (callFunc 47 args).run Try.prog w = .ok (.enter 47 args) w := enters_of Try.func47 (by kernel_rfl) rfl
      go_wp2_with fail
      have hkT : k < T.length := by omega
      have hsn := catL_snoc (l := T) (k := k) hkT
      have eT : T.getD k ⟨#[]⟩ = T[k] := by simp [List.getD, hkT]
      rw [eT] at hsn
      have hle := catL_take_le T (k + 1)
      rw [hsn, List.length_append] at hle
      have hT : T[k].data.toList.length = T[k].size := by simp
      have hbl : (Lib.byteCells (catL (T.take k))).length = (catL (T.take k)).length := by simp [Lib.byteCells]
      have hz := HW.out.size
      refine (writeString w.heap.size w.heap.size _ _ _ (ib_alloc HB.out _) (by omega) (by simp; omega)).mono ?_
      rintro e w2 ⟨rfl, h2, hb2⟩
      have eB : Lib.byteCells (catL (T.take k)) ++ Lib.strCells T[k] = Lib.byteCells (catL (T.take (k + 1))) := by rw [hsn, Lib.strCells_eq, Lib.byteCells_append]
      rw [eB] at h2
      have HB2 := hide (Or.inr h2 : Lib.IsBuilder TB TY w.heap.size w.heap.size _ w2)
      have HW2 := hide ((HW.out.alloc hz _).trans hb2)
      clear h2 hb2
      go_wp2_with fail
      go_roundw
      case rel => exact ⟨k + 1, by omega, by go_num, HB2, HW2⟩
      case measure => simp [intOf]; omega
    · obtain rfl : k = n := by omega
      have e169 : ∀ args w, (callFunc 48 args).run Try.prog w = .ok (.enter 48 args) w := enters_of Try.func48 (by kernel_rfl) rfl
      go_wp2_with fail
      refine (Try.Builder_String_any w.heap.size w.heap.size _ wr HB.out HW.out.size).mono ?_
      rintro e w2 ⟨rfl, hb2⟩
      have hb3 := HW.out.trans hb2
      go_wp2_with fail
      go_ret
      refine ⟨?_, hb3⟩
      unfold catS
      rw [List.take_of_length_le (by omega)]
      rfl
end Go.Proofs.Ytdmbodlkkdeaoaa.bl
namespace Go.Proofs.Ytdmbodlkkdeaoaa
open Go.RowKit
set_option linter.unusedVariables false
set_option linter.unusedSimpArgs false
namespace bl
/-- Tokens: kinds and texts. -/
abbrev Tok := Int × ByteArray
def tokR (l : List Tok) (i j : Nat) : DD := match j with
  | 0 => i64 (l.getD i (0, ⟨#[]⟩)).1
  | 1 => dS (l.getD i (0, ⟨#[]⟩)).2
  | _ => .opq
def encToks (l : List Tok) : DD := .sl 2 24 l.length (tokR l)
def txts (l : List Tok) : List ByteArray := l.map (·.2)
section
variable (E : Env)
set_option maxRecDepth 100000
/-- A row of tokens in the world. -/
theorem rep_toks {M : Nat → Nat → Prop} {w : World} {β : Bt} {l : List Tok} {x : Value} (h : Rep view M w β (encToks l) x) :
    ∃ A c, x = .slice A l.length c ∧ l.length ≤ c ∧ c ≤ maxLen ∧ (l.length = 0 ∨ ∃ b o, A = some ⟨b, o, none⟩ ∧ ∀ j, j < l.length → M b (o + j * 2) ∧ w.cell? ⟨b, o + j * 2, none⟩ = some (.int .i64 (l.getD j (0, ⟨#[]⟩)).1) ∧ w.cell? ⟨b, o + j * 2 + 1, none⟩ = some (.string (l.getD j (0, ⟨#[]⟩)).2)) := by
  unfold encToks at h
  generalize hn : l.length = n at h
  cases h with
  | nil hc hA => exact ⟨_, _, rfl, Nat.zero_le _, hc, .inl rfl⟩
  | @sl _ _ _ _ c b o _ u hc hm hb hu hr =>
    refine ⟨_, _, rfl, hc, hm, .inr ⟨b, o, rfl, fun j hj => ?_⟩⟩
    obtain ⟨h1, h2, _⟩ := hu j 0 hj (by omega)
    obtain ⟨g1, g2, _⟩ := hu j 1 hj (by omega)
    have h3 := (hr j 0 hj (by omega)).val.1
    have g3 := (hr j 1 hj (by omega)).val.1
    rw [Nat.add_zero] at h1 h2
    rw [h3] at h2
    rw [g3] at g2
    exact ⟨h1, h2, g2⟩
theorem joined_sp (l : List Tok) (hl : l.length ≤ 1000000000000) (hs : (catS (txts l)).size ≤ 140737488355328) : Sp (cx Try.prog mixed tyT_ok E) 16 [encToks l] (dS (catS (txts l))) := by
  refine .inl ⟨⟨_, _, Try.func16, by kernel_rfl, rfl⟩, fun M β w vs hG hMG hM hlv hr hp hb => ?_⟩
  obtain ⟨A, c, h1, h2, h3, h4⟩ := rep_toks (hr 0 _ rfl)
  have evs : vs = #[.slice A l.length c] := by
    apply Array.ext
    · simpa using hlv
    · intro i g1 g2
      obtain rfl : i = 0 := by simp at g2; exact g2
      simpa [Array.getD, g1] using h1
  rw [evs]
  have key := joined_raw A l.length c (fun j => (l.getD j (0, ⟨#[]⟩)).1) (txts l) w (List.length_map ..) hl (by
    rcases Nat.eq_zero_or_pos l.length with h0 | h0
    · exact .inl h0
    · obtain ⟨b, o, e, g⟩ := h4.resolve_left (by omega)
      refine .inr ⟨b, o, e, hM b (o + 0 * 2) (g 0 h0).1, fun j hj => ⟨(g j hj).2.1, ?_⟩⟩
      rw [(g j hj).2.2]
      simp [txts, List.getD, hj]) hs
  refine key.mono fun e w' ⟨he, hw⟩ => ?_
  exact ⟨_, M, β, he, Kp.of hw _, fun _ _ _ => rfl, fun _ _ h => h, fun _ _ h => .inl h, .v (decide_eq_true (by unfold maxLen; omega)), ⟨fun l o hm => (by cases hm), fun l o l' o' b c c' hm => (by cases hm)⟩, fun b ⟨l, o, c, hm, _⟩ => (by cases hm)⟩
end
end bl
end Go.Proofs.Ytdmbodlkkdeaoaa
