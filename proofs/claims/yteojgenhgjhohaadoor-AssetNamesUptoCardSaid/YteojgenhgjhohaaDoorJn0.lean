/-
  A strings.Builder of a call's own in this program: copyCheck, WriteString. (Walks turned from the library's: this program's copyCheck has no text where it panics.) strings.Join by a Builder.
-/
import Derived.Test.YteojgenhgjhohaaDoorShelf
import Derived.Shelf.Strings.Builder1
import Derived.Test.YteojgenhgjhohaaDoorL0
import Derived.WalkLawsBesides
namespace Go.Proofs.YteojgenhgjhohaaDoor.bl
open Go.RowKit Go.Shelf
set_option linter.unusedVariables false
set_option linter.unusedSimpArgs false
abbrev TB : TypeId := 54
abbrev TY : TypeId := 5
theorem sizeB : (Tryd.prog.info? TB).map (·.size) = some 2 := by kernel_rfl
theorem liesB : liesAt Tryd.prog Tryd.prog.depth TB (2 / Tryd.prog.cellsOf TB) 0 TB 1 = true := by kernel_rfl
theorem infoY : (Tryd.prog.info? TY).map (fun i => (i.zero, i.size, i.bytes)) = some (some (.int .u8 0), 1, 1) := by kernel_rfl
set_option maxHeartbeats 1000000 in
set_option maxRecDepth 100000 in
theorem check_used (b : Nat) (w : World) (h0 : w.cell? ⟨b, 0, none⟩ = some (.pointer (some ⟨b, 0, none⟩))) :
    Calls Tryd.prog 48 #[.pointer (some ⟨b, 0, none⟩)] w fun e w' => e = .returned (.tuple #[]) ∧ w' = w := by
  obtain ⟨j, hj, _⟩ := Option.map_eq_some_iff.1 sizeB
  go_enter Tryd.func48, Tryd.ntmps48
  go_wp2
  rw [Lib.run_neq_ptr_same w _ Tryd.underlying52 hj]
  go_wp2
  go_end0
  exact ⟨rfl, rfl⟩
set_option maxHeartbeats 1000000 in
set_option maxRecDepth 100000 in
theorem check_fresh (b : Nat) (w : World) (h0 : w.cell? ⟨b, 0, none⟩ = some (.pointer none)) (hsh : w.shape? b = some (TB, 2)) (hfz : w.frozen? ⟨b, 0, none⟩ = false) :
    Calls Tryd.prog 48 #[.pointer (some ⟨b, 0, none⟩)] w fun e w' => e = .returned (.tuple #[]) ∧ w' = w.setCell ⟨b, 0, none⟩ (.pointer (some ⟨b, 0, none⟩)) := by
  obtain ⟨j, hj, hjs⟩ := Option.map_eq_some_iff.1 sizeB
  go_enter Tryd.func48, Tryd.ntmps48
  go_wp2
  rw [Lib.run_to_unsafe w ⟨b, 0, none⟩ Tryd.underlying52 Tryd.underlying89 hj (by rw [hjs]; decide) hsh (Nat.zero_lt_succ 1)]
  simp only [Result.andThen]
  rw [Oper.upon_value]
  go_wp2
  rw [run_callFunc_extern Tryd.func70 (by kernel_rfl) (by kernel_rfl) (by kernel_rfl) (e := Extern.AbiNoEscape.same) (by kernel_rfl)]
  rw [Lib.run_noEscape]
  simp only [Result.andThen]
  rw [Oper.upon_value]
  go_wp2
  rw [Lib.run_from_unsafe w ⟨b, 0, none⟩ Tryd.underlying89 Tryd.underlying52 hj hsh liesB]
  simp only [Result.andThen]
  rw [Oper.upon_value]
  go_wp2
  go_end0
  exact ⟨rfl, rfl⟩
theorem check (B b : Nat) (bs : List Value) (w : World) (h : Lib.IsBuilder TB TY B b bs w) :
    Calls Tryd.prog 48 #[.pointer (some ⟨b, 0, none⟩)] w fun e w' => e = .returned (.tuple #[]) ∧ (Lib.BuilderAt TB TY B b (.pointer (some ⟨b, 0, none⟩)) bs w' ∧ Below B w w') := by
  rcases h with h | h
  · refine (check_fresh b w h.cell0 h.shape h.frozen0).mono ?_
    rintro e w' ⟨rfl, rfl⟩
    exact ⟨rfl, h.used _, (Below.refl B w).setCell (p := ⟨b, 0, none⟩) h.1 _⟩
  · refine (check_used b w h.cell0).mono ?_
    rintro e w' ⟨rfl, rfl⟩
    exact ⟨rfl, h, Below.refl B _⟩
theorem neY : TB ≠ TY := by decide
set_option maxHeartbeats 2000000 in
set_option maxRecDepth 100000 in
theorem writeString (B b : Nat) (bs : List Value) (s : ByteArray) (w : World) (h : Lib.IsBuilder TB TY B b bs w) (hlen : bs.length + s.size ≤ 140737488355328) (hBw : B ≤ w.heap.size) :
    Calls Tryd.prog 35 #[.pointer (some ⟨b, 0, none⟩), .string s] w fun e w' => e = .returned (.tuple #[.int .i64 s.size, .nilIface]) ∧ (Lib.BuilderAt TB TY B b (.pointer (some ⟨b, 0, none⟩)) (bs ++ Lib.strCells s) w' ∧ Below B w w') := by
  obtain ⟨i0, hi, hz0, hz1, hz2⟩ := info_parts infoY
  have e240 : ∀ args w, (callFunc 48 args).run Tryd.prog w = .ok (.enter 48 args) w := enters_of Tryd.func48 (by kernel_rfl) rfl
  go_enter Tryd.func35, Tryd.ntmps35
  go_wp2_with (go_at_fn 48; refine (check B b bs _ h).mono ?_)
  rintro e w1 ⟨rfl, h1, hb1⟩
  obtain ⟨hB, v, hbk, hown, hne⟩ := h1
  have c0 : w1.cell? ⟨b, 0, none⟩ = some (.pointer (some ⟨b, 0, none⟩)) := by rw [Lib.cell_of_heap hbk]; rfl
  have c1 : w1.cell? ⟨b, 1, none⟩ = some v := by rw [Lib.cell_of_heap hbk]; rfl
  go_wp2_with (at_builtin; refine Lib.wpList_append_own_string _ rfl _ _ 44 9 rfl B TY i0 Tryd.underlying44 Tryd.underlying9 hi hz0 hz1 hz2 _ _ _ rfl hown s rfl ?c3 ?c4 ?c5 ?_)
  case c3 => unfold maxLen; omega
  case c4 => omega
  case c5 => have := hb1.size; omega
  intro v' w2 hown' hgrow _
  have hlt : b < w1.heap.size := by
    rcases Nat.lt_or_ge b w1.heap.size with h' | h'
    · exact h'
    · simp [Array.getElem?_eq_none h'] at hbk
  have hb2 : w2.heap[b]? = some (.cells #[.pointer (some ⟨b, 0, none⟩), v] TB (0, 0)) := by
    rw [hgrow.block b hlt (fun e => hne e.symm)]
    exact hbk
  have d0 : w2.cell? ⟨b, 0, none⟩ = some (.pointer (some ⟨b, 0, none⟩)) := by rw [Lib.cell_of_heap hb2]; rfl
  have d1 : w2.cell? ⟨b, 1, none⟩ = some v := by rw [Lib.cell_of_heap hb2]; rfl
  have f1 : w2.frozen? ⟨b, 1, none⟩ = false := Lib.frozen_of_heap hb2 1
  obtain ⟨ao, n', cap, rfl⟩ : ∃ ao n' cap, v' = .slice ao n' cap := by
    rcases hown'.2 with ⟨hv, _⟩ | ⟨g, cap, cur, hv, _⟩
    · exact ⟨_, _, _, hv⟩
    · exact ⟨_, _, _, hv⟩
  go_wp2
  go_ret2
  refine ⟨rfl, ?_, ?_⟩
  · exact Lib.BuilderAt.put (T := TB) (e := TY) hB hb2 (bs' := bs ++ Lib.strCells s) (by simpa [Lib.strCells_length] using hown') neY
  · exact (hb1.grown hgrow (by have := hb1.size; omega) (fun k hk => (hown.lt k hk).1)).setCell (p := ⟨b, 1, none⟩) hB _
end Go.Proofs.YteojgenhgjhohaaDoor.bl
namespace Go.Proofs.YteojgenhgjhohaaDoor.bl
open Go.RowKit Go.Shelf
set_option linter.unusedVariables false
set_option linter.unusedSimpArgs false
def jn (sep : List UInt8) : Bool → List ByteArray → List UInt8
  | _, [] => []
  | f, x :: r => (if f then [] else sep) ++ x.data.toList ++ jn sep false r
theorem jn_snoc (sep : List UInt8) (l : List ByteArray) (x : ByteArray) (f : Bool) : jn sep f (l ++ [x]) = jn sep f l ++ ((if f = true ∧ l = [] then [] else sep) ++ x.data.toList) := by
  induction l generalizing f with
  | nil => cases f <;> simp [jn]
  | cons a l ih =>
    rw [List.cons_append, jn, ih, jn]
    simp
theorem jn_take (sep : List UInt8) (l : List ByteArray) (k : Nat) (h : k < l.length) (h0 : 0 < k) : jn sep true (l.take (k + 1)) = jn sep true (l.take k) ++ sep ++ (l.getD k ⟨#[]⟩).data.toList := by
  have e : l.take (k + 1) = l.take k ++ [l.getD k ⟨#[]⟩] := by
    rw [List.take_add_one, List.getElem?_eq_getElem h, List.getD_eq_getElem?_getD, List.getElem?_eq_getElem h]
    rfl
  rw [e, jn_snoc, List.append_assoc]
  congr 2
  rw [if_neg (fun h2 => ?_)]
  have := congrArg List.length h2.2
  rw [List.length_take, List.length_nil] at this
  omega
theorem alloc_sz (w : World) (o : Obj) : (w.alloc o).heap.size = w.heap.size + 1 := by
  show (w.heap.push o).size = _
  simp
def szL (l : List ByteArray) : Nat := (l.map (·.size)).sum
theorem szL_take (l : List ByteArray) (k : Nat) (h : k < l.length) : szL (l.take (k + 1)) = szL (l.take k) + (l.getD k ⟨#[]⟩).size := by
  unfold szL
  rw [List.take_add_one, List.getElem?_eq_getElem h, List.getD_eq_getElem?_getD, List.getElem?_eq_getElem h, List.map_append, List.sum_append]
  simp
theorem szL_le (l : List ByteArray) (k : Nat) : szL (l.take k) ≤ szL l := by
  unfold szL
  induction l generalizing k with
  | nil => simp
  | cons a l ih => cases k with
    | zero => simp
    | succ k => have := ih k; simp only [List.take_succ_cons, List.map_cons, List.sum_cons]; omega
theorem jn_len (sep : List UInt8) : ∀ (l : List ByteArray) (f : Bool), (jn sep f l).length ≤ szL l + sep.length * l.length
  | [], f => by simp [jn]
  | x :: r, f => by
    have ih := jn_len sep r false
    have h1 : (if f then ([] : List UInt8) else sep).length ≤ sep.length := by split <;> simp
    have h2 : x.data.toList.length = x.size := by simp
    have h3 : sep.length * (r.length + 1) = sep.length * r.length + sep.length := Nat.mul_succ _ _
    simp only [jn, List.length_append, szL, List.map_cons, List.sum_cons, List.length_cons] at ih ⊢
    omega
def J1 (T : List ByteArray) (n p : Nat) (w : World) (v5 v41 : Value) (wr : World) : Prop := ∃ (k m : Nat), k ≤ n ∧ v41 = .int .i64 k ∧ v5 = .int .i64 m ∧ Hid (m = p + szL (T.take k)) ∧ wr = w
def J2 (T : List ByteArray) (sep : ByteArray) (n : Nat) (w : World) (v65 : Value) (wr : World) : Prop := ∃ q : Nat, q ≤ n - 1 ∧ v65 = .int .i64 q ∧ Hid (Lib.IsBuilder TB TY w.heap.size w.heap.size (Lib.byteCells (jn sep.data.toList true (T.take (q + 1)))) wr) ∧ Hid (Below w.heap.size w wr)
set_option maxHeartbeats 4000000 in
set_option maxRecDepth 100000 in
theorem join_raw (A : Option Addr) (n c : Nat) (T : List ByteArray) (sep : ByteArray) (w : World) (hn : T.length = n) (hn2 : n ≤ 1000000000)
    (hA : n = 0 ∨ ∃ b o, A = some ⟨b, o, none⟩ ∧ b < w.heap.size ∧ ∀ j, j < n → w.cell? ⟨b, o + j, none⟩ = some (.string (T.getD j ⟨#[]⟩)))
    (hsep : sep.size ≤ 1000) (hz : 0 < sep.size) (hnc : n ≤ c) (hcm : c ≤ maxLen) (hs : szL T ≤ 10000000000000) :
    Calls Tryd.prog 20 #[.slice A n c, .string sep] w fun e w' => e = .returned (.string ⟨(jn sep.data.toList true T).toArray⟩) ∧ Below w.heap.size w w' := by
  have HA := hide hA
  clear hA
  have HN := hide hn
  rcases (by omega : n = 0 ∨ n = 1 ∨ 2 ≤ n) with h0 | h1 | h2
  · subst h0
    have hT : T = [] := List.eq_nil_of_length_eq_zero hn
    subst hT
    clear hn
    go_enter Tryd.func20, Tryd.ntmps20
    go_wp2_with fail
    go_ret
    exact ⟨rfl, Below.refl _ _⟩
  · subst h1
    obtain ⟨b, o, rfl, hbk, hcs⟩ := HA.out.resolve_left (by omega)
    have a0 := hcs 0 (by omega)
    obtain ⟨x, rfl⟩ : ∃ x, T = [x] := by
      match T, hn with
      | [x], _ => exact ⟨x, rfl⟩
    have a0 : w.cell? ⟨b, o, none⟩ = some (.string x) := a0
    clear hn
    go_enter Tryd.func20, Tryd.ntmps20
    go_wp2_with fail
    go_ret
    refine ⟨?_, Below.refl _ _⟩
    simp only [jn, if_true, List.nil_append, List.append_nil]
    obtain ⟨⟨l⟩⟩ := x
    rfl
  · obtain ⟨b, o, rfl, hbk, hcs⟩ := HA.out.resolve_left (by omega)
    have hn0 : ((n : Int) == 0) = false := by simp; omega
    have hn1 : ((n : Int) == 1) = false := by simp; omega
    have hn3 : (2 : Int) ≤ n := by omega
    clear hn
    obtain ⟨p, hp⟩ : ∃ p, p = sep.size * (n - 1) := ⟨_, rfl⟩
    have hp2 : p ≤ 1000 * 1000000000 := by rw [hp]; exact Nat.mul_le_mul hsep (by omega)
    have hmul : (sep.size : Int) * ((n : Int) - 1) = p := by rw [hp, Int.natCast_mul]; congr 1; omega
    have hdiv : ¬ (sep.size : Int) ≥ (9223372036854775807 : Int) / ((n : Int) - 1) := by
      intro h
      have h4 : (9223372036854775807 : Int) / ((n : Int) - 1) ≥ 1001 := by
        refine Int.le_ediv_of_mul_le (by omega) ?_
        omega
      omega
    have hdiv2 : ¬ (9223372036854775807 : Int) / ((n : Int) - 1) ≤ sep.size := hdiv
    have HP := hide hp
    have HCS := hide hcs
    clear hp hcs
    go_enter Tryd.func20, Tryd.ntmps20
    have hz1 : (0 : Int) < (sep.size : Int) := by omega
    go_wp2_with fail
    go_loopw [5, 41] (J1 T n p w) (fun _ v41 _ => n - (intOf v41).toNat)
    case atStart => exact ⟨0, p, Nat.zero_le _, rfl, by go_num, hide (by simp [szL]), rfl⟩
    case round =>
      obtain ⟨k, m, hk, rfl, rfl, hm, hw⟩ := hrel
      have hw := hw.symm
      subst hw
      have hle := szL_le T k
      have hmb : m ≤ 20000000000000 := by rw [hm.out]; omega
      by_cases hlt : k < n
      · have a0 := HCS.out k hlt
        have hki : (k : Int) < n := by omega
        obtain ⟨x, hx⟩ : ∃ x, x = T.getD k ⟨#[]⟩ := ⟨_, rfl⟩
        rw [← hx] at a0
        have hst := szL_take T k (by rw [HN.out]; exact hlt)
        rw [← hx] at hst
        have hle2 := szL_le T (k + 1)
        have hxs : x.size ≤ 10000000000000 := by omega
        have hxc : ¬ (9223372036854775807 : Int) - m < x.size := by omega
        have HST := hide hst
        clear hst hle hle2 hx
        go_wp2_with fail
        go_roundw
        case rel => exact ⟨k + 1, m + x.size, hlt, by go_num, by go_num, hide (by rw [hm.out, HST.out]; omega), rfl⟩
        case measure => simp [intOf]; omega
      · obtain rfl : k = n := by omega
        have hmb2 : m ≤ 281474976710656 := by omega
        have a0 := HCS.out 0 (by omega)
        rw [Nat.add_zero] at a0
        obtain ⟨x, hx⟩ : ∃ x, x = T.getD 0 ⟨#[]⟩ := ⟨_, rfl⟩
        rw [← hx] at a0
        have HX := hide hx
        have hxs : x.size ≤ 10000000000000 := by
          have h3 := szL_take T 0 (by rw [HN.out]; omega)
          have h4 := szL_le T (0 + 1)
          rw [← hx] at h3
          omega
        clear hle hx
        go_wp2_with fail
        have hbn : b < w.heap.size := hbk
        refine (Tryd.Builder_Grow_fresh w.heap.size w.heap.size m _ (Nat.le_refl _) (heap_alloc_new w _) (by rw [alloc_sz]; omega) hmb2).mono ?_
        rintro e w1 ⟨rfl, hb1, hB1⟩
        have hB1 : Below w.heap.size w w1 := ((Below.refl _ w).alloc (Nat.le_refl _) _).trans hB1
        have a1 : w1.cell? ⟨b, o, none⟩ = some (.string x) := (hB1.cell (p := ⟨b, o, none⟩) hbk).trans a0
        have HB1 := hide hb1
        have HW1 := hide hB1
        clear hb1 hB1 a0
        have e240 : ∀ args w, (callFunc 35 args).run Tryd.prog w = .ok (.enter 35 args) w := enters_of Tryd.func35 (by kernel_rfl) rfl
        have e241 : ∀ args w, (callFunc 36 args).run Tryd.prog w = .ok (.enter 36 args) w := enters_of Tryd.func36 (by kernel_rfl) rfl
        go_wp2_with fail
        refine (writeString w.heap.size w.heap.size [] x _ (Or.inr HB1.out) (by simp; omega) HW1.out.size).mono ?_
        rintro e w2 ⟨rfl, hb2, hB2⟩
        rw [List.nil_append] at hb2
        have HB2 := hide (Or.inr hb2 : Lib.IsBuilder TB TY w.heap.size w.heap.size _ w2)
        have HW2 := hide (HW1.out.trans hB2)
        clear hb2 hB2 HB1 HW1 a1
        have hkc : (k : Int) ≤ c := by omega
        have hk1 : (1 : Int) ≤ k := by omega
        go_wp2_with fail
        go_loopw [65] (J2 T sep k w) (fun v65 _ => k - (intOf v65).toNat)
        case atStart =>
          refine ⟨0, Nat.zero_le _, rfl, ?_, HW2⟩
          have e1 : jn sep.data.toList true (T.take (0 + 1)) = x.data.toList := by
            match T, HN.out, HX.out with
            | y :: r, _, hx => rw [hx]; simp [jn]
            | [], h, _ => simp at h; omega
          rw [e1, ← Lib.strCells_eq]
          exact HB2
        case round =>
          obtain ⟨q, hq, rfl, HB, HW⟩ := hrel
          by_cases hlt : q < k - 1
          · have a0 : wr.cell? ⟨b, o + (q + 1), none⟩ = some (.string (T.getD (q + 1) ⟨#[]⟩)) := (HW.out.cell (p := ⟨b, o + (q + 1), none⟩) hbk).trans (HCS.out (q + 1) (by omega))
            obtain ⟨y, hy⟩ : ∃ y, y = T.getD (q + 1) ⟨#[]⟩ := ⟨_, rfl⟩
            rw [← hy] at a0
            have a1 : wr.cell? ⟨b, o + 1 + q, none⟩ = some (.string y) := by rw [← a0]; congr 2; omega
            have hqi : (q : Int) < k - 1 := by omega
            have hys : y.size ≤ 10000000000000 := by
              have h3 := szL_take T (q + 1) (by rw [HN.out]; omega)
              have h4 := szL_le T (q + 1 + 1)
              rw [← hy] at h3
              omega
            have hjl := jn_len sep.data.toList (T.take (q + 1)) true
            have hsl : sep.data.toList.length = sep.size := by simp
            have htl : (T.take (q + 1)).length ≤ 1000000000 := by rw [List.length_take, HN.out]; omega
            have hsl2 : sep.data.toList.length * (T.take (q + 1)).length ≤ 1000 * 1000000000 := Nat.mul_le_mul (by omega) htl
            have hs4 := szL_le T (q + 1)
            have hbl : (Lib.byteCells (jn sep.data.toList true (T.take (q + 1)))).length = (jn sep.data.toList true (T.take (q + 1))).length := by simp [Lib.byteCells]
            have htk := jn_take sep.data.toList T (q + 1) (by rw [HN.out]; omega) (by omega)
            rw [← hy] at htk
            have HTK := hide htk
            have HJL := hide (show (Lib.byteCells (jn sep.data.toList true (T.take (q + 1)))).length ≤ 11000000000000 by omega)
            clear hjl hsl htl hsl2 hs4 hbl htk hy a0
            go_wp2_with fail
            refine (writeString w.heap.size w.heap.size _ sep _ HB.out (by have := HJL.out; omega) HW.out.size).mono ?_
            rintro e w3 ⟨rfl, h3, hb3⟩
            have HB3 := hide (Or.inr h3 : Lib.IsBuilder TB TY w.heap.size w.heap.size _ w3)
            have HW3 := hide (HW.out.trans hb3)
            clear h3 hb3
            go_wp2_with fail
            refine (writeString w.heap.size w.heap.size _ y _ HB3.out (by rw [List.length_append, Lib.strCells_length]; have := HJL.out; omega) HW3.out.size).mono ?_
            rintro e w4 ⟨rfl, h4, hb4⟩
            have eB : Lib.byteCells (jn sep.data.toList true (T.take (q + 1))) ++ Lib.strCells sep ++ Lib.strCells y = Lib.byteCells (jn sep.data.toList true (T.take (q + 1 + 1))) := by rw [HTK.out, Lib.strCells_eq, Lib.strCells_eq, Lib.byteCells_append, Lib.byteCells_append]
            rw [eB] at h4
            have HB4 := hide (Or.inr h4 : Lib.IsBuilder TB TY w.heap.size w.heap.size _ w4)
            have HW4 := hide (HW3.out.trans hb4)
            clear h4 hb4 eB
            go_wp2_with fail
            go_roundw
            case rel => exact ⟨q + 1, by omega, by go_num, HB4, HW4⟩
            case measure => simp [intOf]; omega
          · obtain rfl : q = k - 1 := by omega
            have hqi : ((k - 1 : Nat) : Int) = k - 1 := by omega
            have hqn : ¬ ((k - 1 : Nat) : Int) < k - 1 := by omega
            go_wp2_with fail
            refine (Tryd.Builder_String_any w.heap.size w.heap.size _ wr HB.out HW.out.size).mono ?_
            rintro e w3 ⟨rfl, hb3⟩
            have hb4 := HW.out.trans hb3
            go_wp2_with fail
            go_ret
            refine ⟨?_, hb4⟩
            rw [List.take_of_length_le (by rw [HN.out]; omega)]
            rfl
end Go.Proofs.YteojgenhgjhohaaDoor.bl
