/-
  A byteStringReplacer's Replace: the walk.
-/
import Derived.Test.YtiaibkbflmamgaaGreatDoorRp2
namespace Go.Proofs.YtiaibkbflmamgaaGreatDoor.rp
open Go.RowKit
set_option linter.unusedVariables false
set_option linter.unusedSimpArgs false
theorem one_str {s : ByteArray} (h : s.size = 1) : s = ⟨#[bAt s 0]⟩ := by
  obtain ⟨⟨l⟩⟩ := s
  match l, h with
  | [x], _ => rfl
/-- What a byte's place in the table tells. -/
theorem Tb.find {P : Nat → ByteArray} {n B : Nat} {g f : Nat → Value} {w : World} (hp : Prs P n) (hT : Tb P n n B g f w) (x : UInt8) :
    ((∀ i, i < n → bAt (P (2 * i)) 0 ≠ x) ∧ w.cell? ⟨B + 1, x.toNat, none⟩ = some (.slice none 0 0)) ∨
    ∃ i q c, i < n ∧ bAt (P (2 * i)) 0 = x ∧ w.cell? ⟨B + 1, x.toNat, none⟩ = some (.slice (some ⟨q, 0, none⟩) (P (2 * i + 1)).size c) ∧ (P (2 * i + 1)).size ≤ c ∧ c ≤ maxLen ∧ ∀ t, t < (P (2 * i + 1)).size → w.cell? ⟨q, t, none⟩ = some (.int .u8 (bAt (P (2 * i + 1)) t).toNat) := by
  have hx := UInt8.toNat_lt x
  rcases rB_cases P n x with ⟨i, hi, rfl⟩ | h
  · obtain ⟨q, c, h1, h2, h3, h4, h5⟩ := hT.on i (by omega) hi
    exact .inr ⟨i, q, c, hi, rfl, (hT.tab.cell (by omega)).trans (by rw [h1]), h3, h4, h5⟩
  · exact .inl ⟨h, (hT.tab.cell (by omega)).trans (by rw [hT.off _ (by omega) (fun i _ hi e => h i hi (UInt8.toNat_inj.1 e))])⟩
/-- The same but for what has been drawn. -/
structure Same (w w' : World) : Prop where
  heap : w'.heap = w.heap
  os : w'.os = w.os
  tape : w'.tape = w.tape
  output : w'.output = w.output
theorem Same.refl (w : World) : Same w w := ⟨rfl, rfl, rfl, rfl⟩
theorem Same.cell {w w' : World} (h : Same w w') (a : Addr) : w'.cell? a = w.cell? a := World.cell?_of_block (by rw [h.heap])
theorem Same.below {w w' : World} (h : Same w w') : Below w.heap.size w w' := ⟨h.os, h.tape, h.output, by rw [h.heap]; exact Nat.le_refl _, fun k _ => by rw [h.heap]⟩
theorem drewN_heap (w : World) : ∀ k, (w.drewN k).heap = w.heap ∧ (w.drewN k).os = w.os ∧ (w.drewN k).tape = w.tape ∧ (w.drewN k).output = w.output := by
  intro k
  simp [World.drewN]
theorem Same.drewN {w w' : World} (h : Same w w') (k : Nat) : Same w (w'.drewN k) := by
  obtain ⟨h1, h2, h3, h4⟩ := drewN_heap w' k
  exact ⟨h1.trans h.heap, h2.trans h.os, h3.trans h.tape, h4.trans h.output⟩
/-- The first loop: how long the new text is. -/
def C1 (P : Nat → ByteArray) (n : Nat) (l : List UInt8) (w : World) (v5 v6 v32 : Value) (wr : World) : Prop :=
  ∃ (m : Nat) (N : Int) (any : Bool), m ≤ n ∧ v32 = .int .i64 m ∧ v5 = .int .i64 N ∧ v6 = .bool any ∧ Hid (N = l.length + sumT (fun t => (l.count (kT P n t) : Int) * ((nT P n t : Int) - 1)) m) ∧ Hid (any = false ↔ ∀ t, t < m → l.count (kT P n t) = 0) ∧ Same w wr
def C2 (P : Nat → ByteArray) (n : Nat) (l : List UInt8) (w : World) (v5 v6 v10 : Value) (wr : World) : Prop :=
  ∃ (m : Nat) (N : Int) (any : Bool), m ≤ l.length ∧ v10 = .int .i64 m ∧ v5 = .int .i64 N ∧ v6 = .bool any ∧ Hid (N = l.length + (outB P n (l.take m)).length - m) ∧ Hid (any = false ↔ ∀ t, t < n → (l.take m).count (kT P n t) = 0) ∧ Same w wr
def C3 (P : Nat → ByteArray) (n : Nat) (l : List UInt8) (w : World) (Bf : Nat) (v13 v14 : Value) (wr : World) : Prop :=
  ∃ (j m : Nat) (f : Nat → Value), m ≤ l.length ∧ v13 = .int .i64 j ∧ v14 = .int .i64 m ∧ Hid (j = (outB P n (l.take m)).length) ∧ Below w.heap.size w wr ∧ wr.rowIs Bf 5 (outB P n l).length f ∧ ∀ t, (h : t < (outB P n (l.take m)).length) → f t = .int .u8 (outB P n (l.take m))[t].toNat
theorem set_below {B : Nat} {w wr : World} (h : Below B w wr) {b i : Nat} (hb : B ≤ b) (v : Value) : Below B w (wr.setCell ⟨b, i, none⟩ v) :=
  ⟨h.os, h.tape, h.output, by rw [set_size]; exact h.size, fun k hk => (Go.Deep.blk_setCell_other _ _ _ _ (by show k ≠ b; omega)).trans (h.block k hk)⟩
theorem sets_below {B : Nat} {w : World} {b : Nat} (hb : B ≤ b) : ∀ (vs : List Value) (o : Nat) (wr : World), Below B w wr → Below B w (wr.setCells b o vs)
  | [], _, _, h => h
  | v :: r, o, wr, h => sets_below hb r (o + 1) _ (set_below h hb v)
theorem out_take (P : Nat → ByteArray) (n : Nat) (l : List UInt8) (k : Nat) : (outB P n (l.take k)).length ≤ (outB P n l).length := by
  have h : outB P n l = outB P n (l.take k) ++ outB P n (l.drop k) := by unfold outB; rw [← List.flatMap_append, List.take_append_drop]
  rw [h, List.length_append]
  omega
theorem bAt_get (s : ByteArray) (k : Nat) (h : k < s.data.toList.length) : s.data.toList[k] = bAt s k := by
  unfold bAt
  rw [List.getD_eq_getElem?_getD, List.getElem?_eq_getElem h]
  rfl
theorem grow_bd (l : List UInt8) (P : Nat → ByteArray) (n : Nat) (hp : Prs P n) (m : Nat) (hm : m ≤ n) (hl : l.length ≤ 17179869184) : 0 ≤ sumT (fun t => (l.count (kT P n t) : Int) * ((nT P n t : Int) - 1)) m ∧ sumT (fun t => (l.count (kT P n t) : Int) * ((nT P n t : Int) - 1)) m ≤ m * 1717986918400 :=
  sumT_bd m fun t ht => by
    have h1 := hp.new (n - 1 - t) (by omega)
    have h2 : l.count (kT P n t) ≤ l.length := List.count_le_length
    show 0 ≤ (l.count (kT P n t) : Int) * (((P (2 * (n - 1 - t) + 1)).size : Int) - 1) ∧ (l.count (kT P n t) : Int) * (((P (2 * (n - 1 - t) + 1)).size : Int) - 1) ≤ 1717986918400
    refine ⟨Int.mul_nonneg (by omega) (by omega), ?_⟩
    have h3 : (l.count (kT P n t) : Int) * (((P (2 * (n - 1 - t) + 1)).size : Int) - 1) ≤ 17179869184 * 100 := Int.mul_le_mul (by omega) (by omega) (by omega) (by omega)
    omega
set_option maxRecDepth 100000 in
set_option maxHeartbeats 6400000 in
theorem replace_str (P : Nat → ByteArray) (n B : Nat) (g f : Nat → Value) (w : World) (hp : Prs P n) (hT : Tb P n n B g f w) (s : ByteArray) (hs : s.size ≤ 17179869184) :
    Calls Tryz.prog 291 #[.pointer (some ⟨B + 1, 0, none⟩), .string s] w fun e w' => e = .returned (.string ⟨(outB P n s.data.toList).toArray⟩) ∧ Below w.heap.size w w' := by
  have c256 : w.cell? ⟨B + 1, 256, none⟩ = some (.slice (some ⟨B, 0, none⟩) n n) := by rw [← hT.g256]; exact hT.tab.cell (by omega)
  have hn100 := hp.n100
  have hz : s.data.toList.length = s.size := by simp
  go_enter Tryz.func291, Tryz.ntmps291
  by_cases hbig : (n : Int) * 8 ≤ s.size
  · go_wp2_with fail
    go_loopw [5, 6, 32] (C1 P n s.data.toList w) (fun _ _ v32 _ => n - (intOf v32).toNat)
    case atStart => exact ⟨0, s.size, false, Nat.zero_le _, rfl, rfl, rfl, hide (by rw [hz]; show (s.size : Int) = s.size + 0; omega), hide (by simp), Same.refl _⟩
    case round =>
      obtain ⟨m, N, any, hm, rfl, rfl, rfl, hN, hany, hw⟩ := hrel
      have HW := hide hw
      by_cases hlt : m < n
      · have hmi : (m : Int) < n := by omega
        obtain ⟨i, hi⟩ : ∃ i, i = n - 1 - m := ⟨_, rfl⟩
        have hin : i < n := by omega
        have hs1 := hp.old i hin
        obtain ⟨c, hc⟩ : ∃ c, c = bAt (P (2 * i)) 0 := ⟨_, rfl⟩
        have a0 : wr.cell? ⟨B, m, none⟩ = some (.string ⟨#[c]⟩) := by
          rw [hw.cell, hT.row.cell hlt, hT.fs m hlt, ← hi, one_str hs1, ← hc]
        have hix := bAt0 (s := ⟨#[c]⟩) rfl
        have hcx : bAt ⟨#[c]⟩ 0 = c := rfl
        rw [hcx] at hix
        obtain ⟨X, hX⟩ : ∃ X, X = c.toNat := ⟨_, rfl⟩
        have hX1 : X < 256 := by rw [hX]; exact UInt8.toNat_lt _
        rw [← hX] at hix
        obtain ⟨q, cq, h1, h2, h3, h4, h5⟩ := hT.on i (by omega) hin
        rw [← hc, ← hX] at h1
        have hL := hp.new i hin
        obtain ⟨L, hLe⟩ : ∃ L, L = (P (2 * i + 1)).size := ⟨_, rfl⟩
        rw [← hLe] at h1 hL
        have a1 : wr.cell? ⟨B + 1, X, none⟩ = some (.slice (some ⟨q, 0, none⟩) L cq) := by rw [hw.cell, ← h1]; exact hT.tab.cell (by omega)
        have hL0 := hL.1
        have hL1 := hL.2
        clear h2 h3 h4 h5
        have HC := hide hc
        have HI := hide hi
        have HX := hide hX
        have HL := hide hLe
        clear hc hi hX hLe hL
        obtain ⟨C, hC⟩ : ∃ C, C = s.data.toList.count c := ⟨_, rfl⟩
        have hCl : C ≤ s.size := by rw [hC, ← hz]; exact List.count_le_length
        have hcnt : ∀ w, Calls Tryz.prog 126 #[.string s, .string ⟨#[c]⟩] w fun e w' => e = .returned (.int .i64 C) ∧ w' = w := fun w => by rw [hC]; exact Tryz.strings_Count_one s c w
        obtain ⟨D, hD⟩ : ∃ D, D = (C : Int) * ((L : Int) - 1) := ⟨_, rfl⟩
        have hD0 : 0 ≤ D := by rw [hD]; exact Int.mul_nonneg (by omega) (by omega)
        have hD1 : D ≤ 1717986918400 := by
          have h3 : (C : Int) * ((L : Int) - 1) ≤ 17179869184 * 100 := Int.mul_le_mul (by omega) (by omega) (by omega) (by omega)
          rw [hD]; omega
        have hDr := hD.symm
        have hbd := grow_bd s.data.toList P n hp m (by omega) (by rw [hz]; exact hs)
        have hN0 : 0 ≤ N := by rw [hN.out]; omega
        have hN1 : N ≤ 17179869184 + 100 * 1717986918400 := by rw [hN.out, hz]; omega
        have hstep : N + D = s.data.toList.length + sumT (fun t => (s.data.toList.count (kT P n t) : Int) * ((nT P n t : Int) - 1)) (m + 1) := by
          have e1 : kT P n m = c := by unfold kT; rw [← HI.out, ← HC.out]
          have e2 : nT P n m = L := by unfold nT; rw [← HI.out, ← HL.out]
          rw [sumT, hN.out, hD, e1, e2, hC]; omega
        have hzero : C = 0 → D = 0 := fun e => by rw [hD, e]; simp
        have hcl : C = s.data.toList.count (kT P n m) := by unfold kT; rw [← HI.out, ← HC.out]; exact hC
        have HCL := hide hcl
        have HST := hide hstep
        have HZ := hide hzero
        clear hw hC hD hbd hcl hstep hzero
        by_cases hC0 : C = 0
        · have hcz : ((C : Int) != 0) = false := by rw [hC0]; rfl
          have HC0 := hide hC0
          clear hC0
          go_wp2_with (go_at_call 126; refine (hcnt _).mono ?_; rintro e w' ⟨rfl, rfl⟩)
          go_roundw
          case rel =>
            refine ⟨m + 1, N, any, hlt, by go_num, rfl, rfl, hide (by rw [← HST.out, HZ.out HC0.out]; omega), hide ?_, HW.out⟩
            rw [hany.out]
            exact ⟨fun h t ht => by
              rcases Nat.lt_succ_iff_lt_or_eq.1 ht with h1 | h1
              · exact h t h1
              · rw [h1, ← HCL.out]; exact HC0.out, fun h t ht => h t (by omega)⟩
          case measure => simp [intOf]; omega
        · have hcz : ((C : Int) != 0) = true := by simp; omega
          have HC0 := hide hC0
          clear hC0
          go_wp2_with (go_at_call 126; refine (hcnt _).mono ?_; rintro e w' ⟨rfl, rfl⟩)
          go_quiet (fail)
          go_wp2_with fail
          go_roundw
          case rel =>
            refine ⟨m + 1, N + D, true, hlt, by go_num, rfl, rfl, hide HST.out, hide ?_, HW.out.drewN _⟩
            refine ⟨fun h => (by cases h), fun h => absurd ?_ HC0.out⟩
            rw [HCL.out]
            exact h m (by omega)
          case measure => simp [intOf]; omega
      · obtain rfl : n = m := by omega
        have hNt : N = ((outB P n s.data.toList).length : Int) := by rw [out_len hp, hN.out]
        have HO : Hid (any = false → outB P n s.data.toList = s.data.toList) := hide fun h => out_same _ (hany.out.1 h)
        have hNb : N ≤ 17179869184 + 100 * 1717986918400 := by have := grow_bd s.data.toList P n hp n (by omega) (by rw [hz]; exact hs); rw [hN.out, hz]; omega
        clear hN hany
        have HN0 := hide hNt
        have hsame := hw
        have HW := hide hw
        clear hw
        cases any
        · clear hNt hNb
          go_wp2_with fail
          go_ret
          refine ⟨?_, HW.out.below⟩
          rw [HO.out (by simp)]
          obtain ⟨⟨l⟩⟩ := s
          rfl
        · obtain ⟨tot, htot⟩ : ∃ tot, tot = (outB P n s.data.toList).length := ⟨_, rfl⟩
          obtain rfl : N = (tot : Int) := by rw [htot]; exact HN0.out
          have htb : tot ≤ 1000000000000000000 := by have := hNb; omega
          obtain ⟨i5, hi5, hz5, hsz5, hby5⟩ : ∃ i, Tryz.prog.info? 5 = some i ∧ i.zero = some (.int .u8 0) ∧ i.size = 1 ∧ i.bytes = 1 := info_parts (by kernel_rfl)
          have htt : tot ≤ 281474976710656 := by have := hNb; omega
          have hmk := run_make (P := Tryz.prog) wr 46 5 i5 _ Tryz.underlying46 hi5 hz5 .i64 .i64 tot tot (by omega) (by omega) (by rw [hby5]; omega) (by omega)
          simp only [Int.toNat_natCast, hsz5, Nat.mul_one] at hmk
          have HTOT := hide htot
          clear htot hNb hNt HN0
          obtain ⟨Bf, hBf⟩ : ∃ Bf, wr.heap.size = Bf := ⟨_, rfl⟩
          have hBw : w.heap.size ≤ Bf := by rw [← hBf, HW.out.heap]; exact Nat.le_refl _
          rw [hBf] at hmk
          have HBF := hide hBf
          clear hsame hBf
          go_wp2_with fail
          clear hmk
          go_loopw [13, 14] (C3 P n s.data.toList w Bf) (fun _ v14 _ => s.size - (intOf v14).toNat)
          case atStart =>
            have hrow := World.rowIs_made wr (.int .u8 0) tot 5
            rw [HTOT.out, HBF.out] at hrow
            rw [HTOT.out]
            exact ⟨0, 0, _, Nat.zero_le _, rfl, rfl, hide rfl, HW.out.below.alloc (by rw [HBF.out]; exact hBw) _, hrow, fun t h => by simp [outB] at h⟩
          case round =>
            obtain ⟨j, m, f', hm, rfl, rfl, hj, hB, hR, hf⟩ := hrel
            by_cases hlt : m < s.size
            · have hmi : (m : Int) < s.size := by omega
              have hix := bAt_index hlt wr
              obtain ⟨x, hx⟩ : ∃ x, x = bAt s m := ⟨_, rfl⟩
              obtain ⟨X, hX⟩ : ∃ X, X = x.toNat := ⟨_, rfl⟩
              have hX1 : X < 256 := by rw [hX]; exact UInt8.toNat_lt _
              rw [← hx, ← hX] at hix
              have hsn := out_snoc P n s.data.toList (k := m) (by rw [hz]; exact hlt)
              rw [bAt_get, ← hx] at hsn
              have hle := out_take P n s.data.toList (m + 1)
              rw [← HTOT.out] at hle hR
              have hjt : (outB P n (s.data.toList.take (m + 1))).length = j + (rB P n x).length := by rw [hsn, List.length_append, hj.out]
              have hBlt := hT.tab.lt
              rcases Tb.find hp hT x with ⟨hno, hcell⟩ | ⟨i, q, cq, hi, hkx, hcell, hsc, hcm, hbs⟩
              · rw [← hX] at hcell
                have a1 : wr.cell? ⟨B + 1, X, none⟩ = some (.slice none 0 0) := (hB.cell (p := ⟨B + 1, X, none⟩) hBlt).trans hcell
                rw [rB_no hno] at hsn hjt
                have hjt1 : j < tot := by rw [hjt] at hle; simp at hle; omega
                have hji : (j : Int) < tot := by omega
                have aj := hR.cell hjt1
                have zj := hR.frozen j
                have hnq := run_neq_slice_nil (P := Tryz.prog) (w := wr) 46 5 none 0 0 Tryz.underlying46
                have HX := hide hX
                have HSN := hide hsn
                have HJT := hide hjt
                clear hx hX hsn hjt hle
                go_wp2_with fail
                go_roundw
                case rel =>
                  refine ⟨j + 1, m + 1, fun t => if t = j then .int .u8 X else f' t, by rw [hz]; exact hlt, by go_num, by go_num, hide HJT.out.symm, set_below hB hBw _, by rw [← HTOT.out]; exact hR.set j _, fun t h => ?_⟩
                  have hsn := HSN.out
                  simp only [hsn]
                  rw [HJT.out] at h
                  by_cases e : t = j
                  · have hl : (outB P n (s.data.toList.take m)).length = t := by rw [e]; exact hj.out.symm
                    rw [if_pos e, List.getElem_append_right (by omega)]
                    simp [HX.out]
                  · simp only [List.length_cons, List.length_nil] at h
                    have ht : t < (outB P n (s.data.toList.take m)).length := by rw [← hj.out]; omega
                    rw [if_neg e, hf t ht, List.getElem_append_left ht]
                case measure => simp [intOf]; omega
              · have hRl : rB P n x = (P (2 * i + 1)).data.toList := by rw [← hkx]; exact rB_key hp hi
                have hL := hp.new i hi
                obtain ⟨L, hLe⟩ : ∃ L, L = (P (2 * i + 1)).size := ⟨_, rfl⟩
                rw [← hX, ← hLe] at hcell
                rw [← hLe] at hsc hbs hL
                have hRL : (rB P n x).length = L := by rw [hRl, hLe, Array.length_toList]; rfl
                rw [hRL] at hjt
                have hjL : j + L ≤ tot := by rw [← hjt]; exact hle
                have hL0 := hL.1
                have hL1 := hL.2
                have a1 : wr.cell? ⟨B + 1, X, none⟩ = some (.slice (some ⟨q, 0, none⟩) L cq) := (hB.cell (p := ⟨B + 1, X, none⟩) hBlt).trans hcell
                have hji : (j : Int) < tot := by omega
                have hji2 : (j : Int) ≤ tot := by omega
                have hnq := run_neq_slice_nil (P := Tryz.prog) (w := wr) 46 5 (some ⟨q, 0, none⟩) L cq Tryz.underlying46
                have HX := hide hX
                have HSN := hide hsn
                have HJT := hide hjt
                have HL := hide hLe
                have HHX := hide hx
                obtain ⟨cs, hcs⟩ : ∃ cs : List Value, cs = (rB P n x).map (fun b => Value.int .u8 b.toNat) := ⟨_, rfl⟩
                have hcsl : cs.length = L := by rw [hcs, List.length_map, hRL]
                have hcp : ∀ ty, (Builtin.copy_ #[46, 46] ty #[.slice (some ⟨Bf, j, none⟩) (tot - j) (tot - j), .slice (some ⟨q, 0, none⟩) L cq]).run Tryz.prog wr.drew = .ok (.int .i64 L) (wr.drew.setCells Bf j cs) := fun ty => by
                  have := run_copy_cells (P := Tryz.prog) wr.drew 46 46 ty 5 Bf j (tot - j) (tot - j) ⟨q, 0, none⟩ L cq cs Tryz.underlying46 (by kernel_rfl) (by rw [hcsl]; simp only [Nat.min_def]; split <;> omega)
                    (fun k v hk => by
                      have hkl : k < L := by rw [← hcsl]; exact (List.getElem?_eq_some_iff.1 hk).1
                      have hkr : k < (rB P n x).length := by rw [hRL]; exact hkl
                      rw [hcs, List.getElem?_map, List.getElem?_eq_getElem hkr] at hk
                      injection hk with hk
                      subst hk
                      rw [Addr.add_lit, Nat.zero_add]
                      have hb := hbs k hkl
                      refine ((hB.cell (p := ⟨q, k, none⟩) (World.block_lt_of_cell? w ⟨q, k, none⟩ hb)).trans hb).trans ?_
                      congr 3
                      simp only [hRl]
                      rw [bAt_get])
                    (fun k hk => by rw [show wr.drew.cell? ⟨Bf, j + k, none⟩ = wr.cell? ⟨Bf, j + k, none⟩ from rfl, hR.cell (by omega)]; rfl) (fun k hk => hR.frozen _) (fun v hv => by
                      rw [hcs] at hv
                      obtain ⟨b, _, rfl⟩ := List.mem_map.1 hv
                      rfl)
                  rw [hcsl] at this
                  exact this
                have HCS := hide hcs
                have HRL := hide hRL
                clear hx hX hsn hjt hle hLe hL hRL hcs
                go_wp2_with fail
                go_region
                go_wp2_with fail
                go_roundw
                case rel =>
                  have hR2 := rowIs_setCells cs j wr.drew _ hR.drew
                  refine ⟨j + L, m + 1, _, by rw [hz]; exact hlt, by go_num, by go_num, hide HJT.out.symm, sets_below hBw cs j wr.drew ⟨hB.os, hB.tape, hB.output, hB.size, hB.block⟩, by rw [← HTOT.out]; exact hR2, fun t h => ?_⟩
                  have hsn := HSN.out
                  simp only [hsn]
                  rw [HJT.out] at h
                  by_cases e : t < j
                  · have ht : t < (outB P n (s.data.toList.take m)).length := by rw [← hj.out]; exact e
                    rw [if_neg (by omega), hf t ht, List.getElem_append_left ht]
                  · have hkr : t - j < (rB P n x).length := by rw [HRL.out]; omega
                    rw [if_pos ⟨by omega, by rw [hcsl]; omega⟩, List.getElem_append_right (by rw [← hj.out]; omega), HCS.out, List.getElem?_map, List.getElem?_eq_getElem hkr]
                    simp only [Option.map_some, Option.getD_some, ← hj.out]
                case measure => simp [intOf]; omega
            · obtain rfl : m = s.size := by omega
              have hsall : s.data.toList.take s.size = s.data.toList := List.take_of_length_le (by rw [hz]; exact Nat.le_refl _)
              rw [hsall] at hj hf
              have hcv : (convert 46 9 (.slice (some ⟨Bf, 0, none⟩) tot tot)).run Tryz.prog wr = .ok (.string ⟨(outB P n s.data.toList).toArray⟩) wr := by
                have := run_convert_bytes_back (P := Tryz.prog) wr 46 9 5 ⟨Bf, 0, none⟩ tot (outB P n s.data.toList) Tryz.underlying46 Tryz.underlying5 Tryz.underlying9 (fun t ht => by
                  rw [Addr.add_lit, Nat.zero_add, hR.cell ht, hf t ht])
                rw [← HTOT.out] at this
                exact this
              clear hsall hf
              have HJ := hide hj
              clear hj
              go_wp2_with fail
              go_ret
              exact ⟨rfl, hB⟩
  · go_wp2_with fail
    go_loopw [5, 6, 10] (C2 P n s.data.toList w) (fun _ _ v10 _ => s.size - (intOf v10).toNat)
    case atStart => exact ⟨0, s.size, false, Nat.zero_le _, rfl, rfl, rfl, hide (by rw [hz]; simp [outB]), hide (by simp), Same.refl _⟩
    case round =>
      obtain ⟨m, N, any, hm, rfl, rfl, rfl, hN, hany, hw⟩ := hrel
      have HW := hide hw
      rw [hz] at hm
      by_cases hlt : m < s.size
      · have hmi : (m : Int) < s.size := by omega
        have hix := bAt_index hlt wr
        obtain ⟨x, hx⟩ : ∃ x, x = bAt s m := ⟨_, rfl⟩
        obtain ⟨X, hX⟩ : ∃ X, X = x.toNat := ⟨_, rfl⟩
        have hX1 : X < 256 := by rw [hX]; exact UInt8.toNat_lt _
        rw [← hx, ← hX] at hix
        have hsn := out_snoc P n s.data.toList (k := m) (by rw [hz]; exact hlt)
        have htk : s.data.toList.take (m + 1) = s.data.toList.take m ++ [x] := by
          rw [List.take_add_one, List.getElem?_eq_getElem (by rw [hz]; exact hlt), bAt_get, ← hx]
          rfl
        rw [bAt_get, ← hx] at hsn
        have hle := out_take P n s.data.toList (m + 1)
        have hbd := grow_bd s.data.toList P n hp n (Nat.le_refl _) (by rw [hz]; exact hs)
        have hol := out_len hp s.data.toList
        have hjt : ((outB P n (s.data.toList.take (m + 1))).length : Int) = (outB P n (s.data.toList.take m)).length + (rB P n x).length := by rw [hsn, List.length_append]; omega
        have hN0 : 0 ≤ N := by rw [hN.out, hz]; omega
        have hN1 : N ≤ 1000000000000000 := by rw [hN.out, hz]; omega
        have HHN := hide hN.out
        rcases Tb.find hp hT x with ⟨hno, hcell⟩ | ⟨i, q, cq, hi, hkx, hcell, hsc, hcm, hbs⟩
        · rw [← hX] at hcell
          have a1 : wr.cell? ⟨B + 1, X, none⟩ = some (.slice none 0 0) := (hw.cell _).trans hcell
          have hnq := run_neq_slice_nil (P := Tryz.prog) (w := wr) 46 5 none 0 0 Tryz.underlying46
          rw [rB_no hno] at hjt
          have hst : N = s.data.toList.length + (outB P n (s.data.toList.take (m + 1))).length - ((m + 1 : Nat) : Int) := by rw [hjt, HHN.out]; simp; omega
          have hcount : ∀ t, t < n → (s.data.toList.take (m + 1)).count (kT P n t) = (s.data.toList.take m).count (kT P n t) := fun t ht => by
            rw [htk, List.count_append, List.count_cons, List.count_nil, if_neg (by simp; exact fun e => hno (n - 1 - t) (by omega) e.symm)]
            rfl
          have HST := hide hst
          clear hx hX hsn hjt hle hbd hol hst htk hw HHN hN
          go_wp2_with fail
          go_roundw
          case rel =>
            refine ⟨m + 1, N, any, by rw [hz]; exact hlt, by go_num, rfl, rfl, hide HST.out, hide ?_, HW.out⟩
            rw [hany.out]
            exact ⟨fun h t ht => by rw [hcount t ht]; exact h t ht, fun h t ht => by rw [← hcount t ht]; exact h t ht⟩
          case measure => simp [intOf]; omega
        · have hRl : rB P n x = (P (2 * i + 1)).data.toList := by rw [← hkx]; exact rB_key hp hi
          have hL := hp.new i hi
          obtain ⟨L, hLe⟩ : ∃ L, L = (P (2 * i + 1)).size := ⟨_, rfl⟩
          rw [← hX, ← hLe] at hcell
          rw [← hLe] at hL
          have hRL : (rB P n x).length = L := by rw [hRl, hLe, Array.length_toList]; rfl
          rw [hRL] at hjt
          have hL0 := hL.1
          have hL1 := hL.2
          have a1 : wr.cell? ⟨B + 1, X, none⟩ = some (.slice (some ⟨q, 0, none⟩) L cq) := (hw.cell _).trans hcell
          have hnq := run_neq_slice_nil (P := Tryz.prog) (w := wr) 46 5 (some ⟨q, 0, none⟩) L cq Tryz.underlying46
          have hst : N + ((L : Int) - 1) = s.data.toList.length + (outB P n (s.data.toList.take (m + 1))).length - ((m + 1 : Nat) : Int) := by rw [hjt, HHN.out]; omega
          have hkey : (s.data.toList.take (m + 1)).count (kT P n (n - 1 - i)) ≠ 0 := by
            unfold kT
            rw [show n - 1 - (n - 1 - i) = i by omega, hkx, htk, List.count_append, List.count_cons_self]
            omega
          have HST := hide hst
          have HKEY := hide hkey
          clear hx hX hsn hjt hle hbd hol hst htk hw HHN hN hkey hLe hL hRL hsc hbs hcm
          go_wp2_with fail
          go_roundw
          case rel =>
            refine ⟨m + 1, N + ((L : Int) - 1), true, by rw [hz]; exact hlt, by go_num, rfl, rfl, hide HST.out, hide ?_, HW.out⟩
            exact ⟨fun h => (by cases h), fun h => absurd (h (n - 1 - i) (by omega)) HKEY.out⟩
          case measure => simp [intOf]; omega
      · obtain rfl : m = s.size := by omega
        have hsall : s.data.toList.take s.size = s.data.toList := List.take_of_length_le (by rw [hz]; exact Nat.le_refl _)
        have hNt : N = ((outB P n s.data.toList).length : Int) := by rw [hN.out, hsall, hz]; omega
        have HO : Hid (any = false → outB P n s.data.toList = s.data.toList) := hide fun h => out_same _ (by have := hany.out.1 h; rwa [hsall] at this)
        have hNb : N ≤ 17179869184 + 100 * 1717986918400 := by have := grow_bd s.data.toList P n hp n (by omega) (by rw [hz]; exact hs); rw [hNt, out_len hp, hz]; omega
        clear hN hany hsall
        have HN0 := hide hNt
        have hsame := hw
        have HW := hide hw
        clear hw
        cases any
        · clear hNt hNb
          go_wp2_with fail
          go_ret
          refine ⟨?_, HW.out.below⟩
          rw [HO.out (by simp)]
          obtain ⟨⟨l⟩⟩ := s
          rfl
        · obtain ⟨tot, htot⟩ : ∃ tot, tot = (outB P n s.data.toList).length := ⟨_, rfl⟩
          obtain rfl : N = (tot : Int) := by rw [htot]; exact HN0.out
          have htb : tot ≤ 1000000000000000000 := by have := hNb; omega
          obtain ⟨i5, hi5, hz5, hsz5, hby5⟩ : ∃ i, Tryz.prog.info? 5 = some i ∧ i.zero = some (.int .u8 0) ∧ i.size = 1 ∧ i.bytes = 1 := info_parts (by kernel_rfl)
          have htt : tot ≤ 281474976710656 := by have := hNb; omega
          have hmk := run_make (P := Tryz.prog) wr 46 5 i5 _ Tryz.underlying46 hi5 hz5 .i64 .i64 tot tot (by omega) (by omega) (by rw [hby5]; omega) (by omega)
          simp only [Int.toNat_natCast, hsz5, Nat.mul_one] at hmk
          have HTOT := hide htot
          clear htot hNb hNt HN0
          obtain ⟨Bf, hBf⟩ : ∃ Bf, wr.heap.size = Bf := ⟨_, rfl⟩
          have hBw : w.heap.size ≤ Bf := by rw [← hBf, HW.out.heap]; exact Nat.le_refl _
          rw [hBf] at hmk
          have HBF := hide hBf
          clear hsame hBf
          go_wp2_with fail
          clear hmk
          go_loopw [13, 14] (C3 P n s.data.toList w Bf) (fun _ v14 _ => s.size - (intOf v14).toNat)
          case atStart =>
            have hrow := World.rowIs_made wr (.int .u8 0) tot 5
            rw [HTOT.out, HBF.out] at hrow
            rw [HTOT.out]
            exact ⟨0, 0, _, Nat.zero_le _, rfl, rfl, hide rfl, HW.out.below.alloc (by rw [HBF.out]; exact hBw) _, hrow, fun t h => by simp [outB] at h⟩
          case round =>
            obtain ⟨j, m, f', hm, rfl, rfl, hj, hB, hR, hf⟩ := hrel
            by_cases hlt : m < s.size
            · have hmi : (m : Int) < s.size := by omega
              have hix := bAt_index hlt wr
              obtain ⟨x, hx⟩ : ∃ x, x = bAt s m := ⟨_, rfl⟩
              obtain ⟨X, hX⟩ : ∃ X, X = x.toNat := ⟨_, rfl⟩
              have hX1 : X < 256 := by rw [hX]; exact UInt8.toNat_lt _
              rw [← hx, ← hX] at hix
              have hsn := out_snoc P n s.data.toList (k := m) (by rw [hz]; exact hlt)
              rw [bAt_get, ← hx] at hsn
              have hle := out_take P n s.data.toList (m + 1)
              rw [← HTOT.out] at hle hR
              have hjt : (outB P n (s.data.toList.take (m + 1))).length = j + (rB P n x).length := by rw [hsn, List.length_append, hj.out]
              have hBlt := hT.tab.lt
              rcases Tb.find hp hT x with ⟨hno, hcell⟩ | ⟨i, q, cq, hi, hkx, hcell, hsc, hcm, hbs⟩
              · rw [← hX] at hcell
                have a1 : wr.cell? ⟨B + 1, X, none⟩ = some (.slice none 0 0) := (hB.cell (p := ⟨B + 1, X, none⟩) hBlt).trans hcell
                rw [rB_no hno] at hsn hjt
                have hjt1 : j < tot := by rw [hjt] at hle; simp at hle; omega
                have hji : (j : Int) < tot := by omega
                have aj := hR.cell hjt1
                have zj := hR.frozen j
                have hnq := run_neq_slice_nil (P := Tryz.prog) (w := wr) 46 5 none 0 0 Tryz.underlying46
                have HX := hide hX
                have HSN := hide hsn
                have HJT := hide hjt
                clear hx hX hsn hjt hle
                go_wp2_with fail
                go_roundw
                case rel =>
                  refine ⟨j + 1, m + 1, fun t => if t = j then .int .u8 X else f' t, by rw [hz]; exact hlt, by go_num, by go_num, hide HJT.out.symm, set_below hB hBw _, by rw [← HTOT.out]; exact hR.set j _, fun t h => ?_⟩
                  have hsn := HSN.out
                  simp only [hsn]
                  rw [HJT.out] at h
                  by_cases e : t = j
                  · have hl : (outB P n (s.data.toList.take m)).length = t := by rw [e]; exact hj.out.symm
                    rw [if_pos e, List.getElem_append_right (by omega)]
                    simp [HX.out]
                  · simp only [List.length_cons, List.length_nil] at h
                    have ht : t < (outB P n (s.data.toList.take m)).length := by rw [← hj.out]; omega
                    rw [if_neg e, hf t ht, List.getElem_append_left ht]
                case measure => simp [intOf]; omega
              · have hRl : rB P n x = (P (2 * i + 1)).data.toList := by rw [← hkx]; exact rB_key hp hi
                have hL := hp.new i hi
                obtain ⟨L, hLe⟩ : ∃ L, L = (P (2 * i + 1)).size := ⟨_, rfl⟩
                rw [← hX, ← hLe] at hcell
                rw [← hLe] at hsc hbs hL
                have hRL : (rB P n x).length = L := by rw [hRl, hLe, Array.length_toList]; rfl
                rw [hRL] at hjt
                have hjL : j + L ≤ tot := by rw [← hjt]; exact hle
                have hL0 := hL.1
                have hL1 := hL.2
                have a1 : wr.cell? ⟨B + 1, X, none⟩ = some (.slice (some ⟨q, 0, none⟩) L cq) := (hB.cell (p := ⟨B + 1, X, none⟩) hBlt).trans hcell
                have hji : (j : Int) < tot := by omega
                have hji2 : (j : Int) ≤ tot := by omega
                have hnq := run_neq_slice_nil (P := Tryz.prog) (w := wr) 46 5 (some ⟨q, 0, none⟩) L cq Tryz.underlying46
                have HX := hide hX
                have HSN := hide hsn
                have HJT := hide hjt
                have HL := hide hLe
                have HHX := hide hx
                obtain ⟨cs, hcs⟩ : ∃ cs : List Value, cs = (rB P n x).map (fun b => Value.int .u8 b.toNat) := ⟨_, rfl⟩
                have hcsl : cs.length = L := by rw [hcs, List.length_map, hRL]
                have hcp : ∀ ty, (Builtin.copy_ #[46, 46] ty #[.slice (some ⟨Bf, j, none⟩) (tot - j) (tot - j), .slice (some ⟨q, 0, none⟩) L cq]).run Tryz.prog wr.drew = .ok (.int .i64 L) (wr.drew.setCells Bf j cs) := fun ty => by
                  have := run_copy_cells (P := Tryz.prog) wr.drew 46 46 ty 5 Bf j (tot - j) (tot - j) ⟨q, 0, none⟩ L cq cs Tryz.underlying46 (by kernel_rfl) (by rw [hcsl]; simp only [Nat.min_def]; split <;> omega)
                    (fun k v hk => by
                      have hkl : k < L := by rw [← hcsl]; exact (List.getElem?_eq_some_iff.1 hk).1
                      have hkr : k < (rB P n x).length := by rw [hRL]; exact hkl
                      rw [hcs, List.getElem?_map, List.getElem?_eq_getElem hkr] at hk
                      injection hk with hk
                      subst hk
                      rw [Addr.add_lit, Nat.zero_add]
                      have hb := hbs k hkl
                      refine ((hB.cell (p := ⟨q, k, none⟩) (World.block_lt_of_cell? w ⟨q, k, none⟩ hb)).trans hb).trans ?_
                      congr 3
                      simp only [hRl]
                      rw [bAt_get])
                    (fun k hk => by rw [show wr.drew.cell? ⟨Bf, j + k, none⟩ = wr.cell? ⟨Bf, j + k, none⟩ from rfl, hR.cell (by omega)]; rfl) (fun k hk => hR.frozen _) (fun v hv => by
                      rw [hcs] at hv
                      obtain ⟨b, _, rfl⟩ := List.mem_map.1 hv
                      rfl)
                  rw [hcsl] at this
                  exact this
                have HCS := hide hcs
                have HRL := hide hRL
                clear hx hX hsn hjt hle hLe hL hRL hcs
                go_wp2_with fail
                go_region
                go_wp2_with fail
                go_roundw
                case rel =>
                  have hR2 := rowIs_setCells cs j wr.drew _ hR.drew
                  refine ⟨j + L, m + 1, _, by rw [hz]; exact hlt, by go_num, by go_num, hide HJT.out.symm, sets_below hBw cs j wr.drew ⟨hB.os, hB.tape, hB.output, hB.size, hB.block⟩, by rw [← HTOT.out]; exact hR2, fun t h => ?_⟩
                  have hsn := HSN.out
                  simp only [hsn]
                  rw [HJT.out] at h
                  by_cases e : t < j
                  · have ht : t < (outB P n (s.data.toList.take m)).length := by rw [← hj.out]; exact e
                    rw [if_neg (by omega), hf t ht, List.getElem_append_left ht]
                  · have hkr : t - j < (rB P n x).length := by rw [HRL.out]; omega
                    rw [if_pos ⟨by omega, by rw [hcsl]; omega⟩, List.getElem_append_right (by rw [← hj.out]; omega), HCS.out, List.getElem?_map, List.getElem?_eq_getElem hkr]
                    simp only [Option.map_some, Option.getD_some, ← hj.out]
                case measure => simp [intOf]; omega
            · obtain rfl : m = s.size := by omega
              have hsall : s.data.toList.take s.size = s.data.toList := List.take_of_length_le (by rw [hz]; exact Nat.le_refl _)
              rw [hsall] at hj hf
              have hcv : (convert 46 9 (.slice (some ⟨Bf, 0, none⟩) tot tot)).run Tryz.prog wr = .ok (.string ⟨(outB P n s.data.toList).toArray⟩) wr := by
                have := run_convert_bytes_back (P := Tryz.prog) wr 46 9 5 ⟨Bf, 0, none⟩ tot (outB P n s.data.toList) Tryz.underlying46 Tryz.underlying5 Tryz.underlying9 (fun t ht => by
                  rw [Addr.add_lit, Nat.zero_add, hR.cell ht, hf t ht])
                rw [← HTOT.out] at this
                exact this
              clear hsall hf
              have HJ := hide hj
              clear hj
              go_wp2_with fail
              go_ret
              exact ⟨rfl, hB⟩
end Go.Proofs.YtiaibkbflmamgaaGreatDoor.rp
