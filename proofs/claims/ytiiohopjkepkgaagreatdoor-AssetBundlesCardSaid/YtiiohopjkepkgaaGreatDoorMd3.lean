/-
  A bundle's map read: the plain law. strconv.ParseInt to the base 32 over data. A bundle's map read: asset.read32, asset.ReadMap over data.
-/
import Derived.Test.YtiiohopjkepkgaaGreatDoorMd0
import Derived.Test.YtiiohopjkepkgaaGreatDoorJ0
import Derived.Test.YtiiohopjkepkgaaGreatDoorMp2
namespace Go.Proofs.YtiiohopjkepkgaaGreatDoor
open Go.RowKit
set_option linter.unusedVariables false
set_option linter.unusedSimpArgs false
namespace md
open mp32
/-! ## Cuts -/
def cL (c : UInt8) (s : ByteArray) : ByteArray := toB (Lib.cut s.data.toList [c]).1
def cR (c : UInt8) (s : ByteArray) : ByteArray := toB (Lib.cut s.data.toList [c]).2.1
def cO (c : UInt8) (s : ByteArray) : Bool := (Lib.cut s.data.toList [c]).2.2
theorem cut_size (c : UInt8) (s : ByteArray) : (cL c s).size ≤ s.size ∧ (cR c s).size ≤ s.size := by
  have h : (Lib.cut s.data.toList [c]).1.length ≤ s.data.toList.length ∧ (Lib.cut s.data.toList [c]).2.1.length ≤ s.data.toList.length := by
    unfold Lib.cut
    split
    · simp
      omega
    · simp
  exact h
theorem pcs_yes {c : UInt8} {s : ByteArray} (h : cO c s = true) : pcs s ⟨#[c]⟩ = cL c s :: pcs (cR c s) ⟨#[c]⟩ := by rw [pcs_cut, if_pos (show (Lib.cut s.data.toList [c]).2.2 = true from h)]; rfl
theorem pcs_no {c : UInt8} {s : ByteArray} (h : cO c s = false) : pcs s ⟨#[c]⟩ = [s] := by rw [pcs_cut, if_neg (by unfold cO at h; rw [h]; decide)]
theorem cut_no {c : UInt8} {s : ByteArray} (h : cO c s = false) : cL c s = s ∧ cR c s = ⟨#[]⟩ := by
  unfold cO Lib.cut at h
  unfold cL cR Lib.cut
  split at h
  · cases h
  · rename_i hn
    rw [if_neg hn]
    exact ⟨toB_L s, rfl⟩
theorem lns_ne (c : UInt8) (L : List UInt8) : lns c L ≠ [] := by
  obtain ⟨i, l, h, _⟩ := lns_join c L
  rw [h]
  simp
theorem pcs_ne (s : ByteArray) (c : UInt8) : 0 < (pcs s ⟨#[c]⟩).length := by
  rw [pcs_lns c _ s (Nat.lt_succ_self _), List.length_map]
  exact List.length_pos_iff.2 (lns_ne _ _)
theorem lns_snoc (c : UInt8) : ∀ L : List UInt8, lns c (L ++ [c]) = lns c L ++ [[]]
  | [] => by simp [lns]
  | b :: L => by
    have ih := lns_snoc c L
    show lns c (b :: (L ++ [c])) = _
    unfold lns
    rw [ih]
    split
    · rfl
    · cases h : lns c L with
      | nil => exact absurd h (lns_ne _ _)
      | cons p r => rfl
/-- A text that ends in a line feed: the pieces. -/
theorem pcs_snoc (t : ByteArray) (c : UInt8) : pcs (t ++ ⟨#[c]⟩) ⟨#[c]⟩ = pcs t ⟨#[c]⟩ ++ [⟨#[]⟩] := by
  rw [pcs_lns c _ _ (Nat.lt_succ_self _), pcs_lns c _ t (Nat.lt_succ_self _)]
  have e : (t ++ ⟨#[c]⟩ : ByteArray).data.toList = t.data.toList ++ [c] := by simp [ByteArray.data_append]
  rw [e, lns_snoc, List.map_append]
  rfl
theorem lns_last (c : UInt8) : ∀ L : List UInt8, (lns c L).getLast? = some [] → L = [] ∨ ∃ A, L = A ++ [c] := by
  intro L h
  obtain ⟨i, l, e1, e2⟩ := lns_join c L
  rw [e1, List.getLast?_append] at h
  have : l = [] := by simpa using h
  subst this
  rw [List.append_nil] at e2
  rcases List.eq_nil_or_concat i with rfl | ⟨j, x, rfl⟩
  · exact .inl e2
  · refine .inr ⟨j.flatMap (· ++ [c]) ++ x, ?_⟩
    rw [e2]
    simp [List.concat_eq_append, List.flatMap_append]
/-! ## Sizes to the base 32 -/
def dgC (s : ByteArray) (k : Nat) : Int := dgN (bAt s k).toNat
theorem dg_tab : ∀ n : Fin 256, Lib.indexByte tabD.data.toList (UInt8.ofNat n.val) = dgN n.val ∧ -1 ≤ dgN n.val ∧ dgN n.val ≤ 31 ∧ decide (0 ≤ dgN n.val) = tabD.data.toList.contains (UInt8.ofNat n.val) := by decide +kernel
theorem dg_idx (c : UInt8) : Lib.indexByte tabD.data.toList c = dgN c.toNat ∧ -1 ≤ dgN c.toNat ∧ dgN c.toNat ≤ 31 ∧ decide (0 ≤ dgN c.toNat) = tabD.data.toList.contains c := by
  have h := dg_tab ⟨c.toNat, c.toNat_lt⟩
  simpa using h
theorem dgC_le (s : ByteArray) (k : Nat) : -1 ≤ dgC s k ∧ dgC s k ≤ 31 := (dg_idx (bAt s k)).2.imp_right (·.1)
def dgsB (s : ByteArray) : Bool := allN s.size (fun k => decide (0 ≤ dgC s k))
def szOk (s : ByteArray) : Bool := decide (s ≠ ⟨#[]⟩) && (!(decide ((bAt s 0).toNat = 48) && decide (s ≠ ⟨#[48]⟩)) && dgsB s)
theorem szOk_iff (s : ByteArray) : szOk s = true ↔ s ≠ ⟨#[]⟩ ∧ ¬ ((bAt s 0).toNat = 48 ∧ s ≠ ⟨#[48]⟩) ∧ dgsB s = true := by
  unfold szOk
  simp only [Bool.and_eq_true, decide_eq_true_eq, Bool.not_eq_true', Bool.and_eq_false_iff, decide_eq_false_iff_not]
  constructor
  · rintro ⟨h1, h2, h3⟩
    exact ⟨h1, fun ⟨a, b⟩ => h2.elim (fun h => h a) (fun h => h b), h3⟩
  · rintro ⟨h1, h2, h3⟩
    refine ⟨h1, ?_, h3⟩
    by_cases h : (bAt s 0).toNat = 48
    · exact .inr fun g => h2 ⟨h, g⟩
    · exact .inl h
/-- The number, no greater than 400000. -/
def rd (s : ByteArray) : Nat → Int
  | 0 => 0
  | k + 1 => min (32 * rd s k + dgC s k) 400000
theorem rd_b {s : ByteArray} : ∀ {k : Nat}, allN k (fun i => decide (0 ≤ dgC s i)) = true → 0 ≤ rd s k ∧ rd s k ≤ 400000
  | 0, _ => by simp [rd]
  | k + 1, h => by
    have h0 := allN_iff.1 h k (by omega)
    have ih := rd_b (s := s) (k := k) (allN_iff.2 fun i hi => allN_iff.1 h i (by omega))
    have := of_decide_eq_true h0
    show 0 ≤ min (32 * rd s k + dgC s k) 400000 ∧ min (32 * rd s k + dgC s k) 400000 ≤ 400000
    omega
theorem valN_snoc (a : Nat) (l : List UInt8) (c : UInt8) : valN a (l ++ [c]) = valN a l * 32 + (dgN c.toNat).toNat := by unfold valN; rw [List.foldl_append]; rfl
theorem take_b (s : ByteArray) {k : Nat} (h : k < s.size) : s.data.toList.take (k + 1) = s.data.toList.take k ++ [bAt s k] := by
  have h' : k < s.data.toList.length := by simpa using h
  rw [List.take_add_one]
  have : s.data.toList[k]? = some (bAt s k) := by
    rw [List.getElem?_eq_getElem h']
    show some _ = some (s.data.toList.getD k 0)
    rw [List.getD_eq_getElem?_getD, List.getElem?_eq_getElem h', Option.getD_some]
  rw [this]
  rfl
theorem rd_val {s : ByteArray} : ∀ {k : Nat}, k ≤ s.size → allN k (fun i => decide (0 ≤ dgC s i)) = true → rd s k = min ((valN 0 (s.data.toList.take k) : Nat) : Int) 400000
  | 0, _, _ => by show (0 : Int) = min 0 400000; decide
  | k + 1, hk, h => by
    have h0 := of_decide_eq_true (allN_iff.1 h k (by omega))
    have ih := rd_val (s := s) (k := k) (by omega) (allN_iff.2 fun i hi => allN_iff.1 h i (by omega))
    rw [take_b s (by omega), valN_snoc]
    show min (32 * rd s k + dgC s k) 400000 = _
    rw [ih]
    have e : dgC s k = dgN (bAt s k).toNat := rfl
    rw [e] at h0 ⊢
    omega
theorem rd_all {s : ByteArray} (h : dgsB s = true) : rd s s.size = min ((valN 0 s.data.toList : Nat) : Int) 400000 := by
  have := rd_val (s := s) (Nat.le_refl _) h
  rwa [List.take_of_length_le (by simp)] at this
/-- The number as the reference has it: no greater than 200001. -/
def rs (s : ByteArray) : Int := min ((valN 0 s.data.toList : Nat) : Int) 200001
/-! ## Lines -/
def lnOk (p : ByteArray) : Bool := cO 32 p && (szOk (cR 32 p) && decide (cL 32 p ≠ ⟨#[]⟩))
theorem lnOk_iff (p : ByteArray) : lnOk p = true ↔ cO 32 p = true ∧ szOk (cR 32 p) = true ∧ cL 32 p ≠ ⟨#[]⟩ := by simp [lnOk]
/-- The line as the reference looks at it. -/
def lnR (p : ByteArray) : Prop := (pcs p ⟨#[32]⟩).length = 2 ∧ (pcs p ⟨#[32]⟩).getD 0 ⟨#[]⟩ ≠ ⟨#[]⟩ ∧ (pcs p ⟨#[32]⟩).getD 1 ⟨#[]⟩ ≠ ⟨#[]⟩ ∧ trimV ((pcs p ⟨#[32]⟩).getD 1 ⟨#[]⟩) tabD = ⟨#[]⟩ ∧ ¬ (1 < ((pcs p ⟨#[32]⟩).getD 1 ⟨#[]⟩).size ∧ (bAt ((pcs p ⟨#[32]⟩).getD 1 ⟨#[]⟩) 0).toNat = 48)
theorem dgs_trim (s : ByteArray) : trimV s tabD = ⟨#[]⟩ ↔ dgsB s = true := by
  rw [trimV_nil]
  unfold dgsB
  rw [allN_iff]
  refine forall_congr' fun k => forall_congr' fun hk => ?_
  rw [← (dg_idx (bAt s k)).2.2.2]
  rfl
theorem one_b {s : ByteArray} (h0 : s ≠ ⟨#[]⟩) (h1 : ¬ 1 < s.size) : s = ⟨#[bAt s 0]⟩ := by
  have hz : s.size = 1 := by
    rcases Nat.eq_zero_or_pos s.size with h | h
    · exact absurd (ByteArray.ext (Array.eq_empty_of_size_eq_zero h)) h0
    · omega
  obtain ⟨⟨l⟩⟩ := s
  match l, hz with
  | [b], _ => rfl
theorem no32 {s : ByteArray} (h : dgsB s = true) : cO 32 s = false := by
  cases hc : cO 32 s
  · rfl
  · exfalso
    unfold cO Lib.cut at hc
    split at hc
    · rename_i hi
      have e0 : Lib.index s.data.toList [32] = Lib.indexByte s.data.toList 32 := Lib.index_one _ _
      rw [e0] at hi
      have hs := (Lib.indexByte_some (show Lib.indexByte s.data.toList 32 = ((Lib.indexByte s.data.toList 32).toNat : Int) by omega)).1
      obtain ⟨hlt, hg⟩ := List.getElem?_eq_some_iff.1 hs
      have h3 := of_decide_eq_true (allN_iff.1 h _ (by simpa using hlt))
      have : bAt s (Lib.indexByte s.data.toList 32).toNat = 32 := by
        show s.data.toList.getD _ 0 = 32
        rw [List.getD_eq_getElem?_getD, hs, Option.getD_some]
      unfold dgC at h3
      rw [this] at h3
      exact absurd h3 (by decide)
    · cases hc
theorem ln_iff (p : ByteArray) : lnOk p = true ↔ lnR p := by
  rw [lnOk_iff]
  unfold lnR
  cases hc : cO 32 p
  · rw [pcs_no hc]
    simp
  · rw [pcs_yes hc]
    constructor
    · rintro ⟨_, h2, h3⟩
      obtain ⟨g1, g2, g3⟩ := (szOk_iff _).1 h2
      rw [pcs_no (no32 g3)]
      refine ⟨rfl, h3, g1, (dgs_trim _).2 g3, fun ⟨q1, q2⟩ => g2 ⟨q2, fun e => ?_⟩⟩
      have q1 : 1 < (cR 32 p).size := q1
      rw [e] at q1
      exact absurd q1 (by decide)
    · rintro ⟨h1, h2, h3, h4, h5⟩
      have hl : (pcs (cR 32 p) ⟨#[32]⟩).length = 1 := by simpa using h1
      have hc2 : cO 32 (cR 32 p) = false := by
        cases hc2 : cO 32 (cR 32 p)
        · rfl
        · rw [pcs_yes hc2, List.length_cons] at hl
          have := pcs_ne (cR 32 (cR 32 p)) 32
          omega
      rw [pcs_no hc2] at h3 h4 h5
      have h3 : cR 32 p ≠ ⟨#[]⟩ := h3
      have h5 : ¬ (1 < (cR 32 p).size ∧ (bAt (cR 32 p) 0).toNat = 48) := h5
      refine ⟨rfl, (szOk_iff _).2 ⟨h3, fun ⟨q1, q2⟩ => ?_, (dgs_trim _).1 h4⟩, h2⟩
      by_cases hz : 1 < (cR 32 p).size
      · exact h5 ⟨hz, q1⟩
      · refine q2 ?_
        have e := one_b h3 hz
        have : bAt (cR 32 p) 0 = 48 := UInt8.toNat_inj.1 q1
        rw [this] at e
        exact e
/-- The line's pieces, where it is right. -/
theorem ln_pcs {p : ByteArray} (h : lnOk p = true) : pcs p ⟨#[32]⟩ = [cL 32 p, cR 32 p] := by
  obtain ⟨h1, h2, _⟩ := (lnOk_iff p).1 h
  rw [pcs_yes h1, pcs_no (no32 ((szOk_iff _).1 h2).2.2)]
/-! ## Sums -/
def szP (p : ByteArray) : Int := rd (cR 32 p) (cR 32 p).size
def szR (p : ByteArray) : Int := rs (cR 32 p)
/-- The sums of the first sizes, no greater than 400000; as the reference has them. -/
def sm (ls : List ByteArray) : Nat → Int
  | 0 => 0
  | k + 1 => min (sm ls k + szP (ls.getD k ⟨#[]⟩)) 400000
def sR (ls : List ByteArray) : Nat → Int
  | 0 => 0
  | k + 1 => sR ls k + szR (ls.getD k ⟨#[]⟩)
theorem sz_b {p : ByteArray} (h : lnOk p = true) : 0 ≤ szP p ∧ szP p ≤ 400000 ∧ 0 ≤ szR p ∧ szR p ≤ 200001 ∧ (szP p ≤ 200000 → szR p = szP p) ∧ (200000 < szP p → szR p = 200001) := by
  have h2 := ((szOk_iff _).1 ((lnOk_iff p).1 h).2.1).2.2
  have e := rd_all h2
  unfold szP szR rs
  rw [e]
  omega
theorem sm_cases {ls : List ByteArray} : ∀ {k : Nat}, k ≤ ls.length → (∀ i, i < k → lnOk (ls.getD i ⟨#[]⟩) = true) → 0 ≤ sm ls k ∧ sm ls k ≤ 400000 ∧ 0 ≤ sR ls k ∧ sR ls k ≤ 200001 * k ∧ ((sm ls k ≤ 200000 ∧ sR ls k = sm ls k) ∨ (200000 < sm ls k ∧ 200000 < sR ls k))
  | 0, _, _ => ⟨by simp [sm], by simp [sm], by simp [sR], by simp [sR], .inl ⟨by simp [sm], by simp [sm, sR]⟩⟩
  | k + 1, hk, h => by
    obtain ⟨h1, h2, h3, h4, h5⟩ := sm_cases (ls := ls) (k := k) (by omega) (fun i hi => h i (by omega))
    obtain ⟨g1, g2, g3, g4, g5, g6⟩ := sz_b (h k (by omega))
    have e1 : sm ls (k + 1) = min (sm ls k + szP (ls.getD k ⟨#[]⟩)) 400000 := rfl
    have e2 : sR ls (k + 1) = sR ls k + szR (ls.getD k ⟨#[]⟩) := rfl
    rw [e1, e2]
    refine ⟨by omega, by omega, by omega, by omega, ?_⟩
    by_cases hz : szP (ls.getD k ⟨#[]⟩) ≤ 200000
    · have := g5 hz
      omega
    · have := g6 (by omega)
      omega
theorem sR_mono {ls : List ByteArray} (h : ∀ i, i < ls.length → lnOk (ls.getD i ⟨#[]⟩) = true) {j : Nat} : ∀ {k : Nat}, j ≤ k → k ≤ ls.length → sR ls j ≤ sR ls k
  | 0, hj, _ => by obtain rfl : j = 0 := by omega
                   exact Int.le_refl _
  | k + 1, hj, hk => by
    rcases Nat.lt_or_ge j (k + 1) with hlt | hge
    · have := sR_mono h (j := j) (k := k) (by omega) (by omega)
      have g := (sz_b (h k (by omega))).2.2.1
      have e2 : sR ls (k + 1) = sR ls k + szR (ls.getD k ⟨#[]⟩) := rfl
      omega
    · obtain rfl : j = k + 1 := by omega
      exact Int.le_refl _
/-! ## All -/
structure Bun where
  ps : List ByteArray
  es : List Int
  e : Int
def errB (e : Int) : Bun := ⟨[], [], e⟩
/-- The first line from k on that is wrong. -/
def allOk (ls : List ByteArray) : Bool := allN ls.length (fun i => lnOk (ls.getD i ⟨#[]⟩))
def psP (ls : List ByteArray) : List ByteArray := ls.map (cL 32)
def esP (ls : List ByteArray) (k : Nat) : List Int := (List.range k).map (fun i => sm ls (i + 1))
theorem esP_s (ls : List ByteArray) (k : Nat) : esP ls (k + 1) = esP ls k ++ [sm ls (k + 1)] := by unfold esP; rw [List.range_succ, List.map_append]; rfl
theorem esP_len (ls : List ByteArray) (k : Nat) : (esP ls k).length = k := by simp [esP]
/-- The lines ahead of the last line feed. -/
def lnsP (s : ByteArray) : List ByteArray := (pcs s ⟨#[10]⟩).dropLast
def lastP (s : ByteArray) : ByteArray := (pcs s ⟨#[10]⟩).getD ((pcs s ⟨#[10]⟩).length - 1) ⟨#[]⟩
def readM (s : ByteArray) : Bun :=
  if 20000 < s.size then errB 4
  else if lastP s ≠ ⟨#[]⟩ ∨ allOk (lnsP s) = false then errB 8
  else if 40 < (lnsP s).length ∨ 200000 < sm (lnsP s) (lnsP s).length then errB 4
  else if pfE (psP (lnsP s)) 0 ≠ 0 then errB (pfE (psP (lnsP s)) 0)
  else ⟨psP (lnsP s), esP (lnsP s) (lnsP s).length, 0⟩
end md
end Go.Proofs.YtiiohopjkepkgaaGreatDoor
namespace Go.Proofs.YtiiohopjkepkgaaGreatDoor
open Go.RowKit
set_option linter.unusedVariables false
set_option linter.unusedSimpArgs false
namespace md
open mp32
/-- What the variable strconv.ErrRange holds is an error. -/
def ER (w : World) : Prop := ∃ ev, w.cell? ⟨2, 0, none⟩ = some ev ∧ (ev = .nilIface ∨ ∃ te pe, ev = .iface te pe)
theorem parse_raw (t : ByteArray) (hne : t.size ≠ 0) (hmax : t.size ≤ 1000000) (hd : ∀ k, k < t.size → 0 ≤ dgN (t.data.toList.getD k 0).toNat) (w : World) (hE : ER w) :
    Calls Tryz.prog 46 #[.string t, .int .i64 32, .int .i64 64] w fun e w' => (∃ x, e = .returned x ∧ if valN 0 t.data.toList < 9223372036854775808 then x = .tuple #[.int .i64 (valN 0 t.data.toList), .nilIface] else ∃ N, x = .tuple #[.int .i64 9223372036854775807, .iface 263 (.pointer (some ⟨N, 0, none⟩))]) ∧ Below w.heap.size w w' := by
  obtain ⟨ev, hv, hev⟩ := hE
  have hI := pi32 t hne hmax hd w
  have hbel := Lib.bytesWorld_below w 5 t
  have e1 : ∀ args w, (callFunc 97 args).run Tryz.prog w = .ok (.enter 97 args) w := enters_of Tryz.func97 (by kernel_rfl) rfl
  have e2 : ∀ args w, (callFunc 98 args).run Tryz.prog w = .ok (.enter 98 args) w := enters_of Tryz.func98 (by kernel_rfl) rfl
  generalize valN 0 t.data.toList = u at hI ⊢
  have hv2 : (Lib.bytesWorld w 5 t).cell? ⟨2, 0, none⟩ = some ev := (hbel.cell (p := ⟨2, 0, none⟩) (World.block_lt_of_cell? _ _ hv)).trans hv
  generalize Lib.bytesWorld w 5 t = W1 at hI hbel hv2
  unfold outI at hI
  by_cases h : u < 9223372036854775808
  · rw [if_pos h] at hI
    simp only [if_pos h]
    obtain ⟨a, ha⟩ : ∃ a : Int, a = (u : Int) := ⟨_, rfl⟩
    rw [← ha] at hI ⊢
    clear h ha
    go_enter Tryz.func46, Tryz.ntmps46
    go_wp2_with (go_at_fn 97; refine hI.mono ?_; rintro e w1 ⟨rfl, rfl⟩)
    go_wp2
    go_ret2
    exact ⟨⟨_, rfl, rfl⟩, hbel⟩
  · rw [if_neg h] at hI
    simp only [if_neg h]
    clear h
    have hT := Tryz.strconv_toError_range (⟨#[80, 97, 114, 115, 101, 73, 110, 116]⟩ : ByteArray) t 32 64 ev W1 (by omega) hv2 hev
    go_enter Tryz.func46, Tryz.ntmps46
    go_wp2_with (go_at_fn 97; refine hI.mono ?_; rintro e w1 ⟨rfl, rfl⟩)
    go_wp2_with (go_at_fn 98; refine hT.mono ?_; rintro e w2 ⟨N, rfl, h1, h2, h3⟩)
    go_wp2
    go_ret2
    exact ⟨⟨_, rfl, N, rfl⟩, hbel.trans (h3.mono hbel.size)⟩
section
variable (E : Env)
set_option maxRecDepth 100000
/-- An error: something that is not nil. -/
def dErr : DD := .ifc 263 .opq
theorem parse_sp (hE : ∀ w, E.G w → ER w) (s : ByteArray) (h0 : s ≠ ⟨#[]⟩) (hs : s.size ≤ 1000000) (hd : dgsB s = true) : Sp (cx Tryz.prog mixed tyT_ok E) 46 [dS s, i64 32, i64 64] (if valN 0 s.data.toList < 9223372036854775808 then .tup [i64 (valN 0 s.data.toList), .v .nilIface] else .tup [i64 9223372036854775807, dErr]) := by
  have hsz : s.size ≠ 0 := fun h => h0 (ByteArray.ext (Array.eq_empty_of_size_eq_zero h))
  refine Sp.of_new (vs := [.string s, .int .i64 32, .int .i64 64]) ⟨_, _, Tryz.func46, by kernel_rfl, rfl⟩ ?_
  intro w hG hok
  have key := parse_raw s hsz hs (fun k hk => of_decide_eq_true (allN_iff.1 hd k hk)) w (hE w hG)
  refine key.mono fun e w' ⟨⟨x, he, hx⟩, hw⟩ => ?_
  refine ⟨x, he, hw, fun M β => ?_⟩
  split
  · rename_i h
    rw [if_pos h] at hx
    subst hx
    refine .tup rfl (fun i d hi => ?_)
    match i, hi with
    | 0, hi =>
      obtain rfl : _ = d := by simpa using hi
      exact .v rfl
    | 1, hi =>
      obtain rfl : _ = d := by simpa using hi
      exact .v rfl
  · rename_i h
    rw [if_neg h] at hx
    obtain ⟨N, rfl⟩ := hx
    refine .tup rfl (fun i d hi => ?_)
    match i, hi with
    | 0, hi =>
      obtain rfl : _ = d := by simpa using hi
      exact .v rfl
    | 1, hi =>
      obtain rfl : _ = d := by simpa using hi
      exact .ifc .opq
end
end md
end Go.Proofs.YtiiohopjkepkgaaGreatDoor
namespace Go.Proofs.YtiiohopjkepkgaaGreatDoor
open Go.RowKit
set_option linter.unusedVariables false
set_option linter.unusedSimpArgs false
namespace md
open mp32
theorem szOk_no1 {s : ByteArray} (h : s = ⟨#[]⟩) : szOk s = false := by
  cases hs : szOk s
  · rfl
  · exact absurd h ((szOk_iff s).1 hs).1
theorem szOk_no2 {s : ByteArray} (h : (((bAt s (0 : Int).toNat).toNat : Nat) : Int) = 48) (h2 : ¬ s = ⟨#[48]⟩) : szOk s = false := by
  cases hs : szOk s
  · rfl
  · refine absurd ⟨?_, h2⟩ ((szOk_iff s).1 hs).2.1
    have : (bAt s (0 : Int).toNat).toNat = 48 := by omega
    exact this
theorem szOk_no3 {s : ByteArray} {k : Nat} (hk : k < s.size) (h : dgC s k < 0) : szOk s = false := by
  cases hs : szOk s
  · rfl
  · have := of_decide_eq_true (allN_iff.1 ((szOk_iff s).1 hs).2.2 k hk)
    omega
theorem szOk_yes {s : ByteArray} (h0 : ¬ s = ⟨#[]⟩) (h1 : ¬ ((((bAt s (0 : Int).toNat).toNat : Nat) : Int) = 48 ∧ ¬ s = ⟨#[48]⟩)) (h2 : allN s.size (fun k => decide (0 ≤ dgC s k)) = true) : szOk s = true :=
  (szOk_iff s).2 ⟨h0, fun ⟨a, b⟩ => h1 ⟨by have a : (bAt s (0 : Int).toNat).toNat = 48 := a; omega, b⟩, h2⟩
section
variable (E : Env)
set_option maxRecDepth 100000
theorem index32_sp (c : UInt8) : Sp (cx Tryz.prog mixed tyT_ok E) 87 [dS tabD, .v (.int .u8 (c.toNat : Int))] (i64 (dgN c.toNat)) :=
  Sp.of_v (vs := [.string tabD, .int .u8 (c.toNat : Int)]) ⟨_, _, Tryz.func87, by kernel_rfl, rfl⟩ rfl (fun w _ => (Tryz.strings_IndexByte tabD (c.toNat : Int) w).mono fun e w' ⟨he, hb⟩ => ⟨by rw [he, ← (dg_idx c).1]; simp, hb ▸ Below.refl _ _⟩)
theorem read32_sp (s : ByteArray) (hs : s.size ≤ 1000000) : Sp (cx Tryz.prog mixed tyT_ok E) 42 [dS s] (.tup [i64 (if szOk s = true then rd s s.size else 0), dB (szOk s)]) := by
  refine Sp.body Tryz.func42 (by kernel_rfl) rfl (by kernel_rfl) (by kernel_rfl) (by kernel_rfl) ?_
  repeat' first
    | (refine codeW_cond rfl ?_; first | (refine condW_dec ?_ ?_ <;> intro _ <;> try (exfalso; omega)) | refine condW_not ?_ | (refine condW_bool ?_ ?_ <;> intro _ <;> try (exfalso; omega)))
    | (refine facW_intro ?_; intro _)
    | refine Or.inl ?_
    | ((conv => whnf); first | (refine condW_dec ?_ ?_ <;> intro _ <;> try (exfalso; omega)) | refine condW_not ?_ | (refine condW_bool ?_ ?_ <;> intro _ <;> try (exfalso; omega)) | (refine nbC_t (fun _ => ?_) ?_) | (refine nbC_f ?_ (fun _ => ?_)))
    | refine And.intro (by first | omega | (simp only [Int.toNat_natCast] at *; omega) | (simp only [Nat.reduceAdd, Int.cast_ofNat_Int, true_and, and_true]; omega) | kernel_rfl) ?_
    | refine RegW.run ?_
    | fail
  all_goals try (have hp0 := str_pos (s := s) (by assumption))
  all_goals
    repeat' first
      | (refine codeW_cond rfl ?_; first | (refine condW_dec ?_ ?_ <;> intro _ <;> try (exfalso; omega)) | refine condW_not ?_ | (refine condW_bool ?_ ?_ <;> intro _ <;> try (exfalso; omega)))
      | (refine facW_intro ?_; intro _)
      | refine Or.inl ?_
      | ((conv => whnf); first | (refine condW_dec ?_ ?_ <;> intro _ <;> try (exfalso; omega)) | refine condW_not ?_ | (refine condW_bool ?_ ?_ <;> intro _ <;> try (exfalso; omega)) | (refine nbC_t (fun _ => ?_) ?_) | (refine nbC_f ?_ (fun _ => ?_)))
      | refine And.intro (by first | omega | (simp only [Int.toNat_natCast] at *; omega) | (simp only [Nat.reduceAdd, Int.cast_ofNat_Int, true_and, and_true]; omega) | kernel_rfl) ?_
      | refine RegW.run ?_
      | fail
  all_goals first
    | (rw [show szOk s = false by first | exact szOk_no1 (by assumption) | exact szOk_no2 (by assumption) (by assumption)]
       exact Dle.refl _ _)
    | skip
  all_goals
    refine ⟨Nat, fun k => [(5, i64 k), (4, i64 (rd s k))], fun k => [], [], fun k => [], fun k => k ≤ s.size ∧ allN k (fun i => decide (0 ≤ dgC s i)) = true, fun k => s.size - k, ⟨0, ⟨Nat.zero_le _, rfl⟩, ⟨[], ⟨by kernel_rfl, by kernel_rfl, by kernel_rfl, by kernel_rfl, by kernel_rfl, by kernel_rfl, by kernel_rfl⟩, (by repeat' first | exact trivial | exact rfl | kernel_rfl | exact Dle.of_eq rfl | exact MLe.of_eq rfl | exact Dle.i (by omega) | exact Dle.i (by simp only [Int.toNat_natCast] at *; omega) | exact Dle.nil | exact Dle.rc Dle.nil | exact Option.some_ne_none _ | exact Or.inl rfl | exact Or.inr trivial | omega | (simp only [Int.toNat_natCast] at *; omega) | (intro _ _ _ _; exact Dle.of_eq rfl) | refine And.intro ?_ ?_)⟩⟩, fun k hk => ?_⟩
    obtain ⟨g1, g2⟩ := hk
    have hb := rd_b g2
    have hd := dgC_le s k
    have e1 : rd s (k + 1) = min (32 * rd s k + dgC s k) 400000 := rfl
    have h1 := index32_sp E (bAt s ((k : Int)).toNat)
    have e2 : dgN (bAt s ((k : Int)).toNat).toNat = dgC s k := rfl
    rw [e2] at h1
    by_cases hlt : k < s.size
    · by_cases hng : dgC s k < 0
      · repeat' first
          | (refine codeW_cond rfl ?_; first | (refine condW_dec ?_ ?_ <;> intro _ <;> try (exfalso; omega)) | refine condW_not ?_ | (refine condW_bool ?_ ?_ <;> intro _ <;> try (exfalso; omega)))
          | (refine facW_intro ?_; intro _)
          | refine Or.inl ?_
          | ((conv => whnf); first | (refine condW_dec ?_ ?_ <;> intro _ <;> try (exfalso; omega)) | refine condW_not ?_ | (refine condW_bool ?_ ?_ <;> intro _ <;> try (exfalso; omega)) | (refine nbC_t (fun _ => ?_) ?_) | (refine nbC_f ?_ (fun _ => ?_)))
          | refine And.intro (by first | omega | (simp only [Int.toNat_natCast] at *; omega) | (simp only [Nat.reduceAdd, Int.cast_ofNat_Int, true_and, and_true]; omega) | kernel_rfl) ?_
          | refine RegW.run ?_
          | refine ⟨_, h1, ?_⟩
          | fail
        all_goals first
          | (exfalso; omega)
          | (rw [szOk_no3 hlt hng]; exact Dle.refl _ _)
          | trace_state
      · repeat' first
          | (refine codeW_cond rfl ?_; first | (refine condW_dec ?_ ?_ <;> intro _ <;> try (exfalso; omega)) | refine condW_not ?_ | (refine condW_bool ?_ ?_ <;> intro _ <;> try (exfalso; omega)))
          | (refine facW_intro ?_; intro _)
          | refine Or.inl ?_
          | ((conv => whnf); first | (refine condW_dec ?_ ?_ <;> intro _ <;> try (exfalso; omega)) | refine condW_not ?_ | (refine condW_bool ?_ ?_ <;> intro _ <;> try (exfalso; omega)) | (refine nbC_t (fun _ => ?_) ?_) | (refine nbC_f ?_ (fun _ => ?_)))
          | refine And.intro (by first | omega | (simp only [Int.toNat_natCast] at *; omega) | (simp only [Nat.reduceAdd, Int.cast_ofNat_Int, true_and, and_true]; omega) | kernel_rfl) ?_
          | refine RegW.run ?_
          | refine ⟨_, h1, ?_⟩
          | fail
        all_goals first
          | (exfalso; omega)
          | exact ⟨k + 1, ⟨by omega, allN_succ g2 (decide_eq_true (by omega))⟩, ⟨[], ⟨by kernel_rfl, by kernel_rfl, by kernel_rfl, by kernel_rfl, by kernel_rfl, by kernel_rfl, by kernel_rfl⟩, (by repeat' first | exact trivial | exact rfl | kernel_rfl | exact Dle.of_eq rfl | exact MLe.of_eq rfl | exact Dle.i (by omega) | exact Dle.i (by simp only [Int.toNat_natCast] at *; omega) | exact Dle.nil | exact Dle.rc Dle.nil | exact Option.some_ne_none _ | exact Or.inl rfl | exact Or.inr trivial | omega | (simp only [Int.toNat_natCast] at *; omega) | (intro _ _ _ _; exact Dle.of_eq rfl) | refine And.intro ?_ ?_)⟩, by first | omega | (dsimp only; omega)⟩
          | trace_state
    · obtain rfl : k = s.size := by omega
      have hok : szOk s = true := szOk_yes (by assumption) (by first | (rintro ⟨-, h2⟩; exact h2 (by assumption)) | (rintro ⟨h2, -⟩; exact absurd h2 (by assumption))) g2
      repeat' first
        | (refine codeW_cond rfl ?_; first | (refine condW_dec ?_ ?_ <;> intro _ <;> try (exfalso; omega)) | refine condW_not ?_ | (refine condW_bool ?_ ?_ <;> intro _ <;> try (exfalso; omega)))
        | (refine facW_intro ?_; intro _)
        | refine Or.inl ?_
        | ((conv => whnf); first | (refine condW_dec ?_ ?_ <;> intro _ <;> try (exfalso; omega)) | refine condW_not ?_ | (refine condW_bool ?_ ?_ <;> intro _ <;> try (exfalso; omega)) | (refine nbC_t (fun _ => ?_) ?_) | (refine nbC_f ?_ (fun _ => ?_)))
        | refine And.intro (by first | omega | (simp only [Int.toNat_natCast] at *; omega) | (simp only [Nat.reduceAdd, Int.cast_ofNat_Int, true_and, and_true]; omega) | kernel_rfl) ?_
        | refine RegW.run ?_
        | fail
      all_goals first
        | (rw [hok, if_pos rfl]; exact Dle.refl _ _)
        | trace_state
end
end md
end Go.Proofs.YtiiohopjkepkgaaGreatDoor
