/-
  A string's parts between points, found by going along it: plain law. Sorted keys and searches; numbers of routes: plain law. Routes: strings.Split, strconv.Atoi by data; the reference's digitsAlone, RouteParts.
-/
import Derived.Test.YthoemnhigboahaaGreatDoorN2
import Derived.Lib.SplitLaws
import Derived.Lib.CutLaws
import Derived.Lib.AtoiAll
import Derived.Test.YthoemnhigboahaaGreatDoorPV
import Derived.Test.YthoemnhigboahaaGreatDoorQ7
import Derived.Test.YthoemnhigboahaaGreatDoorQ8
import Derived.Lib.SmallJoins
namespace Go.Proofs.YthoemnhigboahaaGreatDoor
open Go.RowKit
set_option linter.unusedVariables false
def pcs (s sep : ByteArray) : List ByteArray := Lib.splitB sep 0 (Lib.countB s sep) s
theorem pcs_size (sep : ByteArray) : ∀ (k : Nat) (s x : ByteArray), x ∈ Lib.splitB sep 0 k s → x.size ≤ s.size
  | 0, s, x, h => by
    rw [Lib.splitB_zero] at h
    simp at h
    rw [h]
    exact Nat.le_refl _
  | k + 1, s, x, h => by
    unfold Lib.splitB at h
    split at h
    · simp at h
      rw [h]
      exact Nat.le_refl _
    · rcases List.mem_cons.1 h with h | h
      · rw [h, ByteArray.size_extract]
        omega
      · have := pcs_size sep k _ x h
        rw [ByteArray.size_extract] at this
        omega
theorem pcs_le {s sep x : ByteArray} (h : x ∈ pcs s sep) : x.size ≤ s.size := pcs_size _ _ _ _ h
theorem pcs_len (s sep : ByteArray) (h1 : 1 ≤ sep.size) : (pcs s sep).length = Lib.countB s sep + 1 := Lib.splitB_all sep h1 0 _ s rfl
theorem pcs_len_le (s : ByteArray) : (pcs s ⟨#[46]⟩).length ≤ s.size + 1 := by
  rw [pcs_len s _ (by decide)]
  have := Lib.countB_le ⟨#[46]⟩ (by decide) _ s (Nat.le_refl _)
  omega
def scan (s : ByteArray) (f i : Nat) : List ByteArray :=
  if i < s.size then (if bAt s i = 46 then s.extract f i :: scan s (i + 1) (i + 1) else scan s f (i + 1)) else [s.extract f s.size]
  termination_by s.size - i
theorem scan_end {s : ByteArray} {f i : Nat} (h : ¬ i < s.size) : scan s f i = [s.extract f s.size] := by rw [scan, if_neg h]
theorem scan_dot {s : ByteArray} {f i : Nat} (h : i < s.size) (h2 : bAt s i = 46) : scan s f i = s.extract f i :: scan s (i + 1) (i + 1) := by rw [scan, if_pos h, if_pos h2]
theorem scan_next {s : ByteArray} {f i : Nat} (h : i < s.size) (h2 : ¬ bAt s i = 46) : scan s f i = scan s f (i + 1) := by rw [scan, if_pos h, if_neg h2]
theorem ext_at (s : ByteArray) (f k : Nat) (h : f + k < s.size) : (s.extract f s.size).data.toList[k]? = some (bAt s (f + k)) := by
  unfold bAt
  have e : (s.extract f s.size).data.toList = s.data.toList.drop f := by
    simp [ByteArray.data_extract]
    exact List.take_of_length_le (by simp)
  rw [e, List.getElem?_drop, List.getD]
  have : f + k < s.data.toList.length := by simpa using h
  rw [List.getElem?_eq_getElem this]
  rfl
theorem ext_ext (s : ByteArray) (a b : Nat) : (s.extract a s.size).extract b (s.extract a s.size).size = s.extract (a + b) s.size := by
  apply ByteArray.ext
  simp only [ByteArray.data_extract, Array.extract_extract, ByteArray.size_extract]
  congr 1
  omega
theorem ext_pre (s : ByteArray) (a b : Nat) (h : a + b ≤ s.size) : (s.extract a s.size).extract 0 b = s.extract a (a + b) := by
  apply ByteArray.ext
  simp only [ByteArray.data_extract, Array.extract_extract]
  congr 1
  omega
theorem scan_pcs (s : ByteArray) : ∀ (n f i : Nat), s.size - i < n → f ≤ i → i ≤ s.size → (∀ k, f ≤ k → k < i → ¬ bAt s k = 46) → scan s f i = pcs (s.extract f s.size) ⟨#[46]⟩
  | 0, f, i, h, _, _, _ => by omega
  | n + 1, f, i, h, hf, hi, hno => by
    rcases Nat.lt_or_ge i s.size with h1 | h1
    · by_cases h2 : bAt s i = 46
      · rw [scan_dot h1 h2]
        have hx : Lib.indexB (s.extract f s.size) ⟨#[46]⟩ = ((i - f : Nat) : Int) := by
          rw [show Lib.indexB (s.extract f s.size) ⟨#[46]⟩ = Lib.indexByte (s.extract f s.size).data.toList 46 from Lib.index_one _ _]
          have h3 := ext_at s f (i - f) (by omega)
          rw [show f + (i - f) = i by omega, h2] at h3
          have hc := Lib.indexB_cases (s.extract f s.size) ⟨#[46]⟩
          rw [show Lib.indexB (s.extract f s.size) ⟨#[46]⟩ = Lib.indexByte (s.extract f s.size).data.toList 46 from Lib.index_one _ _] at hc
          rcases hc with h4 | ⟨o, h4, h5⟩
          · exact absurd h3 (Lib.indexByte_none h4 _)
          · rw [h4]
            obtain ⟨h6, h7⟩ := Lib.indexByte_some h4
            rcases Nat.lt_trichotomy o (i - f) with h8 | h8 | h8
            · rw [ext_at s f o (by omega)] at h6
              injection h6 with h6
              exact absurd h6 (hno _ (by omega) (by omega))
            · rw [h8]
            · exact absurd h3 (h7 _ h8)
        unfold pcs
        rw [Lib.countB_hit _ _ _ (by decide) hx, Nat.add_comm 1, Lib.splitB_hit _ _ _ _ _ hx]
        have e1 : (s.extract f s.size).extract 0 (i - f + 0) = s.extract f i := by rw [Nat.add_zero, ext_pre s f (i - f) (by omega), show f + (i - f) = i by omega]
        have e2 : (s.extract f s.size).extract (i - f + (⟨#[46]⟩ : ByteArray).size) (s.extract f s.size).size = s.extract (i + 1) s.size := by
          rw [ext_ext, show f + (i - f + (⟨#[46]⟩ : ByteArray).size) = i + 1 by show f + (i - f + 1) = i + 1; omega]
        rw [e1, e2]
        congr 1
        exact scan_pcs s n (i + 1) (i + 1) (by omega) (Nat.le_refl _) (by omega) (fun k h3 h4 => by omega)
      · rw [scan_next h1 h2]
        refine scan_pcs s n f (i + 1) (by omega) (by omega) (by omega) (fun k h3 h4 => ?_)
        rcases Nat.lt_or_ge k i with h5 | h5
        · exact hno k h3 h5
        · obtain rfl : k = i := by omega
          exact h2
    · rw [scan_end (by omega)]
      have hx : Lib.indexB (s.extract f s.size) ⟨#[46]⟩ = -1 := by
        have hc := Lib.indexB_cases (s.extract f s.size) ⟨#[46]⟩
        rw [show Lib.indexB (s.extract f s.size) ⟨#[46]⟩ = Lib.indexByte (s.extract f s.size).data.toList 46 from Lib.index_one _ _] at hc ⊢
        rcases hc with h4 | ⟨o, h4, h5⟩
        · exact h4
        · exfalso
          obtain ⟨h6, _⟩ := Lib.indexByte_some h4
          have h5 : o + 1 ≤ (s.extract f s.size).size := h5
          rw [ByteArray.size_extract] at h5
          rw [ext_at s f o (by omega)] at h6
          injection h6 with h6
          exact absurd h6 (hno _ (by omega) (by omega))
      unfold pcs
      rw [Lib.countB_miss _ _ hx, Lib.splitB_zero]
theorem scan_all (s : ByteArray) : scan s 0 0 = pcs s ⟨#[46]⟩ := by
  rw [scan_pcs s (s.size + 1) 0 0 (by omega) (Nat.le_refl _) (Nat.zero_le _) (fun k h3 h4 => by omega)]
  have : s.extract 0 s.size = s := by
    apply ByteArray.ext
    simp
  rw [this]
end Go.Proofs.YthoemnhigboahaaGreatDoor
namespace Go.Proofs.YthoemnhigboahaaGreatDoor
open Go.RowKit
set_option linter.unusedVariables false

theorem toL_ext {a b : ByteArray} (h : a.toList = b.toList) : a = b := by
  cases a with | mk a => cases b with | mk b =>
    simp only [ByteArray.toList_eq] at h
    exact congrArg _ (Array.toList_inj.1 h)
theorem less_iff : ∀ a b : List UInt8, Op.bytesLess a b = true ↔ a < b
  | _, [] => by simp [Op.bytesLess]
  | [], _ :: _ => by simp [Op.bytesLess]
  | a :: x, b :: y => by
    rw [Op.bytesLess, List.cons_lt_cons_iff, ← less_iff x y]
    simp
theorem strLt_iff (a b : ByteArray) : strLt a b = true ↔ a.toList < b.toList := by unfold strLt; exact less_iff _ _
theorem strLt_trans {a b c : ByteArray} (h : strLt a b = true) (g : strLt b c = true) : strLt a c = true := by
  rw [strLt_iff] at *
  exact List.lt_trans h g
theorem strLt_irrefl (a : ByteArray) : strLt a a = false := by
  cases e : strLt a a
  · rfl
  · rw [strLt_iff] at e
    exact absurd e (List.lt_irrefl _)
theorem strLt_total {a b : ByteArray} (h : strLt a b = false) (g : a ≠ b) : strLt b a = true := by
  rw [strLt_iff]
  have h : ¬ a.toList < b.toList := fun e => by rw [(strLt_iff a b).2 e] at h; cases h
  rcases List.le_iff_lt_or_eq.1 (List.not_lt.1 h) with h | e
  · exact h
  · exact absurd (toL_ext e).symm g
def Srt (l : List ByteArray) : Prop := ∀ i j, i < j → j < l.length → strLt (l.getD i ⟨#[]⟩) (l.getD j ⟨#[]⟩) = true
theorem srt_of {l : List ByteArray} (h : ∀ k, 0 < k → k < l.length → strLt (l.getD (k - 1) ⟨#[]⟩) (l.getD k ⟨#[]⟩) = true) : Srt l := by
  intro i j hij hj
  induction j with
  | zero => omega
  | succ j ih =>
    have h1 := h (j + 1) (by omega) hj
    rcases Nat.lt_or_ge i j with h2 | h2
    · exact strLt_trans (ih h2 (by omega)) h1
    · obtain rfl : i = j := by omega
      exact h1
def digB (c : UInt8) : Bool := decide (48 ≤ c.toNat) && decide (c.toNat ≤ 57)
theorem parse_ok : ∀ (l : List UInt8) (acc : Nat), l.all digB = true → l.length ≤ 10 → acc < 10 ^ (10 - l.length) → ∃ u, Lib.parseUint10 acc l = .ok u ∧ u < 10 ^ 10
  | [], acc, _, _, h => ⟨acc, rfl, by simpa using h⟩
  | c :: r, acc, h, hl, ha => by
    simp only [List.all_cons, Bool.and_eq_true, digB, decide_eq_true_eq] at h
    simp only [List.length_cons] at hl ha
    have h1 : 10 ^ (10 - r.length) = 10 * 10 ^ (10 - (r.length + 1)) := by
      rw [show 10 - r.length = (10 - (r.length + 1)) + 1 by omega, Nat.pow_succ, Nat.mul_comm]
    have h2 : 10 ^ (10 - (r.length + 1)) ≤ 10 ^ 9 := Nat.pow_le_pow_right (by omega) (by omega)
    obtain ⟨u, h3, h4⟩ := parse_ok r (acc * 10 + (c.toNat - 48)) (h.2) (by omega) (by omega)
    refine ⟨u, ?_, h4⟩
    rw [Lib.parseUint10, if_pos h.1, if_neg (by omega), if_neg (by omega)]
    exact h3
def numN (s : ByteArray) : Nat := match Lib.parseUint10 0 s.data.toList with | .ok v => v | _ => 0
theorem atoi_num {s : ByteArray} (h : s.data.toList.all digB = true) (h0 : 0 < s.size) (h1 : s.size ≤ 4) : Lib.atoiAll s.data.toList = .ok (numN s : Int) ∧ numN s < 10 ^ 10 := by
  have hl : s.data.toList.length = s.size := by simp
  obtain ⟨u, h2, h3⟩ := parse_ok s.data.toList 0 h (by omega) (Nat.pow_pos (by omega))
  have hn : numN s = u := by unfold numN; rw [h2]
  rw [hn]
  refine ⟨?_, h3⟩
  revert h h2
  match e : s.data.toList with
  | [] => rw [e] at hl; simp at hl; omega
  | c :: r =>
    intro h h2
    simp only [List.all_cons, Bool.and_eq_true, digB, decide_eq_true_eq] at h
    unfold Lib.atoiAll
    simp only
    rw [if_neg (by omega)]
    unfold Lib.parseMag
    rw [if_neg (by simp), h2]
    simp only
    rw [if_neg (by omega), if_neg (by omega), if_neg (by omega)]
end Go.Proofs.YthoemnhigboahaaGreatDoor
namespace Go.Proofs.YthoemnhigboahaaGreatDoor
open Go.RowKit
set_option linter.unusedVariables false
set_option linter.unusedSimpArgs false
theorem Sp.of_new {κ : Type} {X : Cx κ} {f : FuncId} {vs : List Value} {d : D κ} (he : Ent X.P f)
    (h : ∀ w, X.G w → (∀ y ∈ vs, okB y = true) → Calls X.P f vs.toArray w fun e w' => ∃ x, e = .returned x ∧ Below w.heap.size w w' ∧ ∀ (M : Nat → Nat → Prop) (β : Bt), Rep X.V (fun b o => M b o ∨ (w.heap.size ≤ b ∧ b < w'.heap.size)) w' β d x) : Sp X f (vs.map .v) d := by
  refine .inl ⟨he, fun M β w ws hG hMG hM hl hr hp hb => ?_⟩
  have hv : ∀ i (h3 : i < vs.length), ws.getD i undef = vs[i] ∧ okB vs[i] = true := fun i h3 => by
    have := hr i (.v vs[i]) (by simp [h3])
    exact this.val
  have hok : ∀ y ∈ vs, okB y = true := fun y hy => by
    obtain ⟨i, hi, rfl⟩ := List.getElem_of_mem hy
    exact (hv i hi).2
  have e : ws = vs.toArray := by
    apply Array.ext
    · simpa using hl
    · intro i h1 h2
      have h3 : i < vs.length := by simpa using h2
      have := (hv i h3).1
      simp [Array.getD, h1] at this
      simpa using this
  rw [e]
  exact (h w hG hok).mono fun e w' ⟨x, h1, h2, h3⟩ => ⟨x, _, β, h1, Kp.of h2 _, fun _ _ _ => rfl, fun _ _ h => .inl h, fun b o h => h.elim .inl fun h => .inr (.inr h), h3 M β, ⟨fun l o hm => (by cases hm), fun l o l' o' b c c' hm => (by cases hm)⟩, fun b ⟨l, o, c, hm, _⟩ => (by cases hm)⟩

def ML (w : World) : Prop := ∃ m : Int, w.cell? ⟨0, 0, none⟩ = some (.int .i64 m)
theorem ML.kp {w w' : World} (h : ML w) (hk : Kp (0 + 1) noS w w') : ML w' := by
  obtain ⟨m, h⟩ := h
  exact ⟨m, (hk.cell (Nat.lt_succ_self _) (fun h => h)).trans h⟩
theorem ML.lt {w : World} (h : ML w) : 0 + 1 ≤ w.heap.size := by
  obtain ⟨m, h⟩ := h
  exact World.block_lt_of_cell? w ⟨_, 0, none⟩ h
@[irreducible] def digs (s : ByteArray) : Bool := allN s.size (fun k => digitB (bAt s k))
@[irreducible] def indexB (p : ByteArray) : Bool := decide (0 < p.size) && decide (p.size ≤ 4) && digs p && (!decide (bAt p 0 = 48) || decide (p = ⟨#[48]⟩))
def partOk (stars : Bool) (p : ByteArray) : Bool := keyOkB p || (stars && decide (p = ⟨#[42]⟩)) || indexB p
@[irreducible] def routeOk (stars : Bool) (s : ByteArray) : Bool := decide (s.size ≤ 400) && (decide (s = ⟨#[]⟩) || (pcs s ⟨#[46]⟩).all (partOk stars))
@[irreducible] def partsR (s : ByteArray) : List ByteArray := if s = ⟨#[]⟩ then [] else pcs s ⟨#[46]⟩
theorem dig_set : ∀ n : Fin 256, digitB (UInt8.ofNat n.val) = ([48, 49, 50, 51, 52, 53, 54, 55, 56, 57] : List UInt8).contains (UInt8.ofNat n.val) := by decide +kernel
@[irreducible] def dgB (s : ByteArray) : Bool := decide (¬ s = ⟨#[]⟩) && digs s
theorem dgB_pos {s : ByteArray} (h : dgB s = true) : 0 < s.size := by
  unfold dgB at h
  simp at h
  exact str_pos h.1
theorem idx_ref (p : ByteArray) : indexB p = true ↔ dgB p = true ∧ (p.size : Int) ≤ 4 ∧ (¬ (bAt p 0).toNat = 48 ∨ p = ⟨#[48]⟩) := by
  have hb : bAt p 0 = 48 ↔ (bAt p 0).toNat = 48 := ⟨fun h => by rw [h]; rfl, fun h => UInt8.toNat_inj.1 h⟩
  have hp : ¬ p = ⟨#[]⟩ ↔ 0 < p.size := ⟨str_pos, fun h e => by subst e; exact absurd h (by decide)⟩
  unfold dgB indexB
  simp only [Bool.and_eq_true, Bool.or_eq_true, Bool.not_eq_true', decide_eq_true_eq, decide_eq_false_iff_not, hb, hp]
  constructor
  · rintro ⟨⟨⟨h1, h2⟩, h3⟩, h4⟩
    exact ⟨⟨h1, h3⟩, by omega, h4⟩
  · rintro ⟨⟨h1, h3⟩, h2, h4⟩
    exact ⟨⟨⟨h1, by omega⟩, h3⟩, h4⟩
theorem idx_refno {p : ByteArray} (h : dgB p = false ∨ ¬ (p.size : Int) ≤ 4 ∨ ((bAt p 0).toNat = 48 ∧ ¬ p = ⟨#[48]⟩)) : indexB p = false := by
  cases e : indexB p
  · rfl
  · obtain ⟨h1, h2, h3⟩ := (idx_ref p).1 e
    rw [h1] at h
    rcases h with h | h | h
    · cases h
    · exact absurd h2 h
    · exact h3.elim (fun h4 => absurd h.1 h4) (fun h4 => absurd h4 h.2)
theorem key_part {stars : Bool} {p : ByteArray} (h : keyOkB p = true) : partOk stars p = true := by unfold partOk; rw [h]; rfl
theorem star_part {stars : Bool} {p : ByteArray} (h : stars = true) (h2 : p = ⟨#[42]⟩) : partOk stars p = true := by unfold partOk; rw [h, h2]; simp
theorem no_part {stars : Bool} {p : ByteArray} (h1 : keyOkB p = false) (h2 : stars = false ∨ ¬ p = ⟨#[42]⟩) (h3 : indexB p = false) : partOk stars p = false := by
  unfold partOk
  rw [h1, h3]
  rcases h2 with h2 | h2 <;> simp [h2]
theorem yes_part {stars : Bool} {p : ByteArray} (h3 : indexB p = true) : partOk stars p = true := by
  unfold partOk
  rw [h3]
  simp
theorem routeOk_long {stars : Bool} {s : ByteArray} (h : (400 : Int) < s.size) : routeOk stars s = false := by unfold routeOk; rw [decide_eq_false (by omega)]; rfl
theorem routeOk_nil {stars : Bool} {s : ByteArray} (h : s = ⟨#[]⟩) : routeOk stars s = true ∧ partsR s = [] := by subst h; unfold routeOk partsR; exact ⟨rfl, rfl⟩
theorem routeOk_all {stars : Bool} {s : ByteArray} (h : ¬ (400 : Int) < s.size) (h2 : ¬ s = ⟨#[]⟩) : routeOk stars s = (pcs s ⟨#[46]⟩).all (partOk stars) ∧ partsR s = pcs s ⟨#[46]⟩ := by
  unfold routeOk partsR
  rw [decide_eq_true (by omega), decide_eq_false h2, if_neg h2]
  exact ⟨rfl, rfl⟩
theorem all_end {stars : Bool} {ps : List ByteArray} {k : Nat} (h : allN k (fun i => partOk stars (ps.getD i ⟨#[]⟩)) = true) (hk : ps.length ≤ k) : ps.all (partOk stars) = true := by
  rw [List.all_eq_true]
  intro x hx
  obtain ⟨i, hi, rfl⟩ := List.getElem_of_mem hx
  have := allN_iff.1 h i (by omega)
  simpa [List.getD, hi] using this
theorem all_no {stars : Bool} {ps : List ByteArray} {k : Nat} (hk : k < ps.length) (h : partOk stars (ps.getD k ⟨#[]⟩) = false) : ps.all (partOk stars) = false := by
  rw [List.all_eq_false]
  exact ⟨_, getD_mem ps ⟨#[]⟩ k hk, by rw [h]; decide⟩
section
variable (E : Env)
set_option maxRecDepth 100000
theorem split_sp (hML : ∀ w, E.G w → ML w) (s sep : ByteArray) (hs : s.size < 4294967281) (h1 : 1 ≤ sep.size) : Sp (cx Tryz.prog mixed tyT_ok E) 94 [dS s, dS sep] (encStrs (pcs s sep)) := by
  refine Sp.of_new (vs := [.string s, .string sep]) ⟨_, _, Tryz.func94, by kernel_rfl, rfl⟩ ?_
  intro w hG hok
  obtain ⟨m, hm⟩ := hML w hG
  refine (Tryz.strings_Split s sep m w hs hm h1).mono fun e w' ⟨he, hw⟩ => ?_
  subst hw
  have hlen := pcs_len s sep h1
  have hc : (pcs s sep).length ≤ s.size + 1 := by
    rw [hlen]
    have := Lib.countB_le sep h1 _ s (Nat.le_refl _)
    omega
  refine ⟨_, he, Below.alloc (Below.refl _ _) (Nat.le_refl _) _, fun M β => ?_⟩
  rw [← hlen]
  refine Rep.sl (fun i j => .string ((pcs s sep).getD i ⟨#[]⟩)) (Nat.le_refl _) (by show _ ≤ 9223372036854775807; omega) (by omega) (fun i j hi hj => ?_) (fun i j hi hj => ?_)
  · obtain rfl : j = 0 := by omega
    refine ⟨.inr ⟨Nat.le_refl _, ?_⟩, ?_, rfl⟩
    · show w.heap.size < (w.heap.push _).size
      rw [Array.size_push]
      omega
    · rw [World.cell?_alloc_at _ _ _ _ rfl]
      show ((pcs s sep).map Value.string).toArray[0 + i * 1 + 0]? = _
      simp [hi, List.getD]
  · refine Rep.v (decide_eq_true ?_)
    have : (pcs s sep).getD i ⟨#[]⟩ ∈ pcs s sep := getD_mem _ _ _ hi
    have := pcs_le this
    show _ ≤ 9223372036854775807
    omega
theorem atoi_sp (s : ByteArray) (h : digs s = true) (h0 : 0 < s.size) (h1 : s.size ≤ 4) : Sp (cx Tryz.prog mixed tyT_ok E) 148 [dS s] (.tup [i64 (numN s), .v .nilIface]) := by
  have hd : s.data.toList.all digB = true := by
    unfold digs at h
    rw [allN_iff] at h
    rw [List.all_eq_true]
    intro b hb
    obtain ⟨k, hk, rfl⟩ := List.getElem_of_mem hb
    have h2 := h k (by simpa using hk)
    unfold bAt at h2
    rw [List.getD, List.getElem?_eq_getElem hk] at h2
    exact h2
  obtain ⟨h2, h3⟩ := atoi_num hd h0 h1
  refine Sp.of_new (vs := [.string s]) ⟨_, _, Tryz.func148, by kernel_rfl, rfl⟩ ?_
  intro w hG hok
  refine (Tryz.strconv_Atoi_ok s (by omega) _ h2 w).mono fun e w' ⟨he, hw⟩ => ?_
  refine ⟨_, he, ?_, fun M β => .tup rfl (fun i d hi => ?_)⟩
  · rcases hw with rfl | ⟨t, rfl⟩
    · exact Below.refl _ _
    · exact Go.Joins.below_bytesWorld _ _ _ _ (Nat.le_refl _)
  · match i, hi with
    | 0, hi =>
      obtain rfl : _ = d := by simpa using hi
      exact .v rfl
    | 1, hi =>
      obtain rfl : _ = d := by simpa using hi
      exact .v rfl
theorem digitsAlone_sp (s : ByteArray) : Sp (cx Tryz.prog mixed tyT_ok E) 95 [dS s] (dB (dgB s)) := by
  have ht : digs s = decide (trimV s ⟨#[48, 49, 50, 51, 52, 53, 54, 55, 56, 57]⟩ = ⟨#[]⟩) := by
    rw [Bool.eq_iff_iff, decide_eq_true_eq, trimV_nil]
    unfold digs
    rw [allN_iff]
    have : ∀ b : UInt8, digitB b = ([48, 49, 50, 51, 52, 53, 54, 55, 56, 57] : List UInt8).contains b := fun b => by
      have h := dig_set ⟨b.toNat, b.toNat_lt⟩
      simp only [UInt8.ofNat_toNat] at h
      exact h
    simp only [this]
  unfold dgB
  rw [ht]
  have h1 := trim_sp E s ⟨#[48, 49, 50, 51, 52, 53, 54, 55, 56, 57]⟩ (by decide) (by decide)
  generalize trimV s ⟨#[48, 49, 50, 51, 52, 53, 54, 55, 56, 57]⟩ = t at h1 ⊢
  refine Sp.body Tryz.func95 (by kernel_rfl) rfl (by kernel_rfl) (by kernel_rfl) (by kernel_rfl) ?_
  repeat' first
    | (refine facW_intro ?_; intro _)
    | refine Or.inl ?_
    | ((conv => whnf); first | (refine condW_dec ?_ ?_ <;> intro _) | refine condW_not ?_ | (refine condW_bool ?_ ?_ <;> intro _) | (refine nbC_t (fun _ => ?_) ?_) | (refine nbC_f ?_ (fun _ => ?_)))
    | refine And.intro (by first | omega | (simp only [Int.toNat_natCast] at *; omega) | (simp only [Nat.reduceAdd, Int.cast_ofNat_Int, true_and, and_true]; omega)  | kernel_rfl) ?_
    | refine RegW.run ?_
    | refine ⟨_, h1, ?_⟩
    | fail
  all_goals rename_i h
  · exact Dle.bo (by rw [decide_eq_false (fun h2 => h2 h)]; rfl)
  · exact Dle.bo (by rw [decide_eq_true h]; rfl)
set_option maxHeartbeats 2000000 in
theorem routeParts_sp (hML : ∀ w, E.G w → ML w) (s : ByteArray) (stars : Bool) (hs : s.size ≤ 1000000000) : Sp (cx Tryz.prog mixed tyT_ok E) 48 [dS s, dB stars] (.tup [encStrs (if routeOk stars s = true then partsR s else []), dB (routeOk stars s)]) := by
  have h1 := split_sp E hML s ⟨#[46]⟩ (by omega) (by decide)
  have hlen := pcs_len_le s
  refine Sp.body Tryz.func48 (by kernel_rfl) rfl (by kernel_rfl) (by kernel_rfl) (by kernel_rfl) ?_
  repeat' first
    | (refine facW_intro ?_; intro _)
    | refine Or.inl ?_
    | ((conv => whnf); first | (refine condW_dec ?_ ?_ <;> intro _) | refine condW_not ?_ | (refine condW_bool ?_ ?_ <;> intro _) | (refine nbC_t (fun _ => ?_) ?_) | (refine nbC_f ?_ (fun _ => ?_)))
    | refine And.intro (by first | omega | (simp only [Int.toNat_natCast] at *; omega) | (simp only [Nat.reduceAdd, Int.cast_ofNat_Int, true_and, and_true]; omega)  | kernel_rfl) ?_
    | refine RegW.run ?_
    | fail
  · rename_i h
    rw [routeOk_long h]
    exact Dle.tup (X := (cx Tryz.prog mixed tyT_ok E)) ⟨Dle.nil, Dle.refl _ _, trivial⟩
  · rename_i h
    rw [(routeOk_nil (stars := stars) h).1, (routeOk_nil (stars := stars) h).2]
    exact Dle.tup (X := (cx Tryz.prog mixed tyT_ok E)) ⟨Dle.nil, Dle.refl _ _, trivial⟩
  · rename_i ha hb
    rw [(routeOk_all (stars := stars) ha hb).1, (routeOk_all (stars := stars) ha hb).2]
    generalize pcs s ⟨#[46]⟩ = ps at h1 hlen
    repeat' first
      | (refine facW_intro ?_; intro _)
      | refine Or.inl ?_
      | ((conv => whnf); first | (refine condW_dec ?_ ?_ <;> intro _) | refine condW_not ?_ | (refine condW_bool ?_ ?_ <;> intro _) | (refine nbC_t (fun _ => ?_) ?_) | (refine nbC_f ?_ (fun _ => ?_)))
      | refine And.intro (by first | omega | (simp only [Int.toNat_natCast] at *; omega) | (simp only [Nat.reduceAdd, Int.cast_ofNat_Int, true_and, and_true]; omega)  | kernel_rfl) ?_
      | refine RegW.run ?_
      | refine ⟨_, h1, ?_⟩
      | fail
    refine ⟨Nat, fun k => [(19, i64 k)], fun k => [], [], fun k => [], fun k => k ≤ ps.length ∧ allN k (fun i => partOk stars (ps.getD i ⟨#[]⟩)) = true, fun k => ps.length - k, ⟨0, ⟨by omega, rfl⟩, ⟨[], ⟨by kernel_rfl, by kernel_rfl, by kernel_rfl, by kernel_rfl, by kernel_rfl, by kernel_rfl, by kernel_rfl⟩, (by repeat' first | exact trivial | exact rfl | kernel_rfl | exact Dle.of_eq rfl | exact MLe.of_eq rfl | exact Dle.i (by omega) | exact Dle.i (by simp only [Int.toNat_natCast] at *; omega) | exact Dle.nil | exact Dle.rc Dle.nil | exact Option.some_ne_none _ | exact Or.inl rfl | exact Or.inr trivial | omega | (simp only [Int.toNat_natCast] at *; omega) | (intro _ _ _ _; exact Dle.of_eq rfl) | refine And.intro ?_ ?_)⟩⟩, fun k hk => ?_⟩
    obtain ⟨hk, hall⟩ := hk
    refine Or.inl ?_
    refine condW_dec ?_ ?_
    · intro hlt
      have hlt : k < ps.length := by omega
      repeat' first
        | (refine facW_intro ?_; intro _)
        | refine Or.inl ?_
        | ((conv => whnf); first | (refine condW_dec ?_ ?_ <;> intro _) | refine condW_not ?_ | (refine condW_bool ?_ ?_ <;> intro _) | (refine nbC_t (fun _ => ?_) ?_) | (refine nbC_f ?_ (fun _ => ?_)))
        | refine And.intro (by first | omega | (simp only [Int.toNat_natCast] at *; omega) | (simp only [Nat.reduceAdd, Int.cast_ofNat_Int, true_and, and_true]; omega)  | kernel_rfl) ?_
        | refine RegW.run ?_
        | refine ⟨_, digitsAlone_sp E _, ?_⟩
        | refine ⟨_, refIsKey_sp E _, ?_⟩
        | fail
      all_goals try (have hp := dgB_pos (s := ps.getD ((k : Int)).toNat ⟨#[]⟩) (by assumption))
      all_goals
        repeat' first
          | (refine facW_intro ?_; intro _)
          | refine Or.inl ?_
          | ((conv => whnf); first | (refine condW_dec ?_ ?_ <;> intro _) | refine condW_not ?_ | (refine condW_bool ?_ ?_ <;> intro _) | (refine nbC_t (fun _ => ?_) ?_) | (refine nbC_f ?_ (fun _ => ?_)))
          | refine And.intro (by first | omega | (simp only [Int.toNat_natCast] at *; omega) | (simp only [Nat.reduceAdd, Int.cast_ofNat_Int, true_and, and_true]; omega)  | kernel_rfl) ?_
          | refine RegW.run ?_
          | refine ⟨_, digitsAlone_sp E _, ?_⟩
          | refine ⟨_, refIsKey_sp E _, ?_⟩
          | fail
      all_goals first
        | (have hx : partOk stars (ps.getD k ⟨#[]⟩) = true := by first | exact key_part (by assumption) | exact star_part (by assumption) (by assumption) | exact yes_part ((idx_ref _).2 ⟨by assumption, by assumption, by first | exact .inr (by assumption) | exact .inl (by simp only [Int.toNat_natCast, Int.toNat_zero] at *; omega)⟩)
           exact ⟨k + 1, ⟨by omega, allN_succ hall hx⟩, ⟨[], ⟨by kernel_rfl, by kernel_rfl, by kernel_rfl, by kernel_rfl, by kernel_rfl, by kernel_rfl, by kernel_rfl⟩, (by repeat' first | exact trivial | exact rfl | kernel_rfl | exact Dle.of_eq rfl | exact MLe.of_eq rfl | exact Dle.i (by omega) | exact Dle.i (by simp only [Int.toNat_natCast] at *; omega) | exact Dle.nil | exact Dle.rc Dle.nil | exact Option.some_ne_none _ | exact Or.inl rfl | exact Or.inr trivial | omega | (simp only [Int.toNat_natCast] at *; omega) | (intro _ _ _ _; exact Dle.of_eq rfl) | refine And.intro ?_ ?_)⟩, by first | omega | (dsimp only; omega)⟩)
        | (have hf : ps.all (partOk stars) = false := all_no (k := k) (by omega) (no_part (by assumption) (by first | exact .inl (by assumption) | exact .inr (by assumption)) (idx_refno (by first | exact .inl (by assumption) | exact .inr (.inl (by assumption)) | exact .inr (.inr ⟨by simp only [Int.toNat_natCast, Int.toNat_zero] at *; omega, by assumption⟩))))
           rw [hf]
           exact Dle.tup (X := (cx Tryz.prog mixed tyT_ok E)) ⟨Dle.nil, Dle.refl _ _, trivial⟩)
        | exfalso
      all_goals trace_state
    · intro hge
      rw [all_end hall (by omega)]
      exact Dle.refl _ _
end
end Go.Proofs.YthoemnhigboahaaGreatDoor
