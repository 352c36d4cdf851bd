/-
  Sorted keys and searches; numbers of routes: plain law. Searches of keys; conf.find, conf.clone. Routes: strings.Split, strconv.Atoi, strings.TrimPrefix by data; conf.isInteger, steps; the reference's digitsAlone, RouteParts.
-/
import Derived.Test.YtemiaognopgnnaaGreatDoorN2
import Derived.Lib.AtoiAll
import Derived.Test.YtemiaognopgnnaaGreatDoorPV
import Derived.Test.YtemiaognopgnnaaGreatDoorQ8
import Derived.Test.YtemiaognopgnnaaGreatDoorQ7
import Derived.Lib.SplitLaws
import Derived.Lib.SmallJoins
namespace Go.Proofs.YtemiaognopgnnaaGreatDoor
open Go.RowKit
set_option linter.unusedVariables false

theorem toL_ext {a b : ByteArray} (h : a.toList = b.toList) : a = b := by
  cases a with | mk a => cases b with | mk b =>
    simp only [ByteArray.toList_eq] at h
    exact congrArg _ (Array.toList_inj.1 h)
theorem less_iff : ∀ a b : List UInt8, Op.bytesLess a b = true ↔ a < b
  | _, [] => by simp [Op.bytesLess]
  | [], _ :: _ => by simp [Op.bytesLess]
  | a :: x, b :: y => by
    rw [Op.bytesLess, List.cons_lt_cons_iff, ← less_iff x y]
    simp
theorem strLt_iff (a b : ByteArray) : strLt a b = true ↔ a.toList < b.toList := by unfold strLt; exact less_iff _ _
theorem strLt_trans {a b c : ByteArray} (h : strLt a b = true) (g : strLt b c = true) : strLt a c = true := by
  rw [strLt_iff] at *
  exact List.lt_trans h g
theorem strLt_irrefl (a : ByteArray) : strLt a a = false := by
  cases e : strLt a a
  · rfl
  · rw [strLt_iff] at e
    exact absurd e (List.lt_irrefl _)
theorem strLt_total {a b : ByteArray} (h : strLt a b = false) (g : a ≠ b) : strLt b a = true := by
  rw [strLt_iff]
  have h : ¬ a.toList < b.toList := fun e => by rw [(strLt_iff a b).2 e] at h; cases h
  rcases List.le_iff_lt_or_eq.1 (List.not_lt.1 h) with h | e
  · exact h
  · exact absurd (toL_ext e).symm g
/-- Keys in order. -/
def Srt (l : List ByteArray) : Prop := ∀ i j, i < j → j < l.length → strLt (l.getD i ⟨#[]⟩) (l.getD j ⟨#[]⟩) = true
theorem srt_of {l : List ByteArray} (h : ∀ k, 0 < k → k < l.length → strLt (l.getD (k - 1) ⟨#[]⟩) (l.getD k ⟨#[]⟩) = true) : Srt l := by
  intro i j hij hj
  induction j with
  | zero => omega
  | succ j ih =>
    have h1 := h (j + 1) (by omega) hj
    rcases Nat.lt_or_ge i j with h2 | h2
    · exact strLt_trans (ih h2 (by omega)) h1
    · obtain rfl : i = j := by omega
      exact h1
/-- The search of a key between two places. -/
def bsr (l : List ByteArray) (x : ByteArray) (i j : Nat) : Nat :=
  if i < j then (if strLt (l.getD ((i + j) / 2) ⟨#[]⟩) x = true then bsr l x ((i + j) / 2 + 1) j else bsr l x i ((i + j) / 2)) else i
  termination_by j - i
theorem bsr_end {l : List ByteArray} {x : ByteArray} {i j : Nat} (h : ¬ i < j) : bsr l x i j = i := by rw [bsr, if_neg h]
theorem bsr_lt {l : List ByteArray} {x : ByteArray} {i j : Nat} (h : i < j) (g : strLt (l.getD ((i + j) / 2) ⟨#[]⟩) x = true) : bsr l x i j = bsr l x ((i + j) / 2 + 1) j := by rw [bsr, if_pos h, if_pos g]
theorem bsr_ge {l : List ByteArray} {x : ByteArray} {i j : Nat} (h : i < j) (g : strLt (l.getD ((i + j) / 2) ⟨#[]⟩) x = false) : bsr l x i j = bsr l x i ((i + j) / 2) := by rw [bsr, if_pos h, if_neg (by rw [g]; decide)]
theorem bsr_le (l : List ByteArray) (x : ByteArray) : ∀ (n i j : Nat), j - i < n → i ≤ j → i ≤ bsr l x i j ∧ bsr l x i j ≤ j
  | 0, i, j, h, _ => by omega
  | n + 1, i, j, h, hij => by
    rcases Nat.lt_or_ge i j with h1 | h1
    · cases e : strLt (l.getD ((i + j) / 2) ⟨#[]⟩) x
      · rw [bsr_ge h1 e]
        have := bsr_le l x n i ((i + j) / 2) (by omega) (by omega)
        omega
      · rw [bsr_lt h1 e]
        have := bsr_le l x n ((i + j) / 2 + 1) j (by omega) (by omega)
        omega
    · rw [bsr_end (by omega)]
      omega
theorem bsr_spec {l : List ByteArray} {x : ByteArray} (hs : Srt l) : ∀ (n i j : Nat), j - i < n → i ≤ j → j ≤ l.length → (∀ k, k < i → strLt (l.getD k ⟨#[]⟩) x = true) → (∀ k, j ≤ k → k < l.length → strLt (l.getD k ⟨#[]⟩) x = false) →
    (∀ k, k < bsr l x i j → strLt (l.getD k ⟨#[]⟩) x = true) ∧ (∀ k, bsr l x i j ≤ k → k < l.length → strLt (l.getD k ⟨#[]⟩) x = false)
  | 0, i, j, h, _, _, _, _ => by omega
  | n + 1, i, j, h, hij, hj, ha, hb => by
    rcases Nat.lt_or_ge i j with h1 | h1
    · cases e : strLt (l.getD ((i + j) / 2) ⟨#[]⟩) x
      · rw [bsr_ge h1 e]
        refine bsr_spec hs n i _ (by omega) (by omega) (by omega) ha (fun k hk hk2 => ?_)
        rcases Nat.lt_or_ge ((i + j) / 2) k with h2 | h2
        · cases e2 : strLt (l.getD k ⟨#[]⟩) x
          · rfl
          · rw [strLt_trans (hs _ _ h2 hk2) e2] at e
            cases e
        · obtain rfl : k = (i + j) / 2 := by omega
          exact e
      · rw [bsr_lt h1 e]
        refine bsr_spec hs n _ j (by omega) (by omega) hj (fun k hk => ?_) hb
        rcases Nat.lt_or_ge k ((i + j) / 2) with h2 | h2
        · exact strLt_trans (hs _ _ h2 (by omega)) e
        · obtain rfl : k = (i + j) / 2 := by omega
          exact e
    · rw [bsr_end (by omega)]
      exact ⟨ha, fun k hk hk2 => hb k (by omega) hk2⟩
/-- In keys in order the search finds the key's place. -/
theorem bsr_at {l : List ByteArray} {x : ByteArray} (hs : Srt l) {m : Nat} (hm : m < l.length) (hx : l.getD m ⟨#[]⟩ = x) : bsr l x 0 l.length = m := by
  obtain ⟨h1, h2⟩ := bsr_spec (x := x) hs (l.length + 1) 0 l.length (by omega) (by omega) (Nat.le_refl _) (fun k hk => by omega) (fun k hk hk2 => by omega)
  rcases Nat.lt_trichotomy (bsr l x 0 l.length) m with h | h | h
  · have h3 := h2 (bsr l x 0 l.length) (Nat.le_refl _) (by omega)
    have h4 := hs _ _ h hm
    rw [hx, h3] at h4
    cases h4
  · exact h
  · have h3 := h1 m h
    rw [hx, strLt_irrefl] at h3
    cases h3

def digB (c : UInt8) : Bool := decide (48 ≤ c.toNat) && decide (c.toNat ≤ 57)
theorem parse_ok : ∀ (l : List UInt8) (acc : Nat), l.all digB = true → l.length ≤ 10 → acc < 10 ^ (10 - l.length) → ∃ u, Lib.parseUint10 acc l = .ok u ∧ u < 10 ^ 10
  | [], acc, _, _, h => ⟨acc, rfl, by simpa using h⟩
  | c :: r, acc, h, hl, ha => by
    simp only [List.all_cons, Bool.and_eq_true, digB, decide_eq_true_eq] at h
    simp only [List.length_cons] at hl ha
    have h1 : 10 ^ (10 - r.length) = 10 * 10 ^ (10 - (r.length + 1)) := by
      rw [show 10 - r.length = (10 - (r.length + 1)) + 1 by omega, Nat.pow_succ, Nat.mul_comm]
    have h2 : 10 ^ (10 - (r.length + 1)) ≤ 10 ^ 9 := Nat.pow_le_pow_right (by omega) (by omega)
    obtain ⟨u, h3, h4⟩ := parse_ok r (acc * 10 + (c.toNat - 48)) (h.2) (by omega) (by omega)
    refine ⟨u, ?_, h4⟩
    rw [Lib.parseUint10, if_pos h.1, if_neg (by omega), if_neg (by omega)]
    exact h3
/-- The number that a string spells. -/
def numN (s : ByteArray) : Nat := match Lib.parseUint10 0 s.data.toList with | .ok v => v | _ => 0
theorem atoi_num {s : ByteArray} (h : s.data.toList.all digB = true) (h0 : 0 < s.size) (h1 : s.size ≤ 4) : Lib.atoiAll s.data.toList = .ok (numN s : Int) ∧ numN s < 10 ^ 10 := by
  have hl : s.data.toList.length = s.size := by simp
  obtain ⟨u, h2, h3⟩ := parse_ok s.data.toList 0 h (by omega) (Nat.pow_pos (by omega))
  have hn : numN s = u := by unfold numN; rw [h2]
  rw [hn]
  refine ⟨?_, h3⟩
  revert h h2
  match e : s.data.toList with
  | [] => rw [e] at hl; simp at hl; omega
  | c :: r =>
    intro h h2
    simp only [List.all_cons, Bool.and_eq_true, digB, decide_eq_true_eq] at h
    unfold Lib.atoiAll
    simp only
    rw [if_neg (by omega)]
    unfold Lib.parseMag
    rw [if_neg (by simp), h2]
    simp only
    rw [if_neg (by omega), if_neg (by omega), if_neg (by omega)]
end Go.Proofs.YtemiaognopgnnaaGreatDoor
namespace Go.Proofs.YtemiaognopgnnaaGreatDoor
open Go.RowKit
set_option linter.unusedVariables false
set_option linter.unusedSimpArgs false
theorem len_le_sum : ∀ l : List ByteArray, l.length ≤ (l.map fun s => s.size + 1).sum
  | [] => Nat.zero_le _
  | x :: r => by
    have := len_le_sum r
    simp only [List.length_cons, List.map_cons, List.sum_cons]
    omega
theorem keys_le_wt (v : Vu) : v.keys.length ≤ v.wt := by
  cases v with | mk k b i t l ks => have := len_le_sum ks; simp only [Vu.wt, Vu.keys]; omega
theorem wtL_le_wt (v : Vu) : Vu.wtL v.items + 1 ≤ v.wt := by
  cases v with | mk k b i t l ks => simp only [Vu.wt, Vu.items]; omega
theorem len_le_wtL : ∀ l : List Vu, l.length ≤ Vu.wtL l
  | [] => Nat.zero_le _
  | x :: r => by
    have := len_le_wtL r
    have := cnt_le_wt x
    have h : 1 ≤ cnt x := by rw [cnt_eq]; omega
    simp only [List.length_cons, Vu.wtL]
    omega
theorem wt_mem : ∀ (l : List Vu) (x : Vu), x ∈ l → x.wt ≤ Vu.wtL l
  | a :: l, x, h => by
    rcases List.mem_cons.1 h with rfl | h
    · simp [Vu.wtL]
    · have := wt_mem l x h; simp [Vu.wtL]; omega
/-- Where a table has a key, or would have it; whether it has it. -/
def findK (v : Vu) (k : ByteArray) : Nat := bsr v.keys k 0 v.keys.length
def hasK (v : Vu) (k : ByteArray) : Bool := decide (findK v k < v.keys.length) && decide (v.keys.getD (findK v k) ⟨#[]⟩ = k)
section
variable (E : Env)
set_option maxRecDepth 100000
end
end Go.Proofs.YtemiaognopgnnaaGreatDoor
namespace Go.Proofs.YtemiaognopgnnaaGreatDoor
open Go.RowKit
set_option linter.unusedVariables false
set_option linter.unusedSimpArgs false

/-- A contract of plain arguments whose result may lie in new memory. -/
theorem Sp.of_new {κ : Type} {X : Cx κ} {f : FuncId} {vs : List Value} {d : D κ} (he : Ent X.P f)
    (h : ∀ w, X.G w → (∀ y ∈ vs, okB y = true) → Calls X.P f vs.toArray w fun e w' => ∃ x, e = .returned x ∧ Below w.heap.size w w' ∧ ∀ (M : Nat → Nat → Prop) (β : Bt), Rep X.V (fun b o => M b o ∨ (w.heap.size ≤ b ∧ b < w'.heap.size)) w' β d x) : Sp X f (vs.map .v) d := by
  refine .inl ⟨he, fun M β w ws hG hMG hM hl hr hp hb => ?_⟩
  have hv : ∀ i (h3 : i < vs.length), ws.getD i undef = vs[i] ∧ okB vs[i] = true := fun i h3 => by
    have := hr i (.v vs[i]) (by simp [h3])
    exact this.val
  have hok : ∀ y ∈ vs, okB y = true := fun y hy => by
    obtain ⟨i, hi, rfl⟩ := List.getElem_of_mem hy
    exact (hv i hi).2
  have e : ws = vs.toArray := by
    apply Array.ext
    · simpa using hl
    · intro i h1 h2
      have h3 : i < vs.length := by simpa using h2
      have := (hv i h3).1
      simp [Array.getD, h1] at this
      simpa using this
  rw [e]
  exact (h w hG hok).mono fun e w' ⟨x, h1, h2, h3⟩ => ⟨x, _, β, h1, Kp.of h2 _, fun _ _ _ => rfl, fun _ _ h => .inl h, fun b o h => h.elim .inl fun h => .inr (.inr h), h3 M β, ⟨fun l o hm => (by cases hm), fun l o l' o' b c c' hm => (by cases hm)⟩, fun b ⟨l, o, c, hm, _⟩ => (by cases hm)⟩

/-- The library's variable MaxLen holds some int. -/
def ML (w : World) : Prop := ∃ m : Int, w.cell? ⟨2, 0, none⟩ = some (.int .i64 m)
theorem ML.kp {w w' : World} (h : ML w) (hk : Kp (2 + 1) noS w w') : ML w' := by
  obtain ⟨m, h⟩ := h
  exact ⟨m, (hk.cell (Nat.lt_succ_self _) (fun h => h)).trans h⟩
theorem ML.lt {w : World} (h : ML w) : 2 + 1 ≤ w.heap.size := by
  obtain ⟨m, h⟩ := h
  exact World.block_lt_of_cell? w ⟨_, 0, none⟩ h
/-- The pieces of a string. -/
def pcs (s sep : ByteArray) : List ByteArray := Lib.splitB sep 0 (Lib.countB s sep) s
theorem pcs_size (sep : ByteArray) : ∀ (k : Nat) (s x : ByteArray), x ∈ Lib.splitB sep 0 k s → x.size ≤ s.size
  | 0, s, x, h => by
    rw [Lib.splitB_zero] at h
    simp at h
    rw [h]
    exact Nat.le_refl _
  | k + 1, s, x, h => by
    unfold Lib.splitB at h
    split at h
    · simp at h
      rw [h]
      exact Nat.le_refl _
    · rcases List.mem_cons.1 h with h | h
      · rw [h, ByteArray.size_extract]
        omega
      · have := pcs_size sep k _ x h
        rw [ByteArray.size_extract] at this
        omega
theorem pcs_le {s sep x : ByteArray} (h : x ∈ pcs s sep) : x.size ≤ s.size := pcs_size _ _ _ _ h
theorem pcs_len (s sep : ByteArray) (h1 : 1 ≤ sep.size) : (pcs s sep).length = Lib.countB s sep + 1 := Lib.splitB_all sep h1 0 _ s rfl
theorem pcs_len_le (s : ByteArray) : (pcs s ⟨#[46]⟩).length ≤ s.size + 1 := by
  rw [pcs_len s _ (by decide)]
  have := Lib.countB_le ⟨#[46]⟩ (by decide) _ s (Nat.le_refl _)
  omega

/-- Whether a string is a number of a route, a part of a route; the step that it is. -/
@[irreducible] def digs (s : ByteArray) : Bool := allN s.size (fun k => digitB (bAt s k))
@[irreducible] def indexB (p : ByteArray) : Bool := decide (0 < p.size) && decide (p.size ≤ 4) && digs p && (!decide (bAt p 0 = 48) || decide (p = ⟨#[48]⟩))
/-- A string without the sign before it. -/
def unsigned (s : ByteArray) : ByteArray := ⟨(Lib.trimPrefix s.data.toList (⟨#[45]⟩ : ByteArray).data.toList).toArray⟩
def intB (s : ByteArray) : Bool := decide (0 < (unsigned s).size) && digs (unsigned s)
def partOk (stars : Bool) (p : ByteArray) : Bool := keyOkB p || (stars && decide (p = ⟨#[42]⟩)) || indexB p
structure Stp where
  key : ByteArray
  number : Int
  star : Bool
instance : Inhabited Stp := ⟨⟨⟨#[]⟩, 0, false⟩⟩
def Stp.cell (s : Stp) (j : Nat) : DD :=
  match j with
  | 0 => dS s.key
  | 1 => i64 s.number
  | 2 => dB s.star
  | _ => .opq
def encStep (s : Stp) : DD := .agg [dS s.key, i64 s.number, dB s.star]
def encSteps (l : List Stp) : DD := .sl 3 32 l.length (fun i j => (l.getD i default).cell j)
def stepOf (p : ByteArray) : Stp := if keyOkB p = true then ⟨p, 0, false⟩ else if p = ⟨#[42]⟩ then ⟨⟨#[]⟩, 0, true⟩ else ⟨⟨#[]⟩, numN p, false⟩
@[irreducible] def routeOk (stars : Bool) (s : ByteArray) : Bool := decide (s.size ≤ 400) && (decide (s = ⟨#[]⟩) || (pcs s ⟨#[46]⟩).all (partOk stars))
/-- The parts of a route. -/
@[irreducible] def partsR (s : ByteArray) : List ByteArray := if s = ⟨#[]⟩ then [] else pcs s ⟨#[46]⟩
section
variable (E : Env)
set_option maxRecDepth 100000
theorem split_sp (hML : ∀ w, E.G w → ML w) (s sep : ByteArray) (hs : s.size < 4294967281) (h1 : 1 ≤ sep.size) : Sp (cx Tryz.prog mixed tyT_ok E) 28 [dS s, dS sep] (encStrs (pcs s sep)) := by
  refine Sp.of_new (vs := [.string s, .string sep]) ⟨_, _, Tryz.func28, by kernel_rfl, rfl⟩ ?_
  intro w hG hok
  obtain ⟨m, hm⟩ := hML w hG
  refine (Tryz.strings_Split s sep m w hs hm h1).mono fun e w' ⟨he, hw⟩ => ?_
  subst hw
  have hlen := pcs_len s sep h1
  have hc : (pcs s sep).length ≤ s.size + 1 := by
    rw [hlen]
    have := Lib.countB_le sep h1 _ s (Nat.le_refl _)
    omega
  refine ⟨_, he, Below.alloc (Below.refl _ _) (Nat.le_refl _) _, fun M β => ?_⟩
  rw [← hlen]
  refine Rep.sl (fun i j => .string ((pcs s sep).getD i ⟨#[]⟩)) (Nat.le_refl _) (by show _ ≤ 9223372036854775807; omega) (by omega) (fun i j hi hj => ?_) (fun i j hi hj => ?_)
  · obtain rfl : j = 0 := by omega
    refine ⟨.inr ⟨Nat.le_refl _, ?_⟩, ?_, rfl⟩
    · show w.heap.size < (w.heap.push _).size
      rw [Array.size_push]
      omega
    · rw [World.cell?_alloc_at _ _ _ _ rfl]
      show ((pcs s sep).map Value.string).toArray[0 + i * 1 + 0]? = _
      simp [hi, List.getD]
  · refine Rep.v (decide_eq_true ?_)
    have : (pcs s sep).getD i ⟨#[]⟩ ∈ pcs s sep := getD_mem _ _ _ hi
    have := pcs_le this
    show _ ≤ 9223372036854775807
    omega
end
end Go.Proofs.YtemiaognopgnnaaGreatDoor
