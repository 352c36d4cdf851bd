/-
  strings.Trim leaves nothing of a string just when all its bytes are of the set. Trimming; the reference's keys and bytes. The reference's ValuesOf, LevelsOf, eachValue, ConfCheck. A string's parts between points, found by going along it: plain law. api.Value and lists of strings and of values as arguments. Sorted keys and searches; numbers of routes: plain law. Routes: strings.Split, strconv.Atoi by data; the reference's digitsAlone, RouteParts.
-/
import Derived.Shelf.Strings.SlTrimAscii
import Derived.Test.YteojgenhgjhohaaDoorShelf
import Derived.Test.YteojgenhgjhohaaDoorQ3
import Derived.Test.YteojgenhgjhohaaDoorQ6
import Derived.Test.YteojgenhgjhohaaDoorN2
import Derived.Lib.SplitLaws
import Derived.Lib.CutLaws
import Derived.Test.YteojgenhgjhohaaDoorP
import Derived.Lib.AtoiAll
import Derived.Test.YteojgenhgjhohaaDoorQ8
import Derived.Lib.SmallJoins
namespace Go.Proofs.YteojgenhgjhohaaDoor
open Go.RowKit
theorem dropWhile_head {α : Type} {p : α → Bool} : ∀ {l : List α} {a : α} {r : List α}, l.dropWhile p = a :: r → p a = false
  | [], _, _, h => by simp at h
  | x :: l, a, r, h => by
    rw [List.dropWhile_cons] at h
    split at h
    · exact dropWhile_head h
    · rename_i hx
      injection h with h _
      subst h
      simpa using hx
theorem dropWhile_nil {α : Type} {p : α → Bool} : ∀ {l : List α}, l.dropWhile p = [] ↔ l.all p = true
  | [] => by simp
  | x :: l => by
    rw [List.dropWhile_cons, List.all_cons]
    split
    · rename_i hx
      rw [hx, dropWhile_nil]
      simp
    · rename_i hx
      simp [hx]
theorem trim_nil (l cs : List UInt8) : (Lib.trimS l cs).isEmpty = l.all (cs.contains ·) := by
  rw [Bool.eq_iff_iff, List.isEmpty_iff]
  unfold Lib.trimS Lib.trimLeftS Lib.trimRightS
  rw [dropWhile_nil, List.all_reverse]
  constructor
  · intro h
    cases hd : l.reverse.dropWhile (cs.contains ·) with
    | nil =>
      rw [dropWhile_nil, List.all_reverse] at hd
      exact hd
    | cons a r =>
      have h1 := dropWhile_head hd
      rw [hd, List.all_cons, Bool.and_eq_true] at h
      rw [h1] at h
      cases h.1
  · intro h
    have : l.reverse.dropWhile (cs.contains ·) = [] := by rw [dropWhile_nil, List.all_reverse]; exact h
    rw [this]
    rfl

end Go.Proofs.YteojgenhgjhohaaDoor
namespace Go.Proofs.YteojgenhgjhohaaDoor
open Go.RowKit
set_option linter.unusedVariables false
set_option linter.unusedSimpArgs false

theorem trim_len (l cs : List UInt8) : (Lib.trimS l cs).length ≤ l.length := by
  unfold Lib.trimS Lib.trimLeftS Lib.trimRightS
  have h1 := (List.dropWhile_sublist (cs.contains ·) (l := l.reverse)).length_le
  have h2 := (List.dropWhile_sublist (cs.contains ·) (l := (l.reverse.dropWhile (cs.contains ·)).reverse)).length_le
  simp at *
  omega
def trimV (s cs : ByteArray) : ByteArray := ⟨(Lib.trimS s.data.toList cs.data.toList).toArray⟩
theorem trimV_nil (s cs : ByteArray) : trimV s cs = ⟨#[]⟩ ↔ ∀ k, k < s.size → cs.data.toList.contains (bAt s k) = true := by
  have h1 : trimV s cs = ⟨#[]⟩ ↔ (Lib.trimS s.data.toList cs.data.toList).isEmpty = true := by
    unfold trimV
    constructor
    · intro h
      injection h with h
      have := congrArg Array.toList h
      simp only [List.isEmpty_iff]
      exact this
    · intro h
      rw [List.isEmpty_iff] at h
      rw [h]
  rw [h1, trim_nil, List.all_eq_true]
  constructor
  · intro h k hk
    refine h _ ?_
    have : k < s.data.toList.length := by simpa using hk
    have e : bAt s k = s.data.toList[k] := by
      unfold bAt
      simp [List.getD, List.getElem?_eq_getElem this, -Array.getElem?_toList]
    rw [e]
    exact List.getElem_mem this
  · intro h b hb
    obtain ⟨k, hk, rfl⟩ := List.getElem_of_mem hb
    have hk' : k < s.size := by simpa using hk
    have e : bAt s k = s.data.toList[k] := by
      unfold bAt
      simp [List.getD, List.getElem?_eq_getElem hk, -Array.getElem?_toList]
    rw [← e]
    exact h k hk'
section
variable (E : Env)
set_option maxRecDepth 100000
theorem trim_sp (s cs : ByteArray) (hcs : cs.size < 4294967281) (ha : cs.data.toList.all (fun b => decide (b.toNat < 128)) = true) : Sp (cx Tryd.prog mixed tyT_ok E) 37 [dS s, dS cs] (dS (trimV s cs)) := by
  refine Sp.of_v2 (vs := [.string s, .string cs]) ⟨_, _, Tryd.func37, by kernel_rfl, rfl⟩ ?_ ?_
  · intro h
    have h1 := h (.string s) (by simp)
    have h2 := trim_len s.data.toList cs.data.toList
    have : (trimV s cs).size ≤ s.size := h2
    exact decide_eq_true (Nat.le_trans this (of_decide_eq_true h1))
  · intro w _ h
    have h1 := h (.string s) (by simp)
    have h1 : s.size ≤ 9223372036854775807 := of_decide_eq_true h1
    have hcon := Any.strings_Trim_laid Tryd.lays160 (by kernel_rfl) s cs w h1 hcs (ascii_of_all ha)
    exact Calls.mono hcon fun e w' ⟨he, hb⟩ => ⟨he, hb⟩
end
end Go.Proofs.YteojgenhgjhohaaDoor
namespace Go.Proofs.YteojgenhgjhohaaDoor
open Go.RowKit
set_option linter.unusedVariables false
set_option linter.unusedSimpArgs false
def unused5 (v : Vu) : Prop :=
  (v.b = true ∧ v.kind ≠ 1) ∨ (v.i ≠ 0 ∧ v.kind ≠ 2 ∧ v.kind ≠ 4) ∨ (v.text ≠ ⟨#[]⟩ ∧ v.kind ≠ 3) ∨ (0 < v.items.length ∧ v.kind ≠ 5 ∧ v.kind ≠ 6) ∨ (0 < v.keys.length ∧ v.kind ≠ 6)
instance (v : Vu) : Decidable (unused5 v) := by unfold unused5; infer_instance
def un1 (v : Vu) : Prop := v.b = true ∧ v.kind ≠ 1
instance (v : Vu) : Decidable (un1 v) := by unfold un1; infer_instance
def un2 (v : Vu) : Prop := un1 v ∨ (v.i ≠ 0 ∧ v.kind ≠ 2 ∧ v.kind ≠ 4)
instance (v : Vu) : Decidable (un2 v) := by unfold un2; infer_instance
def un3 (v : Vu) : Prop := un2 v ∨ (v.text ≠ ⟨#[]⟩ ∧ v.kind ≠ 3)
instance (v : Vu) : Decidable (un3 v) := by unfold un3; infer_instance
def un4 (v : Vu) : Prop := un3 v ∨ (0 < v.items.length ∧ v.kind ≠ 5 ∧ v.kind ≠ 6)
instance (v : Vu) : Decidable (un4 v) := by unfold un4; infer_instance
def unused6 (v : Vu) : Prop := v.kind = 6 ∧ v.keys.length ≠ v.items.length
instance (v : Vu) : Decidable (unused6 v) := by unfold unused6; infer_instance
def dayP (v : Vu) : Prop := v.kind = 4 ∧ badDayP v.i
instance (v : Vu) : Decidable (dayP v) := by unfold dayP; infer_instance
section
variable (E : Env)
set_option maxRecDepth 100000
end
end Go.Proofs.YteojgenhgjhohaaDoor
namespace Go.Proofs.YteojgenhgjhohaaDoor
open Go.RowKit
set_option linter.unusedVariables false
def pcs (s sep : ByteArray) : List ByteArray := Lib.splitB sep 0 (Lib.countB s sep) s
theorem pcs_size (sep : ByteArray) : ∀ (k : Nat) (s x : ByteArray), x ∈ Lib.splitB sep 0 k s → x.size ≤ s.size
  | 0, s, x, h => by
    rw [Lib.splitB_zero] at h
    simp at h
    rw [h]
    exact Nat.le_refl _
  | k + 1, s, x, h => by
    unfold Lib.splitB at h
    split at h
    · simp at h
      rw [h]
      exact Nat.le_refl _
    · rcases List.mem_cons.1 h with h | h
      · rw [h, ByteArray.size_extract]
        omega
      · have := pcs_size sep k _ x h
        rw [ByteArray.size_extract] at this
        omega
theorem pcs_le {s sep x : ByteArray} (h : x ∈ pcs s sep) : x.size ≤ s.size := pcs_size _ _ _ _ h
theorem pcs_len (s sep : ByteArray) (h1 : 1 ≤ sep.size) : (pcs s sep).length = Lib.countB s sep + 1 := Lib.splitB_all sep h1 0 _ s rfl
end Go.Proofs.YteojgenhgjhohaaDoor
namespace Go.Proofs.YteojgenhgjhohaaDoor
open Go.RowKit
set_option linter.unusedVariables false
set_option linter.unusedSimpArgs false
mutual
def Vu.wt : Vu → Nat
  | .mk _ _ _ t l ks => t.size + 1 + Vu.wtL l + (ks.map fun s => s.size + 1).sum
def Vu.wtL : List Vu → Nat
  | [] => 0
  | x :: r => Vu.wt x + Vu.wtL r
end
mutual
theorem cnt_le_wt : ∀ v : Vu, cnt v ≤ v.wt
  | .mk _ _ _ _ l _ => by have := cntL_le_wt l; simp only [cnt, Vu.wt]; omega
theorem cntL_le_wt : ∀ l : List Vu, cntL l ≤ Vu.wtL l
  | [] => by simp [cntL]
  | x :: r => by have := cnt_le_wt x; have := cntL_le_wt r; simp only [cntL, Vu.wtL]; omega
end
mutual
def Vu.i64 : Vu → Prop
  | .mk k _ i _ l _ => In64 k ∧ In64 i ∧ Vu.i64L l
def Vu.i64L : List Vu → Prop
  | [] => True
  | x :: r => Vu.i64 x ∧ Vu.i64L r
end
section
variable (E : Env)
end
end Go.Proofs.YteojgenhgjhohaaDoor
namespace Go.Proofs.YteojgenhgjhohaaDoor
open Go.RowKit
set_option linter.unusedVariables false

end Go.Proofs.YteojgenhgjhohaaDoor
namespace Go.Proofs.YteojgenhgjhohaaDoor
open Go.RowKit
set_option linter.unusedVariables false
set_option linter.unusedSimpArgs false
theorem Sp.of_new {κ : Type} {X : Cx κ} {f : FuncId} {vs : List Value} {d : D κ} (he : Ent X.P f)
    (h : ∀ w, X.G w → (∀ y ∈ vs, okB y = true) → Calls X.P f vs.toArray w fun e w' => ∃ x, e = .returned x ∧ Below w.heap.size w w' ∧ ∀ (M : Nat → Nat → Prop) (β : Bt), Rep X.V (fun b o => M b o ∨ (w.heap.size ≤ b ∧ b < w'.heap.size)) w' β d x) : Sp X f (vs.map .v) d := by
  refine .inl ⟨he, fun M β w ws hG hMG hM hl hr hp hb => ?_⟩
  have hv : ∀ i (h3 : i < vs.length), ws.getD i undef = vs[i] ∧ okB vs[i] = true := fun i h3 => by
    have := hr i (.v vs[i]) (by simp [h3])
    exact this.val
  have hok : ∀ y ∈ vs, okB y = true := fun y hy => by
    obtain ⟨i, hi, rfl⟩ := List.getElem_of_mem hy
    exact (hv i hi).2
  have e : ws = vs.toArray := by
    apply Array.ext
    · simpa using hl
    · intro i h1 h2
      have h3 : i < vs.length := by simpa using h2
      have := (hv i h3).1
      simp [Array.getD, h1] at this
      simpa using this
  rw [e]
  exact (h w hG hok).mono fun e w' ⟨x, h1, h2, h3⟩ => ⟨x, _, β, h1, Kp.of h2 _, fun _ _ _ => rfl, fun _ _ h => .inl h, fun b o h => h.elim .inl fun h => .inr (.inr h), h3 M β, ⟨fun l o hm => (by cases hm), fun l o l' o' b c c' hm => (by cases hm)⟩, fun b ⟨l, o, c, hm, _⟩ => (by cases hm)⟩

def ML (w : World) : Prop := ∃ m : Int, w.cell? ⟨0, 0, none⟩ = some (.int .i64 m)
theorem ML.kp {w w' : World} (h : ML w) (hk : Kp (0 + 1) noS w w') : ML w' := by
  obtain ⟨m, h⟩ := h
  exact ⟨m, (hk.cell (Nat.lt_succ_self _) (fun h => h)).trans h⟩
theorem ML.lt {w : World} (h : ML w) : 0 + 1 ≤ w.heap.size := by
  obtain ⟨m, h⟩ := h
  exact World.block_lt_of_cell? w ⟨_, 0, none⟩ h
@[irreducible] def digs (s : ByteArray) : Bool := allN s.size (fun k => digitB (bAt s k))
@[irreducible] def indexB (p : ByteArray) : Bool := decide (0 < p.size) && decide (p.size ≤ 4) && digs p && (!decide (bAt p 0 = 48) || decide (p = ⟨#[48]⟩))
def partOk (stars : Bool) (p : ByteArray) : Bool := keyOkB p || (stars && decide (p = ⟨#[42]⟩)) || indexB p
@[irreducible] def routeOk (stars : Bool) (s : ByteArray) : Bool := decide (s.size ≤ 400) && (decide (s = ⟨#[]⟩) || (pcs s ⟨#[46]⟩).all (partOk stars))
@[irreducible] def partsR (s : ByteArray) : List ByteArray := if s = ⟨#[]⟩ then [] else pcs s ⟨#[46]⟩
theorem dig_set : ∀ n : Fin 256, digitB (UInt8.ofNat n.val) = ([48, 49, 50, 51, 52, 53, 54, 55, 56, 57] : List UInt8).contains (UInt8.ofNat n.val) := by decide +kernel
@[irreducible] def dgB (s : ByteArray) : Bool := decide (¬ s = ⟨#[]⟩) && digs s
theorem dgB_pos {s : ByteArray} (h : dgB s = true) : 0 < s.size := by
  unfold dgB at h
  simp at h
  exact str_pos h.1
section
variable (E : Env)
set_option maxRecDepth 100000
theorem split_sp (hML : ∀ w, E.G w → ML w) (s sep : ByteArray) (hs : s.size < 4294967281) (h1 : 1 ≤ sep.size) : Sp (cx Tryd.prog mixed tyT_ok E) 18 [dS s, dS sep] (encStrs (pcs s sep)) := by
  refine Sp.of_new (vs := [.string s, .string sep]) ⟨_, _, Tryd.func18, by kernel_rfl, rfl⟩ ?_
  intro w hG hok
  obtain ⟨m, hm⟩ := hML w hG
  refine (Tryd.strings_Split s sep m w hs hm h1).mono fun e w' ⟨he, hw⟩ => ?_
  subst hw
  have hlen := pcs_len s sep h1
  have hc : (pcs s sep).length ≤ s.size + 1 := by
    rw [hlen]
    have := Lib.countB_le sep h1 _ s (Nat.le_refl _)
    omega
  refine ⟨_, he, Below.alloc (Below.refl _ _) (Nat.le_refl _) _, fun M β => ?_⟩
  rw [← hlen]
  refine Rep.sl (fun i j => .string ((pcs s sep).getD i ⟨#[]⟩)) (Nat.le_refl _) (by show _ ≤ 9223372036854775807; omega) (by omega) (fun i j hi hj => ?_) (fun i j hi hj => ?_)
  · obtain rfl : j = 0 := by omega
    refine ⟨.inr ⟨Nat.le_refl _, ?_⟩, ?_, rfl⟩
    · show w.heap.size < (w.heap.push _).size
      rw [Array.size_push]
      omega
    · rw [World.cell?_alloc_at _ _ _ _ rfl]
      show ((pcs s sep).map Value.string).toArray[0 + i * 1 + 0]? = _
      simp [hi, List.getD]
  · refine Rep.v (decide_eq_true ?_)
    have : (pcs s sep).getD i ⟨#[]⟩ ∈ pcs s sep := getD_mem _ _ _ hi
    have := pcs_le this
    show _ ≤ 9223372036854775807
    omega
end
end Go.Proofs.YteojgenhgjhohaaDoor
