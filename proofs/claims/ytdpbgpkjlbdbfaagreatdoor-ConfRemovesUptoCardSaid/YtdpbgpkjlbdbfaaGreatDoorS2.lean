/-
  Routes: strings.Split, strconv.Atoi, strings.TrimPrefix by data; conf.isInteger, steps; the reference's digitsAlone, RouteParts.
-/
import Derived.Test.YtdpbgpkjlbdbfaaGreatDoorS1
import Derived.Test.YtdpbgpkjlbdbfaaGreatDoorQ7
import Derived.Lib.SplitLaws
import Derived.Lib.SmallJoins
namespace Go.Proofs.YtdpbgpkjlbdbfaaGreatDoor
open Go.RowKit
set_option linter.unusedVariables false
set_option linter.unusedSimpArgs false

/-- A contract of plain arguments whose result may lie in new memory. -/
theorem Sp.of_new {κ : Type} {X : Cx κ} {f : FuncId} {vs : List Value} {d : D κ} (he : Ent X.P f)
    (h : ∀ w, X.G w → (∀ y ∈ vs, okB y = true) → Calls X.P f vs.toArray w fun e w' => ∃ x, e = .returned x ∧ Below w.heap.size w w' ∧ ∀ (M : Nat → Nat → Prop) (β : Bt), Rep X.V (fun b o => M b o ∨ (w.heap.size ≤ b ∧ b < w'.heap.size)) w' β d x) : Sp X f (vs.map .v) d := by
  refine .inl ⟨he, fun M β w ws hG hMG hM hl hr hp hb => ?_⟩
  have hv : ∀ i (h3 : i < vs.length), ws.getD i undef = vs[i] ∧ okB vs[i] = true := fun i h3 => by
    have := hr i (.v vs[i]) (by simp [h3])
    exact this.val
  have hok : ∀ y ∈ vs, okB y = true := fun y hy => by
    obtain ⟨i, hi, rfl⟩ := List.getElem_of_mem hy
    exact (hv i hi).2
  have e : ws = vs.toArray := by
    apply Array.ext
    · simpa using hl
    · intro i h1 h2
      have h3 : i < vs.length := by simpa using h2
      have := (hv i h3).1
      simp [Array.getD, h1] at this
      simpa using this
  rw [e]
  exact (h w hG hok).mono fun e w' ⟨x, h1, h2, h3⟩ => ⟨x, _, β, h1, Kp.of h2 _, fun _ _ _ => rfl, fun _ _ h => .inl h, fun b o h => h.elim .inl fun h => .inr (.inr h), h3 M β, ⟨fun l o hm => (by cases hm), fun l o l' o' b c c' hm => (by cases hm)⟩, fun b ⟨l, o, c, hm, _⟩ => (by cases hm)⟩

/-- The library's variable MaxLen holds some int. -/
def ML (w : World) : Prop := ∃ m : Int, w.cell? ⟨0, 0, none⟩ = some (.int .i64 m)
theorem ML.kp {w w' : World} (h : ML w) (hk : Kp (0 + 1) noS w w') : ML w' := by
  obtain ⟨m, h⟩ := h
  exact ⟨m, (hk.cell (Nat.lt_succ_self _) (fun h => h)).trans h⟩
theorem ML.lt {w : World} (h : ML w) : 0 + 1 ≤ w.heap.size := by
  obtain ⟨m, h⟩ := h
  exact World.block_lt_of_cell? w ⟨_, 0, none⟩ h
/-- The pieces of a string. -/
def pcs (s sep : ByteArray) : List ByteArray := Lib.splitB sep 0 (Lib.countB s sep) s
theorem pcs_size (sep : ByteArray) : ∀ (k : Nat) (s x : ByteArray), x ∈ Lib.splitB sep 0 k s → x.size ≤ s.size
  | 0, s, x, h => by
    rw [Lib.splitB_zero] at h
    simp at h
    rw [h]
    exact Nat.le_refl _
  | k + 1, s, x, h => by
    unfold Lib.splitB at h
    split at h
    · simp at h
      rw [h]
      exact Nat.le_refl _
    · rcases List.mem_cons.1 h with h | h
      · rw [h, ByteArray.size_extract]
        omega
      · have := pcs_size sep k _ x h
        rw [ByteArray.size_extract] at this
        omega
theorem pcs_le {s sep x : ByteArray} (h : x ∈ pcs s sep) : x.size ≤ s.size := pcs_size _ _ _ _ h
theorem pcs_len (s sep : ByteArray) (h1 : 1 ≤ sep.size) : (pcs s sep).length = Lib.countB s sep + 1 := Lib.splitB_all sep h1 0 _ s rfl
theorem pcs_len_le (s : ByteArray) : (pcs s ⟨#[46]⟩).length ≤ s.size + 1 := by
  rw [pcs_len s _ (by decide)]
  have := Lib.countB_le ⟨#[46]⟩ (by decide) _ s (Nat.le_refl _)
  omega

/-- Whether a string is a number of a route, a part of a route; the step that it is. -/
@[irreducible] def digs (s : ByteArray) : Bool := allN s.size (fun k => digitB (bAt s k))
@[irreducible] def indexB (p : ByteArray) : Bool := decide (0 < p.size) && decide (p.size ≤ 4) && digs p && (!decide (bAt p 0 = 48) || decide (p = ⟨#[48]⟩))
/-- A string without the sign before it. -/
def unsigned (s : ByteArray) : ByteArray := ⟨(Lib.trimPrefix s.data.toList (⟨#[45]⟩ : ByteArray).data.toList).toArray⟩
def intB (s : ByteArray) : Bool := decide (0 < (unsigned s).size) && digs (unsigned s)
def partOk (stars : Bool) (p : ByteArray) : Bool := keyOkB p || (stars && decide (p = ⟨#[42]⟩)) || indexB p
structure Stp where
  key : ByteArray
  number : Int
  star : Bool
instance : Inhabited Stp := ⟨⟨⟨#[]⟩, 0, false⟩⟩
def Stp.cell (s : Stp) (j : Nat) : DD :=
  match j with
  | 0 => dS s.key
  | 1 => i64 s.number
  | 2 => dB s.star
  | _ => .opq
def encStep (s : Stp) : DD := .agg [dS s.key, i64 s.number, dB s.star]
def encSteps (l : List Stp) : DD := .sl 3 32 l.length (fun i j => (l.getD i default).cell j)
def stepOf (p : ByteArray) : Stp := if keyOkB p = true then ⟨p, 0, false⟩ else if p = ⟨#[42]⟩ then ⟨⟨#[]⟩, 0, true⟩ else ⟨⟨#[]⟩, numN p, false⟩
@[irreducible] def routeOk (stars : Bool) (s : ByteArray) : Bool := decide (s.size ≤ 400) && (decide (s = ⟨#[]⟩) || (pcs s ⟨#[46]⟩).all (partOk stars))
/-- The parts of a route. -/
@[irreducible] def partsR (s : ByteArray) : List ByteArray := if s = ⟨#[]⟩ then [] else pcs s ⟨#[46]⟩
section
variable (E : Env)
set_option maxRecDepth 100000
theorem split_sp (hML : ∀ w, E.G w → ML w) (s sep : ByteArray) (hs : s.size < 4294967281) (h1 : 1 ≤ sep.size) : Sp (cx Tryz.prog mixed tyT_ok E) 76 [dS s, dS sep] (encStrs (pcs s sep)) := by
  refine Sp.of_new (vs := [.string s, .string sep]) ⟨_, _, Tryz.func76, by kernel_rfl, rfl⟩ ?_
  intro w hG hok
  obtain ⟨m, hm⟩ := hML w hG
  refine (Tryz.strings_Split s sep m w hs hm h1).mono fun e w' ⟨he, hw⟩ => ?_
  subst hw
  have hlen := pcs_len s sep h1
  have hc : (pcs s sep).length ≤ s.size + 1 := by
    rw [hlen]
    have := Lib.countB_le sep h1 _ s (Nat.le_refl _)
    omega
  refine ⟨_, he, Below.alloc (Below.refl _ _) (Nat.le_refl _) _, fun M β => ?_⟩
  rw [← hlen]
  refine Rep.sl (fun i j => .string ((pcs s sep).getD i ⟨#[]⟩)) (Nat.le_refl _) (by show _ ≤ 9223372036854775807; omega) (by omega) (fun i j hi hj => ?_) (fun i j hi hj => ?_)
  · obtain rfl : j = 0 := by omega
    refine ⟨.inr ⟨Nat.le_refl _, ?_⟩, ?_, rfl⟩
    · show w.heap.size < (w.heap.push _).size
      rw [Array.size_push]
      omega
    · rw [World.cell?_alloc_at _ _ _ _ rfl]
      show ((pcs s sep).map Value.string).toArray[0 + i * 1 + 0]? = _
      simp [hi, List.getD]
  · refine Rep.v (decide_eq_true ?_)
    have : (pcs s sep).getD i ⟨#[]⟩ ∈ pcs s sep := getD_mem _ _ _ hi
    have := pcs_le this
    show _ ≤ 9223372036854775807
    omega
theorem atoi_sp (s : ByteArray) (h : digs s = true) (h0 : 0 < s.size) (h1 : s.size ≤ 4) : Sp (cx Tryz.prog mixed tyT_ok E) 140 [dS s] (.tup [i64 (numN s), .v .nilIface]) := by
  have hd : s.data.toList.all digB = true := by
    unfold digs at h
    rw [allN_iff] at h
    rw [List.all_eq_true]
    intro b hb
    obtain ⟨k, hk, rfl⟩ := List.getElem_of_mem hb
    have h2 := h k (by simpa using hk)
    unfold bAt at h2
    rw [List.getD, List.getElem?_eq_getElem hk] at h2
    exact h2
  obtain ⟨h2, h3⟩ := atoi_num hd h0 h1
  refine Sp.of_new (vs := [.string s]) ⟨_, _, Tryz.func140, by kernel_rfl, rfl⟩ ?_
  intro w hG hok
  refine (Tryz.strconv_Atoi_ok s (by omega) _ h2 w).mono fun e w' ⟨he, hw⟩ => ?_
  refine ⟨_, he, ?_, fun M β => .tup rfl (fun i d hi => ?_)⟩
  · rcases hw with rfl | ⟨t, rfl⟩
    · exact Below.refl _ _
    · exact Go.Joins.below_bytesWorld _ _ _ _ (Nat.le_refl _)
  · match i, hi with
    | 0, hi =>
      obtain rfl : _ = d := by simpa using hi
      exact .v rfl
    | 1, hi =>
      obtain rfl : _ = d := by simpa using hi
      exact .v rfl
theorem trimPrefix_sp (s p : ByteArray) : Sp (cx Tryz.prog mixed tyT_ok E) 206 [dS s, dS p] (dS ⟨(Lib.trimPrefix s.data.toList p.data.toList).toArray⟩) := by
  refine Sp.of_v2 (vs := [.string s, .string p]) ⟨_, _, Tryz.func206, by kernel_rfl, rfl⟩ ?_ ?_
  · intro h
    have h1 := h (.string s) (by simp)
    have h2 : (Lib.trimPrefix s.data.toList p.data.toList).length ≤ s.data.toList.length := by
      unfold Lib.trimPrefix
      split
      · simp
      · exact Nat.le_refl _
    exact decide_eq_true (Nat.le_trans h2 (of_decide_eq_true h1))
  · intro w _ h
    exact (Tryz.strings_TrimPrefix s p w).mono fun e w' ⟨he, hb⟩ => ⟨he, hb ▸ Below.refl _ _⟩
theorem trimSign_sp (s : ByteArray) : Sp (cx Tryz.prog mixed tyT_ok E) 206 [dS s, dS ⟨#[45]⟩] (dS (unsigned s)) := trimPrefix_sp E s ⟨#[45]⟩
theorem isInteger_sp (s : ByteArray) : Sp (cx Tryz.prog mixed tyT_ok E) 139 [dS s] (dB (intB s)) := by
  have h1 := trimSign_sp E s
  unfold intB
  generalize unsigned s = t at h1
  refine Sp.body Tryz.func139 (by kernel_rfl) rfl (by kernel_rfl) (by kernel_rfl) (by kernel_rfl) ?_
  repeat' first
    | (refine facW_intro ?_; intro _)
    | refine Or.inl ?_
    | ((conv => whnf); first | (refine condW_dec ?_ ?_ <;> intro _) | refine condW_not ?_ | (refine condW_bool ?_ ?_ <;> intro _) | (refine nbC_t (fun _ => ?_) ?_) | (refine nbC_f ?_ (fun _ => ?_)))
    | refine And.intro (by first | omega | (simp only [Int.toNat_natCast] at *; omega) | (simp only [Nat.reduceAdd, Int.cast_ofNat_Int, true_and, and_true]; omega) | kernel_rfl) ?_
    | refine RegW.run ?_
    | refine ⟨_, h1, ?_⟩
    | fail
  · rename_i h
    exact Dle.bo (by subst h; unfold digs; rfl)
  · rename_i h
    have hp := str_pos h
    have hv : (decide (0 < t.size) && digs t) = digs t := by rw [decide_eq_true hp]; rfl
    rw [hv]
    refine ⟨Nat, fun k => [(3, i64 k)], fun k => [], [], fun k => [], fun k => k ≤ t.size ∧ allN k (fun k => digitB (bAt t k)) = true, fun k => t.size - k, ⟨0, ⟨by omega, rfl⟩, ⟨[], ⟨by kernel_rfl, by kernel_rfl, by kernel_rfl, by kernel_rfl, by kernel_rfl, by kernel_rfl, by kernel_rfl⟩, (by repeat' first | exact trivial | exact rfl | kernel_rfl | exact Dle.of_eq rfl | exact MLe.of_eq rfl | exact Dle.i (by omega) | exact Dle.i (by simp only [Int.toNat_natCast] at *; omega) | exact Dle.nil | exact Dle.rc Dle.nil | exact Option.some_ne_none _ | exact Or.inl rfl | exact Or.inr trivial | omega | (simp only [Int.toNat_natCast] at *; omega) | (intro _ _ _ _; exact Dle.of_eq rfl) | refine And.intro ?_ ?_)⟩⟩, fun k hk => ?_⟩
    obtain ⟨hk, hall⟩ := hk
    repeat' first
      | (refine facW_intro ?_; intro _)
      | refine Or.inl ?_
      | ((conv => whnf); first | (refine condW_dec ?_ ?_ <;> intro _) | refine condW_not ?_ | (refine condW_bool ?_ ?_ <;> intro _) | (refine nbC_t (fun _ => ?_) ?_) | (refine nbC_f ?_ (fun _ => ?_)))
      | refine And.intro (by first | omega | (simp only [Int.toNat_natCast] at *; omega) | (simp only [Nat.reduceAdd, Int.cast_ofNat_Int, true_and, and_true]; omega) | kernel_rfl) ?_
      | refine RegW.run ?_
      | refine ⟨_, isDigit_sp E _, ?_⟩
      | fail
    all_goals simp only [Int.toNat_natCast] at *
    · rename_i h2
      exact ⟨k + 1, ⟨by omega, allN_succ hall h2⟩, ⟨[], ⟨by kernel_rfl, by kernel_rfl, by kernel_rfl, by kernel_rfl, by kernel_rfl, by kernel_rfl, by kernel_rfl⟩, (by repeat' first | exact trivial | exact rfl | kernel_rfl | exact Dle.of_eq rfl | exact MLe.of_eq rfl | exact Dle.i (by omega) | exact Dle.i (by simp only [Int.toNat_natCast] at *; omega) | exact Dle.nil | exact Dle.rc Dle.nil | exact Option.some_ne_none _ | exact Or.inl rfl | exact Or.inr trivial | omega | (simp only [Int.toNat_natCast] at *; omega) | (intro _ _ _ _; exact Dle.of_eq rfl) | refine And.intro ?_ ?_)⟩, by first | omega | (dsimp only; omega)⟩
    · rename_i h2
      exact Dle.bo (by unfold digs; rw [allN_no (by omega) h2])
    · exact Dle.bo (by unfold digs; rw [show t.size = k by omega, hall])
end
end Go.Proofs.YtdpbgpkjlbdbfaaGreatDoor
