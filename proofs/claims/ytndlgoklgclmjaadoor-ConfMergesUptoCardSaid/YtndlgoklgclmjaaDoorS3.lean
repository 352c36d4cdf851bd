/-
  Routes: strings.Split, strconv.Atoi, strings.TrimPrefix by data; conf.isInteger, steps; the reference's digitsAlone, RouteParts. conf.steps; the reference's digitsAlone, RouteParts.
-/
import Derived.Test.YtndlgoklgclmjaaDoorS1
import Derived.Test.YtndlgoklgclmjaaDoorQ7
import Derived.Lib.SplitLaws
import Derived.Lib.SmallJoins
namespace Go.Proofs.YtndlgoklgclmjaaDoor
open Go.RowKit
set_option linter.unusedVariables false
set_option linter.unusedSimpArgs false

/-- A contract of plain arguments whose result may lie in new memory. -/
theorem Sp.of_new {κ : Type} {X : Cx κ} {f : FuncId} {vs : List Value} {d : D κ} (he : Ent X.P f)
    (h : ∀ w, X.G w → (∀ y ∈ vs, okB y = true) → Calls X.P f vs.toArray w fun e w' => ∃ x, e = .returned x ∧ Below w.heap.size w w' ∧ ∀ (M : Nat → Nat → Prop) (β : Bt), Rep X.V (fun b o => M b o ∨ (w.heap.size ≤ b ∧ b < w'.heap.size)) w' β d x) : Sp X f (vs.map .v) d := by
  refine .inl ⟨he, fun M β w ws hG hMG hM hl hr hp hb => ?_⟩
  have hv : ∀ i (h3 : i < vs.length), ws.getD i undef = vs[i] ∧ okB vs[i] = true := fun i h3 => by
    have := hr i (.v vs[i]) (by simp [h3])
    exact this.val
  have hok : ∀ y ∈ vs, okB y = true := fun y hy => by
    obtain ⟨i, hi, rfl⟩ := List.getElem_of_mem hy
    exact (hv i hi).2
  have e : ws = vs.toArray := by
    apply Array.ext
    · simpa using hl
    · intro i h1 h2
      have h3 : i < vs.length := by simpa using h2
      have := (hv i h3).1
      simp [Array.getD, h1] at this
      simpa using this
  rw [e]
  exact (h w hG hok).mono fun e w' ⟨x, h1, h2, h3⟩ => ⟨x, _, β, h1, Kp.of h2 _, fun _ _ _ => rfl, fun _ _ h => .inl h, fun b o h => h.elim .inl fun h => .inr (.inr h), h3 M β, ⟨fun l o hm => (by cases hm), fun l o l' o' b c c' hm => (by cases hm)⟩, fun b ⟨l, o, c, hm, _⟩ => (by cases hm)⟩

/-- The library's variable MaxLen holds some int. -/
def ML (w : World) : Prop := ∃ m : Int, w.cell? ⟨0, 0, none⟩ = some (.int .i64 m)
theorem ML.kp {w w' : World} (h : ML w) (hk : Kp (0 + 1) noS w w') : ML w' := by
  obtain ⟨m, h⟩ := h
  exact ⟨m, (hk.cell (Nat.lt_succ_self _) (fun h => h)).trans h⟩
theorem ML.lt {w : World} (h : ML w) : 0 + 1 ≤ w.heap.size := by
  obtain ⟨m, h⟩ := h
  exact World.block_lt_of_cell? w ⟨_, 0, none⟩ h
/-- The pieces of a string. -/
def pcs (s sep : ByteArray) : List ByteArray := Lib.splitB sep 0 (Lib.countB s sep) s
theorem pcs_size (sep : ByteArray) : ∀ (k : Nat) (s x : ByteArray), x ∈ Lib.splitB sep 0 k s → x.size ≤ s.size
  | 0, s, x, h => by
    rw [Lib.splitB_zero] at h
    simp at h
    rw [h]
    exact Nat.le_refl _
  | k + 1, s, x, h => by
    unfold Lib.splitB at h
    split at h
    · simp at h
      rw [h]
      exact Nat.le_refl _
    · rcases List.mem_cons.1 h with h | h
      · rw [h, ByteArray.size_extract]
        omega
      · have := pcs_size sep k _ x h
        rw [ByteArray.size_extract] at this
        omega
theorem pcs_le {s sep x : ByteArray} (h : x ∈ pcs s sep) : x.size ≤ s.size := pcs_size _ _ _ _ h
theorem pcs_len (s sep : ByteArray) (h1 : 1 ≤ sep.size) : (pcs s sep).length = Lib.countB s sep + 1 := Lib.splitB_all sep h1 0 _ s rfl
theorem pcs_len_le (s : ByteArray) : (pcs s ⟨#[46]⟩).length ≤ s.size + 1 := by
  rw [pcs_len s _ (by decide)]
  have := Lib.countB_le ⟨#[46]⟩ (by decide) _ s (Nat.le_refl _)
  omega

/-- Whether a string is a number of a route, a part of a route; the step that it is. -/
@[irreducible] def digs (s : ByteArray) : Bool := allN s.size (fun k => digitB (bAt s k))
@[irreducible] def indexB (p : ByteArray) : Bool := decide (0 < p.size) && decide (p.size ≤ 4) && digs p && (!decide (bAt p 0 = 48) || decide (p = ⟨#[48]⟩))
/-- A string without the sign before it. -/
def unsigned (s : ByteArray) : ByteArray := ⟨(Lib.trimPrefix s.data.toList (⟨#[45]⟩ : ByteArray).data.toList).toArray⟩
def intB (s : ByteArray) : Bool := decide (0 < (unsigned s).size) && digs (unsigned s)
def partOk (stars : Bool) (p : ByteArray) : Bool := keyOkB p || (stars && decide (p = ⟨#[42]⟩)) || indexB p
structure Stp where
  key : ByteArray
  number : Int
  star : Bool
instance : Inhabited Stp := ⟨⟨⟨#[]⟩, 0, false⟩⟩
def Stp.cell (s : Stp) (j : Nat) : DD :=
  match j with
  | 0 => dS s.key
  | 1 => i64 s.number
  | 2 => dB s.star
  | _ => .opq
def encStep (s : Stp) : DD := .agg [dS s.key, i64 s.number, dB s.star]
def encSteps (l : List Stp) : DD := .sl 3 32 l.length (fun i j => (l.getD i default).cell j)
def stepOf (p : ByteArray) : Stp := if keyOkB p = true then ⟨p, 0, false⟩ else if p = ⟨#[42]⟩ then ⟨⟨#[]⟩, 0, true⟩ else ⟨⟨#[]⟩, numN p, false⟩
@[irreducible] def routeOk (stars : Bool) (s : ByteArray) : Bool := decide (s.size ≤ 400) && (decide (s = ⟨#[]⟩) || (pcs s ⟨#[46]⟩).all (partOk stars))
/-- The parts of a route. -/
@[irreducible] def partsR (s : ByteArray) : List ByteArray := if s = ⟨#[]⟩ then [] else pcs s ⟨#[46]⟩
section
variable (E : Env)
set_option maxRecDepth 100000
end
end Go.Proofs.YtndlgoklgclmjaaDoor
namespace Go.Proofs.YtndlgoklgclmjaaDoor
open Go.RowKit
set_option linter.unusedVariables false
set_option linter.unusedSimpArgs false
theorem unsigned_no {p : ByteArray} (h : ¬ (bAt p 0).toNat = 45) : unsigned p = p := by
  unfold unsigned Lib.trimPrefix
  rw [if_neg]
  intro h2
  refine h ?_
  cases p with | mk d =>
  cases d with | mk l =>
  cases l with
  | nil => simp [Lib.hasPrefix] at h2
  | cons c r =>
    simp [Lib.hasPrefix] at h2
    subst h2
    rfl
theorem digs_of {p : ByteArray} (h1 : intB p = true) (h2 : ¬ (bAt p 0).toNat = 45) : digs p = true := by
  unfold intB at h1
  rw [unsigned_no h2] at h1
  simp at h1
  exact h1.2
theorem digs_of2 {p : ByteArray} (h1 : intB p = true) (h2 : ¬ (((bAt p (Int.toNat 0)).toNat : Int) = 45)) : digs p = true := digs_of h1 (fun h => h2 (by rw [Int.toNat_zero, h]; rfl))
theorem dig_set : ∀ n : Fin 256, digitB (UInt8.ofNat n.val) = ([48, 49, 50, 51, 52, 53, 54, 55, 56, 57] : List UInt8).contains (UInt8.ofNat n.val) := by decide +kernel
theorem idx_iff (p : ByteArray) : indexB p = true ↔ ¬ p = ⟨#[]⟩ ∧ ¬ (4 : Int) < p.size ∧ intB p = true ∧ ¬ (bAt p 0).toNat = 45 ∧ ¬ ((bAt p 0).toNat = 48 ∧ ¬ p = ⟨#[48]⟩) := by
  have hb : bAt p 0 = 48 ↔ (bAt p 0).toNat = 48 := ⟨fun h => by rw [h]; rfl, fun h => UInt8.toNat_inj.1 h⟩
  have h45 : 0 < p.size → digs p = true → ¬ (bAt p 0).toNat = 45 := fun h0 h h2 => by
    unfold digs at h
    have := digitB_iff.1 (allN_iff.1 h 0 h0)
    omega
  have hi : ¬ (bAt p 0).toNat = 45 → intB p = (decide (0 < p.size) && digs p) := fun h => by unfold intB; rw [unsigned_no h]
  have hp : ¬ p = ⟨#[]⟩ ↔ 0 < p.size := ⟨str_pos, fun h e => by subst e; exact absurd h (by decide)⟩
  rw [hp]
  unfold indexB
  simp only [Bool.and_eq_true, Bool.or_eq_true, Bool.not_eq_true', decide_eq_true_eq, decide_eq_false_iff_not, hb]
  constructor
  · rintro ⟨⟨⟨h1, h2⟩, h3⟩, h4⟩
    have h5 := h45 h1 h3
    refine ⟨h1, by omega, by rw [hi h5]; simp [h1, h3], h5, ?_⟩
    rintro ⟨h6, h7⟩
    exact h4.elim (fun h => h h6) h7
  · rintro ⟨h1, h2, h3, h4, h5⟩
    rw [hi h4] at h3
    simp only [Bool.and_eq_true] at h3
    refine ⟨⟨⟨h1, by omega⟩, h3.2⟩, ?_⟩
    by_cases h6 : (bAt p 0).toNat = 48
    · exact .inr (Classical.byContradiction fun h7 => h5 ⟨h6, h7⟩)
    · exact .inl h6
theorem idx_no {p : ByteArray} (h : p = ⟨#[]⟩ ∨ (4 : Int) < p.size ∨ intB p = false ∨ (bAt p 0).toNat = 45 ∨ ((bAt p 0).toNat = 48 ∧ ¬ p = ⟨#[48]⟩)) : indexB p = false := by
  cases e : indexB p
  · rfl
  · obtain ⟨h1, h2, h3, h4, h5⟩ := (idx_iff p).1 e
    rw [h3] at h
    rcases h with h | h | h | h | h
    · exact absurd h h1
    · exact absurd h h2
    · cases h
    · exact absurd h h4
    · exact absurd h h5
theorem no_part {stars : Bool} {p : ByteArray} (h1 : keyOkB p = false) (h2 : stars = false ∨ ¬ p = ⟨#[42]⟩) (h3 : indexB p = false) : partOk stars p = false := by
  unfold partOk
  rw [h1, h3]
  rcases h2 with h2 | h2 <;> simp [h2]
theorem yes_part {stars : Bool} {p : ByteArray} (h3 : indexB p = true) : partOk stars p = true := by
  unfold partOk
  rw [h3]
  simp
@[irreducible] def dgB (s : ByteArray) : Bool := decide (¬ s = ⟨#[]⟩) && digs s
theorem dgB_pos {s : ByteArray} (h : dgB s = true) : 0 < s.size := by
  unfold dgB at h
  simp at h
  exact str_pos h.1
theorem idx_ref (p : ByteArray) : indexB p = true ↔ dgB p = true ∧ (p.size : Int) ≤ 4 ∧ (¬ (bAt p 0).toNat = 48 ∨ p = ⟨#[48]⟩) := by
  have hb : bAt p 0 = 48 ↔ (bAt p 0).toNat = 48 := ⟨fun h => by rw [h]; rfl, fun h => UInt8.toNat_inj.1 h⟩
  have hp : ¬ p = ⟨#[]⟩ ↔ 0 < p.size := ⟨str_pos, fun h e => by subst e; exact absurd h (by decide)⟩
  unfold dgB indexB
  simp only [Bool.and_eq_true, Bool.or_eq_true, Bool.not_eq_true', decide_eq_true_eq, decide_eq_false_iff_not, hb, hp]
  constructor
  · rintro ⟨⟨⟨h1, h2⟩, h3⟩, h4⟩
    exact ⟨⟨h1, h3⟩, by omega, h4⟩
  · rintro ⟨⟨h1, h3⟩, h2, h4⟩
    exact ⟨⟨⟨h1, by omega⟩, h3⟩, h4⟩
theorem idx_refno {p : ByteArray} (h : dgB p = false ∨ ¬ (p.size : Int) ≤ 4 ∨ ((bAt p 0).toNat = 48 ∧ ¬ p = ⟨#[48]⟩)) : indexB p = false := by
  cases e : indexB p
  · rfl
  · obtain ⟨h1, h2, h3⟩ := (idx_ref p).1 e
    rw [h1] at h
    rcases h with h | h | h
    · cases h
    · exact absurd h2 h
    · exact h3.elim (fun h4 => absurd h.1 h4) (fun h4 => absurd h4 h.2)
theorem key_part {stars : Bool} {p : ByteArray} (h : keyOkB p = true) : partOk stars p = true := by unfold partOk; rw [h]; rfl
theorem star_part {stars : Bool} {p : ByteArray} (h : stars = true) (h2 : p = ⟨#[42]⟩) : partOk stars p = true := by unfold partOk; rw [h, h2]; simp
theorem step_idx {p : ByteArray} (h1 : keyOkB p = false) (h2 : indexB p = true) : stepOf p = ⟨⟨#[]⟩, numN p, false⟩ := by
  unfold stepOf
  rw [if_neg (by rw [h1]; decide), if_neg]
  rintro rfl
  have h3 : digs ⟨#[42]⟩ = true := by
    unfold indexB at h2
    simp only [Bool.and_eq_true] at h2
    exact h2.1.2
  unfold digs at h3
  exact absurd (allN_iff.1 h3 0 (by decide)) (by decide)
theorem routeOk_long {stars : Bool} {s : ByteArray} (h : (400 : Int) < s.size) : routeOk stars s = false := by unfold routeOk; rw [decide_eq_false (by omega)]; rfl
theorem routeOk_nil {stars : Bool} {s : ByteArray} (h : s = ⟨#[]⟩) : routeOk stars s = true ∧ partsR s = [] := by subst h; unfold routeOk partsR; exact ⟨rfl, rfl⟩
theorem routeOk_all {stars : Bool} {s : ByteArray} (h : ¬ (400 : Int) < s.size) (h2 : ¬ s = ⟨#[]⟩) : routeOk stars s = (pcs s ⟨#[46]⟩).all (partOk stars) ∧ partsR s = pcs s ⟨#[46]⟩ := by
  unfold routeOk partsR
  rw [decide_eq_true (by omega), decide_eq_false h2, if_neg h2]
  exact ⟨rfl, rfl⟩
theorem all_end {stars : Bool} {ps : List ByteArray} {k : Nat} (h : allN k (fun i => partOk stars (ps.getD i ⟨#[]⟩)) = true) (hk : ps.length ≤ k) : ps.all (partOk stars) = true := by
  rw [List.all_eq_true]
  intro x hx
  obtain ⟨i, hi, rfl⟩ := List.getElem_of_mem hx
  have := allN_iff.1 h i (by omega)
  simpa [List.getD, hi] using this
theorem all_no {stars : Bool} {ps : List ByteArray} {k : Nat} (hk : k < ps.length) (h : partOk stars (ps.getD k ⟨#[]⟩) = false) : ps.all (partOk stars) = false := by
  rw [List.all_eq_false]
  exact ⟨_, getD_mem ps ⟨#[]⟩ k hk, by rw [h]; decide⟩
section
variable (E : Env)
theorem row_stp (f : Nat → Stp) (k i j : Nat) (c : Stp) (hc : f k = c) (hi : i < k + 1) (hj : j < 3) : Dle (cx Tryd.prog mixed tyT_ok E) (if i < k then (f i).cell j else ([dS c.key, i64 c.number, dB c.star] : List DD).getD ((i - k + 0) * 3 + j) .opq) ((f i).cell j) :=
  row_one (X := (cx Tryd.prog mixed tyT_ok E)) (f := fun i j => (f i).cell j) (g := fun i j => (f i).cell j) (fun _ _ _ _ => Dle.refl _ _) (fun j hj => by
    show Dle _ _ ((f k).cell j)
    rw [hc]
    match j, hj with
    | 0, _ => exact Dle.refl _ _
    | 1, _ => exact Dle.refl _ _
    | 2, _ => exact Dle.refl _ _) i j hi hj
set_option maxRecDepth 100000
end
end Go.Proofs.YtndlgoklgclmjaaDoor
