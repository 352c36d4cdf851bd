/-
  Routes: strings.Split, strconv.Atoi by data; the reference's digitsAlone, RouteParts.
-/
import Derived.Test.YtagggnjcpjodjaaDoorU0
import Derived.Test.YtagggnjcpjodjaaDoorS0
import Derived.Test.YtagggnjcpjodjaaDoorPV
import Derived.Test.YtagggnjcpjodjaaDoorQ7
import Derived.Test.YtagggnjcpjodjaaDoorQ8
import Derived.Lib.SmallJoins
namespace Go.Proofs.YtagggnjcpjodjaaDoor
open Go.RowKit
set_option linter.unusedVariables false
set_option linter.unusedSimpArgs false
/-- A contract of plain arguments whose result may lie in new memory. -/
theorem Sp.of_new {κ : Type} {X : Cx κ} {f : FuncId} {vs : List Value} {d : D κ} (he : Ent X.P f)
    (h : ∀ w, X.G w → (∀ y ∈ vs, okB y = true) → Calls X.P f vs.toArray w fun e w' => ∃ x, e = .returned x ∧ Below w.heap.size w w' ∧ ∀ (M : Nat → Nat → Prop) (β : Bt), Rep X.V (fun b o => M b o ∨ (w.heap.size ≤ b ∧ b < w'.heap.size)) w' β d x) : Sp X f (vs.map .v) d := by
  refine .inl ⟨he, fun M β w ws hG hMG hM hl hr hp hb => ?_⟩
  have hv : ∀ i (h3 : i < vs.length), ws.getD i undef = vs[i] ∧ okB vs[i] = true := fun i h3 => by
    have := hr i (.v vs[i]) (by simp [h3])
    exact this.val
  have hok : ∀ y ∈ vs, okB y = true := fun y hy => by
    obtain ⟨i, hi, rfl⟩ := List.getElem_of_mem hy
    exact (hv i hi).2
  have e : ws = vs.toArray := by
    apply Array.ext
    · simpa using hl
    · intro i h1 h2
      have h3 : i < vs.length := by simpa using h2
      have := (hv i h3).1
      simp [Array.getD, h1] at this
      simpa using this
  rw [e]
  exact (h w hG hok).mono fun e w' ⟨x, h1, h2, h3⟩ => ⟨x, _, β, h1, Kp.of h2 _, fun _ _ _ => rfl, fun _ _ h => .inl h, fun b o h => h.elim .inl fun h => .inr (.inr h), h3 M β, ⟨fun l o hm => (by cases hm), fun l o l' o' b c c' hm => (by cases hm)⟩, fun b ⟨l, o, c, hm, _⟩ => (by cases hm)⟩

/-- The library's variable MaxLen holds some int. -/
def ML (w : World) : Prop := ∃ m : Int, w.cell? ⟨1, 0, none⟩ = some (.int .i64 m)
theorem ML.kp {w w' : World} (h : ML w) (hk : Kp (1 + 1) noS w w') : ML w' := by
  obtain ⟨m, h⟩ := h
  exact ⟨m, (hk.cell (Nat.lt_succ_self _) (fun h => h)).trans h⟩
theorem ML.lt {w : World} (h : ML w) : 1 + 1 ≤ w.heap.size := by
  obtain ⟨m, h⟩ := h
  exact World.block_lt_of_cell? w ⟨_, 0, none⟩ h
/-- Whether a string is a number of a route, a part of a route; the step that it is. -/
@[irreducible] def digs (s : ByteArray) : Bool := allN s.size (fun k => digitB (bAt s k))
@[irreducible] def indexB (p : ByteArray) : Bool := decide (0 < p.size) && decide (p.size ≤ 4) && digs p && (!decide (bAt p 0 = 48) || decide (p = ⟨#[48]⟩))
def partOk (stars : Bool) (p : ByteArray) : Bool := keyOkB p || (stars && decide (p = ⟨#[42]⟩)) || indexB p
@[irreducible] def routeOk (stars : Bool) (s : ByteArray) : Bool := decide (s.size ≤ 400) && (decide (s = ⟨#[]⟩) || (pcs s ⟨#[46]⟩).all (partOk stars))
/-- The parts of a route. -/
@[irreducible] def partsR (s : ByteArray) : List ByteArray := if s = ⟨#[]⟩ then [] else pcs s ⟨#[46]⟩
theorem dig_set : ∀ n : Fin 256, digitB (UInt8.ofNat n.val) = ([48, 49, 50, 51, 52, 53, 54, 55, 56, 57] : List UInt8).contains (UInt8.ofNat n.val) := by decide +kernel
@[irreducible] def dgB (s : ByteArray) : Bool := decide (¬ s = ⟨#[]⟩) && digs s
theorem dgB_pos {s : ByteArray} (h : dgB s = true) : 0 < s.size := by
  unfold dgB at h
  simp at h
  exact str_pos h.1
theorem idx_ref (p : ByteArray) : indexB p = true ↔ dgB p = true ∧ (p.size : Int) ≤ 4 ∧ (¬ (bAt p 0).toNat = 48 ∨ p = ⟨#[48]⟩) := by
  have hb : bAt p 0 = 48 ↔ (bAt p 0).toNat = 48 := ⟨fun h => by rw [h]; rfl, fun h => UInt8.toNat_inj.1 h⟩
  have hp : ¬ p = ⟨#[]⟩ ↔ 0 < p.size := ⟨str_pos, fun h e => by subst e; exact absurd h (by decide)⟩
  unfold dgB indexB
  simp only [Bool.and_eq_true, Bool.or_eq_true, Bool.not_eq_true', decide_eq_true_eq, decide_eq_false_iff_not, hb, hp]
  constructor
  · rintro ⟨⟨⟨h1, h2⟩, h3⟩, h4⟩
    exact ⟨⟨h1, h3⟩, by omega, h4⟩
  · rintro ⟨⟨h1, h3⟩, h2, h4⟩
    exact ⟨⟨⟨h1, by omega⟩, h3⟩, h4⟩
theorem idx_refno {p : ByteArray} (h : dgB p = false ∨ ¬ (p.size : Int) ≤ 4 ∨ ((bAt p 0).toNat = 48 ∧ ¬ p = ⟨#[48]⟩)) : indexB p = false := by
  cases e : indexB p
  · rfl
  · obtain ⟨h1, h2, h3⟩ := (idx_ref p).1 e
    rw [h1] at h
    rcases h with h | h | h
    · cases h
    · exact absurd h2 h
    · exact h3.elim (fun h4 => absurd h.1 h4) (fun h4 => absurd h4 h.2)
theorem key_part {stars : Bool} {p : ByteArray} (h : keyOkB p = true) : partOk stars p = true := by unfold partOk; rw [h]; rfl
theorem star_part {stars : Bool} {p : ByteArray} (h : stars = true) (h2 : p = ⟨#[42]⟩) : partOk stars p = true := by unfold partOk; rw [h, h2]; simp
theorem no_part {stars : Bool} {p : ByteArray} (h1 : keyOkB p = false) (h2 : stars = false ∨ ¬ p = ⟨#[42]⟩) (h3 : indexB p = false) : partOk stars p = false := by
  unfold partOk
  rw [h1, h3]
  rcases h2 with h2 | h2 <;> simp [h2]
theorem yes_part {stars : Bool} {p : ByteArray} (h3 : indexB p = true) : partOk stars p = true := by
  unfold partOk
  rw [h3]
  simp
theorem routeOk_long {stars : Bool} {s : ByteArray} (h : (400 : Int) < s.size) : routeOk stars s = false := by unfold routeOk; rw [decide_eq_false (by omega)]; rfl
theorem routeOk_nil {stars : Bool} {s : ByteArray} (h : s = ⟨#[]⟩) : routeOk stars s = true ∧ partsR s = [] := by subst h; unfold routeOk partsR; exact ⟨rfl, rfl⟩
theorem routeOk_all {stars : Bool} {s : ByteArray} (h : ¬ (400 : Int) < s.size) (h2 : ¬ s = ⟨#[]⟩) : routeOk stars s = (pcs s ⟨#[46]⟩).all (partOk stars) ∧ partsR s = pcs s ⟨#[46]⟩ := by
  unfold routeOk partsR
  rw [decide_eq_true (by omega), decide_eq_false h2, if_neg h2]
  exact ⟨rfl, rfl⟩
theorem all_end {stars : Bool} {ps : List ByteArray} {k : Nat} (h : allN k (fun i => partOk stars (ps.getD i ⟨#[]⟩)) = true) (hk : ps.length ≤ k) : ps.all (partOk stars) = true := by
  rw [List.all_eq_true]
  intro x hx
  obtain ⟨i, hi, rfl⟩ := List.getElem_of_mem hx
  have := allN_iff.1 h i (by omega)
  simpa [List.getD, hi] using this
theorem all_no {stars : Bool} {ps : List ByteArray} {k : Nat} (hk : k < ps.length) (h : partOk stars (ps.getD k ⟨#[]⟩) = false) : ps.all (partOk stars) = false := by
  rw [List.all_eq_false]
  exact ⟨_, getD_mem ps ⟨#[]⟩ k hk, by rw [h]; decide⟩
section
variable (E : Env)
set_option maxRecDepth 100000
theorem split_sp (hML : ∀ w, E.G w → ML w) (s sep : ByteArray) (hs : s.size < 4294967281) (h1 : 1 ≤ sep.size) : Sp (cx Tryd.prog mixed tyT_ok E) 37 [dS s, dS sep] (encStrs (pcs s sep)) := by
  refine Sp.of_new (vs := [.string s, .string sep]) ⟨_, _, Tryd.func37, by kernel_rfl, rfl⟩ ?_
  intro w hG hok
  obtain ⟨m, hm⟩ := hML w hG
  refine (Tryd.strings_Split s sep m w hs hm h1).mono fun e w' ⟨he, hw⟩ => ?_
  subst hw
  have hlen := pcs_len s sep h1
  have hc : (pcs s sep).length ≤ s.size + 1 := by
    rw [hlen]
    have := Lib.countB_le sep h1 _ s (Nat.le_refl _)
    omega
  refine ⟨_, he, Below.alloc (Below.refl _ _) (Nat.le_refl _) _, fun M β => ?_⟩
  rw [← hlen]
  refine Rep.sl (fun i j => .string ((pcs s sep).getD i ⟨#[]⟩)) (Nat.le_refl _) (by show _ ≤ 9223372036854775807; omega) (by omega) (fun i j hi hj => ?_) (fun i j hi hj => ?_)
  · obtain rfl : j = 0 := by omega
    refine ⟨.inr ⟨Nat.le_refl _, ?_⟩, ?_, rfl⟩
    · show w.heap.size < (w.heap.push _).size
      rw [Array.size_push]
      omega
    · rw [World.cell?_alloc_at _ _ _ _ rfl]
      show ((pcs s sep).map Value.string).toArray[0 + i * 1 + 0]? = _
      simp [hi, List.getD]
  · refine Rep.v (decide_eq_true ?_)
    have : (pcs s sep).getD i ⟨#[]⟩ ∈ pcs s sep := getD_mem _ _ _ hi
    have := pcs_le this
    show _ ≤ 9223372036854775807
    omega
end
end Go.Proofs.YtagggnjcpjodjaaDoor
