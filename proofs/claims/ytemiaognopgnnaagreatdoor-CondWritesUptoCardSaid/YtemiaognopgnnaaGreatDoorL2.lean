/-
  Opening arguments, over any program: a slice argument of any element type reads as a list; structs of one-cell fields by value.
-/
import Derived.Test.YtemiaognopgnnaaGreatDoorL0
import Derived.ProofKit
import Derived.OpenShut
import Derived.Deep.Slices
import Derived.Lib.SmallJoins
namespace Go.Proofs.YtemiaognopgnnaaGreatDoor
open Go.RowKit Go.WideShapes Go.ChangeShapes Go.ChangeAt

section
variable {H : Type} {enc : TypeId × Value → H} {P : Program} {W : World} {base : Nat} {sp : Nat → Bool} {held : Bool}

/-- A slice's shape as an argument may have it. -/
structure SlArg (A : Option Addr) (n c : Nat) : Prop where
  nc : n ≤ c
  cm : c ≤ maxLen
  nil : A = none → c = 0

theorem SlArg.n_le {A : Option Addr} {n c : Nat} (h : SlArg A n c) : n ≤ 9223372036854775807 := by
  have h1 := h.nc
  have h2 := h.cm
  unfold maxLen at h2
  omega

theorem open_raw {t e : TypeId} {fuel : Nat} {v : Value} {x : DataW H × List MemPlace} (ht : P.underlying t = some (.slice e)) (hs : 0 < P.cellsOf e) (h : DataW.trod enc P W base sp held fuel t [v] = some x) :
    ∃ (A : Option Addr) (n c : Nat) (l : List (List Value)), v = .slice A n c ∧ l.length = n ∧ SlArg A n c ∧ Rd W (P.cellsOf e) id A l ∧
      ∀ cs ∈ l, cs.length = P.cellsOf e ∧ ∃ fuel' y, DataW.trod enc P W base sp held fuel' e cs = some y := by
  rcases Go.Deep.open_slice ht h with ⟨hcs, _⟩ | ⟨a, len, cap, m, n, D, Pl, hcs, _, hl, hm, hmm, _, hi⟩
  · injection hcs with hv _
    exact ⟨none, 0, 0, [], hv, rfl, ⟨by omega, by unfold maxLen; omega, fun _ => rfl⟩, Rd.nil _ _ _ _, fun cs hc => by simp at hc⟩
  · injection hcs with hv _
    have hlm : len ≤ m := by rw [hmm]; split <;> omega
    have hex : ∀ i, ∃ cs, i < len → W.cells? base (a.add (i * P.cellsOf e)) (P.cellsOf e) = some cs ∧ DataW.trod enc P W base sp held n e cs = some (D i, Pl i) := by
      intro i
      by_cases hil : i < len
      · obtain ⟨cs, h1, h2⟩ := hi i (by omega)
        exact ⟨cs, fun _ => ⟨h1, h2⟩⟩
      · exact ⟨[], fun h => absurd h hil⟩
    have hch := Classical.axiomOfChoice hex
    obtain ⟨C, hC⟩ := hch
    refine ⟨some a, len, cap, (List.range len).map C, hv, by simp, ⟨hl, hm, fun h => by cases h⟩, ?_, ?_⟩
    · rcases Nat.eq_zero_or_pos len with h0 | h0
      · subst h0
        exact .inl rfl
      · obtain ⟨h1, _⟩ := hC 0 h0
        obtain ⟨_, hlen0, h2⟩ := World.cells?_some h1
        have h3 := h2 0 hs
        have hspot : a.spot = none := by
          have h4 : (C 0)[0]? = some ((C 0)[0]'(by omega)) := List.getElem?_eq_getElem (by omega)
          rw [h4] at h3
          have := World.cell?_spot h3
          simpa [Addr.add] using this
        obtain ⟨b, o, spot⟩ := a
        simp only at hspot
        subst hspot
        refine .inr ⟨b, o, rfl, fun k y hy j u hu => ?_⟩
        have hk : k < len := by
          have := (List.getElem?_eq_some_iff.1 hy).1
          simpa using this
        rw [List.getElem?_map, List.getElem?_range hk] at hy
        injection hy with hy
        subst hy
        obtain ⟨h1, _⟩ := hC k hk
        obtain ⟨_, hlen, h2⟩ := World.cells?_some h1
        have hj : j < P.cellsOf e := by rw [← hlen]; exact (List.getElem?_eq_some_iff.1 hu).1
        have h3 := h2 j hj
        rw [Go.Deep.add_add, Go.WideShapes.add_plain, ← Nat.add_assoc] at h3
        exact h3.trans hu
    · intro cs hcs
      obtain ⟨i, hi', rfl⟩ := List.mem_map.1 hcs
      have hil : i < len := List.mem_range.1 hi'
      obtain ⟨h1, h2⟩ := hC i hil
      exact ⟨(World.cells?_some h1).2.1, _, _, h2⟩

/-- The elements decoded. -/
theorem open_list {α : Type} (f : α → List Value) (good : α → Prop) {t e : TypeId} {fuel : Nat} {v : Value} {x : DataW H × List MemPlace} (ht : P.underlying t = some (.slice e)) (size : Nat) (hsz : P.cellsOf e = size) (hs : 0 < size)
    (dec : ∀ cs fuel' y, cs.length = size → DataW.trod enc P W base sp held fuel' e cs = some y → ∃ a, cs = f a ∧ good a) (h : DataW.trod enc P W base sp held fuel t [v] = some x) :
    ∃ (A : Option Addr) (n c : Nat) (l : List α), v = .slice A n c ∧ l.length = n ∧ SlArg A n c ∧ Rd W size f A l ∧ ∀ a ∈ l, good a := by
  subst hsz
  obtain ⟨A, n, c, l, hv, hn, hsl, hr, hd⟩ := open_raw ht hs h
  have key : ∀ l : List (List Value), (∀ cs ∈ l, cs.length = P.cellsOf e ∧ ∃ fuel' y, DataW.trod enc P W base sp held fuel' e cs = some y) → ∃ l' : List α, l = l'.map f ∧ ∀ a ∈ l', good a := by
    intro l
    induction l with
    | nil => intro _; exact ⟨[], rfl, fun a h => by simp at h⟩
    | cons cs l ih =>
      intro hd
      obtain ⟨hl, fu, y, hy⟩ := hd cs (List.mem_cons_self)
      obtain ⟨a, ha, hg⟩ := dec cs fu y hl hy
      obtain ⟨l', hl', hg'⟩ := ih (fun cs' h' => hd cs' (List.mem_cons_of_mem _ h'))
      refine ⟨a :: l', by rw [List.map_cons, ← ha, ← hl'], fun b hb => ?_⟩
      rcases List.mem_cons.1 hb with rfl | hb
      · exact hg
      · exact hg' b hb
  obtain ⟨l', rfl, hg⟩ := key l hd
  refine ⟨A, n, c, l', hv, by simpa using hn, hsl, ?_, hg⟩
  rcases hr with h0 | ⟨b, o, rfl, hr⟩
  · exact .inl (by simpa using h0)
  · refine .inr ⟨b, o, rfl, fun k y hy j u hu => hr k (f y) (by rw [List.getElem?_map, hy]; rfl) j u hu⟩

theorem trod_int1 {t : TypeId} {k : IntKind} {fuel : Nat} {cs : List Value} {y : DataW H × List MemPlace} (ht : P.underlying t = some (.int k)) (h : DataW.trod enc P W base sp held fuel t cs = some y) : ∃ n : Int, cs = [.int k n] ∧ (Lit.int k n).wf = true := by
  obtain ⟨n, hc, _, hw⟩ := DataW.trod_int ht h
  exact ⟨n, hc, hw⟩
theorem trod_str1 {t : TypeId} {fuel : Nat} {cs : List Value} {y : DataW H × List MemPlace} (ht : P.underlying t = some .string) (h : DataW.trod enc P W base sp held fuel t cs = some y) : ∃ s : ByteArray, cs = [.string s] ∧ s.size ≤ maxLen := by
  obtain ⟨s, hc, _, hs⟩ := DataW.trod_string ht h
  exact ⟨s, hc, hs⟩
theorem trod_bool1 {t : TypeId} {fuel : Nat} {cs : List Value} {y : DataW H × List MemPlace} (ht : P.underlying t = some .bool) (h : DataW.trod enc P W base sp held fuel t cs = some y) : ∃ b : Bool, cs = [.bool b] := by
  obtain ⟨b, hc, _⟩ := DataW.trod_bool ht h
  exact ⟨b, hc⟩

/-- An int's one cell; a string's one cell. -/
def icell (x : Int) : List Value := [.int .i64 x]
def scell (s : ByteArray) : List Value := [.string s]
theorem icell_len (x : Int) : (icell x).length = 1 := rfl
theorem icells_map (l : List Int) : l.flatMap icell = l.map (Value.int .i64) := by
  induction l with
  | nil => rfl
  | cons a l ih => simp [icell, ih]
theorem scell_len (x : ByteArray) : (scell x).length = 1 := rfl

/-- An int in int64's range. -/
def In64 (n : Int) : Prop := -9223372036854775808 ≤ n ∧ n ≤ 9223372036854775807
theorem in64_of {n : Int} (h : (Lit.int .i64 n).wf = true) : In64 n := by
  simpa [Lit.wf, IntKind.min, IntKind.max, IntKind.signed, IntKind.bits, In64] using h

theorem open_intl {t e : TypeId} {fuel : Nat} {v : Value} {x : DataW H × List MemPlace} (ht : P.underlying t = some (.slice e)) (he : P.underlying e = some (.int .i64)) (hsz : P.cellsOf e = 1) (h : DataW.trod enc P W base sp held fuel t [v] = some x) :
    ∃ (A : Option Addr) (n c : Nat) (l : List Int), v = .slice A n c ∧ l.length = n ∧ SlArg A n c ∧ Rd W 1 icell A l ∧ ∀ a ∈ l, In64 a :=
  open_list icell In64 ht 1 hsz (by decide) (fun cs fu y _ hy => by
    obtain ⟨n, hc, hw⟩ := trod_int1 he hy
    exact ⟨n, hc, in64_of hw⟩) h

theorem open_strl {t e : TypeId} {fuel : Nat} {v : Value} {x : DataW H × List MemPlace} (ht : P.underlying t = some (.slice e)) (he : P.underlying e = some .string) (hsz : P.cellsOf e = 1) (h : DataW.trod enc P W base sp held fuel t [v] = some x) :
    ∃ (A : Option Addr) (n c : Nat) (l : List ByteArray), v = .slice A n c ∧ l.length = n ∧ SlArg A n c ∧ Rd W 1 scell A l ∧ ∀ a ∈ l, a.size ≤ maxLen :=
  open_list scell (fun s => s.size ≤ maxLen) ht 1 hsz (by decide) (fun cs fu y _ hy => trod_str1 he hy) h
end
end Go.Proofs.YtemiaognopgnnaaGreatDoor
