/-
  Opening arguments, over any program: a slice argument of any element type reads as a list; structs of one-cell fields by value. Opening arguments, over any program, with the bound on sizes that every row has: 'Rdg': the cells read as a value of the type, each string, slice and map in it within the reach.
-/
import Derived.Test.YtiaibkbflmamgaaGreatDoorL0
import Derived.ProofKit
import Derived.OpenShut
import Derived.Deep.Slices
import Derived.Lib.SmallJoins
import Derived.SizedLaws
namespace Go.Proofs.YtiaibkbflmamgaaGreatDoor
open Go.RowKit Go.WideShapes Go.ChangeShapes Go.ChangeAt

section
variable {H : Type} {enc : TypeId × Value → H} {P : Program} {W : World} {base : Nat} {sp : Nat → Bool} {held : Bool}

/-- A slice's shape as an argument may have it. -/
structure SlArg (A : Option Addr) (n c : Nat) : Prop where
  nc : n ≤ c
  cm : c ≤ maxLen
  nil : A = none → c = 0

theorem SlArg.n_le {A : Option Addr} {n c : Nat} (h : SlArg A n c) : n ≤ 9223372036854775807 := by
  have h1 := h.nc
  have h2 := h.cm
  unfold maxLen at h2
  omega

theorem open_raw {t e : TypeId} {fuel : Nat} {v : Value} {x : DataW H × List MemPlace} (ht : P.underlying t = some (.slice e)) (hs : 0 < P.cellsOf e) (h : DataW.trod enc P W base sp held fuel t [v] = some x) :
    ∃ (A : Option Addr) (n c : Nat) (l : List (List Value)), v = .slice A n c ∧ l.length = n ∧ SlArg A n c ∧ Rd W (P.cellsOf e) id A l ∧
      ∀ cs ∈ l, cs.length = P.cellsOf e ∧ ∃ fuel' y, DataW.trod enc P W base sp held fuel' e cs = some y := by
  rcases Go.Deep.open_slice ht h with ⟨hcs, _⟩ | ⟨a, len, cap, m, n, D, Pl, hcs, _, hl, hm, hmm, _, hi⟩
  · injection hcs with hv _
    exact ⟨none, 0, 0, [], hv, rfl, ⟨by omega, by unfold maxLen; omega, fun _ => rfl⟩, Rd.nil _ _ _ _, fun cs hc => by simp at hc⟩
  · injection hcs with hv _
    have hlm : len ≤ m := by rw [hmm]; split <;> omega
    have hex : ∀ i, ∃ cs, i < len → W.cells? base (a.add (i * P.cellsOf e)) (P.cellsOf e) = some cs ∧ DataW.trod enc P W base sp held n e cs = some (D i, Pl i) := by
      intro i
      by_cases hil : i < len
      · obtain ⟨cs, h1, h2⟩ := hi i (by omega)
        exact ⟨cs, fun _ => ⟨h1, h2⟩⟩
      · exact ⟨[], fun h => absurd h hil⟩
    have hch := Classical.axiomOfChoice hex
    obtain ⟨C, hC⟩ := hch
    refine ⟨some a, len, cap, (List.range len).map C, hv, by simp, ⟨hl, hm, fun h => by cases h⟩, ?_, ?_⟩
    · rcases Nat.eq_zero_or_pos len with h0 | h0
      · subst h0
        exact .inl rfl
      · obtain ⟨h1, _⟩ := hC 0 h0
        obtain ⟨_, hlen0, h2⟩ := World.cells?_some h1
        have h3 := h2 0 hs
        have hspot : a.spot = none := by
          have h4 : (C 0)[0]? = some ((C 0)[0]'(by omega)) := List.getElem?_eq_getElem (by omega)
          rw [h4] at h3
          have := World.cell?_spot h3
          simpa [Addr.add] using this
        obtain ⟨b, o, spot⟩ := a
        simp only at hspot
        subst hspot
        refine .inr ⟨b, o, rfl, fun k y hy j u hu => ?_⟩
        have hk : k < len := by
          have := (List.getElem?_eq_some_iff.1 hy).1
          simpa using this
        rw [List.getElem?_map, List.getElem?_range hk] at hy
        injection hy with hy
        subst hy
        obtain ⟨h1, _⟩ := hC k hk
        obtain ⟨_, hlen, h2⟩ := World.cells?_some h1
        have hj : j < P.cellsOf e := by rw [← hlen]; exact (List.getElem?_eq_some_iff.1 hu).1
        have h3 := h2 j hj
        rw [Go.Deep.add_add, Go.WideShapes.add_plain, ← Nat.add_assoc] at h3
        exact h3.trans hu
    · intro cs hcs
      obtain ⟨i, hi', rfl⟩ := List.mem_map.1 hcs
      have hil : i < len := List.mem_range.1 hi'
      obtain ⟨h1, h2⟩ := hC i hil
      exact ⟨(World.cells?_some h1).2.1, _, _, h2⟩

/-- The elements decoded. -/
theorem open_list {α : Type} (f : α → List Value) (good : α → Prop) {t e : TypeId} {fuel : Nat} {v : Value} {x : DataW H × List MemPlace} (ht : P.underlying t = some (.slice e)) (size : Nat) (hsz : P.cellsOf e = size) (hs : 0 < size)
    (dec : ∀ cs fuel' y, cs.length = size → DataW.trod enc P W base sp held fuel' e cs = some y → ∃ a, cs = f a ∧ good a) (h : DataW.trod enc P W base sp held fuel t [v] = some x) :
    ∃ (A : Option Addr) (n c : Nat) (l : List α), v = .slice A n c ∧ l.length = n ∧ SlArg A n c ∧ Rd W size f A l ∧ ∀ a ∈ l, good a := by
  subst hsz
  obtain ⟨A, n, c, l, hv, hn, hsl, hr, hd⟩ := open_raw ht hs h
  have key : ∀ l : List (List Value), (∀ cs ∈ l, cs.length = P.cellsOf e ∧ ∃ fuel' y, DataW.trod enc P W base sp held fuel' e cs = some y) → ∃ l' : List α, l = l'.map f ∧ ∀ a ∈ l', good a := by
    intro l
    induction l with
    | nil => intro _; exact ⟨[], rfl, fun a h => by simp at h⟩
    | cons cs l ih =>
      intro hd
      obtain ⟨hl, fu, y, hy⟩ := hd cs (List.mem_cons_self)
      obtain ⟨a, ha, hg⟩ := dec cs fu y hl hy
      obtain ⟨l', hl', hg'⟩ := ih (fun cs' h' => hd cs' (List.mem_cons_of_mem _ h'))
      refine ⟨a :: l', by rw [List.map_cons, ← ha, ← hl'], fun b hb => ?_⟩
      rcases List.mem_cons.1 hb with rfl | hb
      · exact hg
      · exact hg' b hb
  obtain ⟨l', rfl, hg⟩ := key l hd
  refine ⟨A, n, c, l', hv, by simpa using hn, hsl, ?_, hg⟩
  rcases hr with h0 | ⟨b, o, rfl, hr⟩
  · exact .inl (by simpa using h0)
  · refine .inr ⟨b, o, rfl, fun k y hy j u hu => hr k (f y) (by rw [List.getElem?_map, hy]; rfl) j u hu⟩

theorem trod_int1 {t : TypeId} {k : IntKind} {fuel : Nat} {cs : List Value} {y : DataW H × List MemPlace} (ht : P.underlying t = some (.int k)) (h : DataW.trod enc P W base sp held fuel t cs = some y) : ∃ n : Int, cs = [.int k n] ∧ (Lit.int k n).wf = true := by
  obtain ⟨n, hc, _, hw⟩ := DataW.trod_int ht h
  exact ⟨n, hc, hw⟩
theorem trod_str1 {t : TypeId} {fuel : Nat} {cs : List Value} {y : DataW H × List MemPlace} (ht : P.underlying t = some .string) (h : DataW.trod enc P W base sp held fuel t cs = some y) : ∃ s : ByteArray, cs = [.string s] ∧ s.size ≤ maxLen := by
  obtain ⟨s, hc, _, hs⟩ := DataW.trod_string ht h
  exact ⟨s, hc, hs⟩
theorem trod_bool1 {t : TypeId} {fuel : Nat} {cs : List Value} {y : DataW H × List MemPlace} (ht : P.underlying t = some .bool) (h : DataW.trod enc P W base sp held fuel t cs = some y) : ∃ b : Bool, cs = [.bool b] := by
  obtain ⟨b, hc, _⟩ := DataW.trod_bool ht h
  exact ⟨b, hc⟩

/-- An int's one cell; a string's one cell. -/
def icell (x : Int) : List Value := [.int .i64 x]
def scell (s : ByteArray) : List Value := [.string s]
theorem icell_len (x : Int) : (icell x).length = 1 := rfl
theorem icells_map (l : List Int) : l.flatMap icell = l.map (Value.int .i64) := by
  induction l with
  | nil => rfl
  | cons a l ih => simp [icell, ih]
theorem scell_len (x : ByteArray) : (scell x).length = 1 := rfl

/-- An int in int64's range. -/
def In64 (n : Int) : Prop := -9223372036854775808 ≤ n ∧ n ≤ 9223372036854775807
theorem in64_of {n : Int} (h : (Lit.int .i64 n).wf = true) : In64 n := by
  simpa [Lit.wf, IntKind.min, IntKind.max, IntKind.signed, IntKind.bits, In64] using h

theorem open_intl {t e : TypeId} {fuel : Nat} {v : Value} {x : DataW H × List MemPlace} (ht : P.underlying t = some (.slice e)) (he : P.underlying e = some (.int .i64)) (hsz : P.cellsOf e = 1) (h : DataW.trod enc P W base sp held fuel t [v] = some x) :
    ∃ (A : Option Addr) (n c : Nat) (l : List Int), v = .slice A n c ∧ l.length = n ∧ SlArg A n c ∧ Rd W 1 icell A l ∧ ∀ a ∈ l, In64 a :=
  open_list icell In64 ht 1 hsz (by decide) (fun cs fu y _ hy => by
    obtain ⟨n, hc, hw⟩ := trod_int1 he hy
    exact ⟨n, hc, in64_of hw⟩) h

theorem open_strl {t e : TypeId} {fuel : Nat} {v : Value} {x : DataW H × List MemPlace} (ht : P.underlying t = some (.slice e)) (he : P.underlying e = some .string) (hsz : P.cellsOf e = 1) (h : DataW.trod enc P W base sp held fuel t [v] = some x) :
    ∃ (A : Option Addr) (n c : Nat) (l : List ByteArray), v = .slice A n c ∧ l.length = n ∧ SlArg A n c ∧ Rd W 1 scell A l ∧ ∀ a ∈ l, a.size ≤ maxLen :=
  open_list scell (fun s => s.size ≤ maxLen) ht 1 hsz (by decide) (fun cs fu y _ hy => trod_str1 he hy) h
end
end Go.Proofs.YtiaibkbflmamgaaGreatDoor
namespace Go.Proofs.YtiaibkbflmamgaaGreatDoor
open Go.RowKit Go.WideShapes Go.ChangeShapes Go.ChangeAt

theorem reach_eq : reachBytes = 140737488351232 := by decide

/-- Every size in a datum is within the reach. -/
def Sz {H : Type} (P : Program) (t : TypeId) (d : DataW H) : Prop := ∀ n ∈ d.weights P t, n ≤ reachBytes

def Rdg {H : Type} (enc : TypeId × Value → H) (P : Program) (W : World) (t : TypeId) (cs : List Value) : Prop :=
  ∃ fuel y, DataW.trod enc P W 0 (fun _ => true) true fuel t cs = some y ∧ Sz P t y.1

section
variable {H : Type} {enc : TypeId × Value → H} {P : Program} {W : World}

theorem rdg_param {ts : List TypeId} {ds : List (DataW H)} (hsz : (DataW.weightsEach P ts ds).all (· ≤ reachBytes) = true) (j : Nat) {t : TypeId} {v : Value} {d : DataW H} {p : List MemPlace} (ht : ts[j]? = some t) (hd : ds[j]? = some d)
    (h : DataW.Trod enc P W 0 (fun _ => true) true t v d p) : Rdg enc P W t v.cells.toList := by
  obtain ⟨fuel, hf⟩ := h
  refine ⟨fuel, _, hf, fun n hn => ?_⟩
  exact of_decide_eq_true (List.all_eq_true.1 hsz _ (DataW.weights_mem_each ht hd n hn))

theorem rdg_int {t : TypeId} {k : IntKind} {cs : List Value} (ht : P.underlying t = some (.int k)) (h : Rdg enc P W t cs) : ∃ n : Int, cs = [.int k n] ∧ (Lit.int k n).wf = true := by
  obtain ⟨fu, y, hy, _⟩ := h
  exact trod_int1 ht hy
theorem rdg_i64 {t : TypeId} {cs : List Value} (ht : P.underlying t = some (.int .i64)) (h : Rdg enc P W t cs) : ∃ n : Int, cs = [.int .i64 n] ∧ In64 n := by
  obtain ⟨n, hc, hw⟩ := rdg_int ht h
  exact ⟨n, hc, in64_of hw⟩
theorem rdg_bool {t : TypeId} {cs : List Value} (ht : P.underlying t = some .bool) (h : Rdg enc P W t cs) : ∃ b : Bool, cs = [.bool b] := by
  obtain ⟨fu, y, hy, _⟩ := h
  exact trod_bool1 ht hy
theorem rdg_str {t : TypeId} {cs : List Value} (ht : P.underlying t = some .string) (h : Rdg enc P W t cs) : ∃ s : ByteArray, cs = [.string s] ∧ s.size ≤ 140737488351232 := by
  obtain ⟨fu, y, hy, hs⟩ := h
  obtain ⟨s, hc, he, _⟩ := DataW.trod_string ht hy
  refine ⟨s, hc, ?_⟩
  have := hs s.data.toList.length (by rw [he]; simp [DataW.weights])
  rw [reach_eq] at this
  exact this

theorem sz_all {e : TypeId} : ∀ {l : List (DataW H)} {n : Nat} {d : DataW H}, d ∈ l → n ∈ d.weights P e → n ∈ DataW.weightsAll P e l
  | [], _, _, h, _ => by cases h
  | a :: l, n, d, h, hn => by
    simp only [DataW.weightsAll, List.mem_append]
    rcases List.mem_cons.1 h with rfl | h
    · exact .inl hn
    · exact .inr (sz_all h hn)

/-- A slice's shape as an argument may have it, with its bound. -/
structure SlOk (A : Option Addr) (n c b : Nat) : Prop where
  nc : n ≤ c
  cb : c * b ≤ 140737488351232
  nil : A = none → c = 0

theorem rdg_slice {t e : TypeId} {cs : List Value} (ht : P.underlying t = some (.slice e)) (hs : 0 < P.cellsOf e) (h : Rdg enc P W t cs) :
    ∃ (A : Option Addr) (n c : Nat) (l : List (List Value)), cs = [.slice A n c] ∧ l.length = n ∧ SlOk A n c (P.bytesOf e) ∧ Rd W (P.cellsOf e) id A l ∧ ∀ x ∈ l, x.length = P.cellsOf e ∧ Rdg enc P W e x := by
  obtain ⟨fuel, y, h, hsz⟩ := h
  rcases DataW.trod_slice ht h with ⟨hcs, _⟩ | ⟨a, len, cap, elems, rest, n, _, hcs, hx, _, hl, hm, hlen, hi, hsp, _⟩
  · exact ⟨none, 0, 0, [], hcs, rfl, ⟨by omega, by omega, fun _ => rfl⟩, Rd.nil _ _ _ _, fun cs hc => by simp at hc⟩
  · have hw : cap * P.bytesOf e ≤ 140737488351232 := by
      have h1 := hsz ((elems.length + rest.length) * P.bytesOf e) (by rw [hx]; simp [DataW.weights, ht])
      rw [hlen, (hsp rfl).1, show len + (cap - len) = cap from by omega] at h1
      rw [reach_eq] at h1
      exact h1
    have hex : ∀ i, ∃ x : List Value, i < len → W.cells? 0 (a.add (i * P.cellsOf e)) (P.cellsOf e) = some x ∧ DataW.trod enc P W 0 (fun _ => true) true n e x = elems[i]? := by
      intro i
      by_cases hil : i < len
      · have h1 := hi i hil
        cases hc : W.cells? 0 (a.add (i * P.cellsOf e)) (P.cellsOf e) with
        | none =>
          rw [hc, List.getElem?_eq_getElem (by omega)] at h1
          simp at h1
        | some x =>
          rw [hc] at h1
          exact ⟨x, fun _ => ⟨rfl, h1⟩⟩
      · exact ⟨[], fun h => absurd h hil⟩
    obtain ⟨C, hC⟩ := Classical.axiomOfChoice hex
    refine ⟨some a, len, cap, (List.range len).map C, hcs, by simp, ⟨hl, hw, fun h => by cases h⟩, ?_, ?_⟩
    · rcases Nat.eq_zero_or_pos len with h0 | h0
      · subst h0
        exact .inl rfl
      · obtain ⟨h1, _⟩ := hC 0 h0
        obtain ⟨_, hlen0, h2⟩ := World.cells?_some h1
        have h3 := h2 0 hs
        have hspot : a.spot = none := by
          have h4 : (C 0)[0]? = some ((C 0)[0]'(by omega)) := List.getElem?_eq_getElem (by omega)
          rw [h4] at h3
          have := World.cell?_spot h3
          simpa [Addr.add] using this
        obtain ⟨b, o, spot⟩ := a
        simp only at hspot
        subst hspot
        refine .inr ⟨b, o, rfl, fun k y hy j u hu => ?_⟩
        have hk : k < len := by
          have := (List.getElem?_eq_some_iff.1 hy).1
          simpa using this
        rw [List.getElem?_map, List.getElem?_range hk] at hy
        injection hy with hy
        subst hy
        obtain ⟨h1, _⟩ := hC k hk
        obtain ⟨_, hlen, h2⟩ := World.cells?_some h1
        have hj : j < P.cellsOf e := by rw [← hlen]; exact (List.getElem?_eq_some_iff.1 hu).1
        have h3 := h2 j hj
        rw [Go.Deep.add_add, Go.WideShapes.add_plain, ← Nat.add_assoc] at h3
        exact h3.trans hu
    · intro x hx'
      obtain ⟨i, hi', rfl⟩ := List.mem_map.1 hx'
      have hil : i < len := List.mem_range.1 hi'
      obtain ⟨h1, h2⟩ := hC i hil
      rw [List.getElem?_eq_getElem (by omega)] at h2
      refine ⟨(World.cells?_some h1).2.1, _, _, h2, fun m hm' => ?_⟩
      refine hsz m ?_
      rw [hx]
      simp only [DataW.weights, ht, List.mem_cons, List.mem_append]
      exact .inr (.inl (sz_all (List.mem_map.2 ⟨_, List.getElem_mem _, rfl⟩) hm'))

/-- The elements decoded. -/
theorem rdg_list {α : Type} (f : α → List Value) (good : α → Prop) {t e : TypeId} {cs : List Value} (ht : P.underlying t = some (.slice e)) (size bytes : Nat) (hsz : P.cellsOf e = size) (hby : P.bytesOf e = bytes) (hs : 0 < size)
    (dec : ∀ x, x.length = size → Rdg enc P W e x → ∃ a, x = f a ∧ good a) (h : Rdg enc P W t cs) :
    ∃ (A : Option Addr) (n c : Nat) (l : List α), cs = [.slice A n c] ∧ l.length = n ∧ SlOk A n c bytes ∧ Rd W size f A l ∧ ∀ a ∈ l, good a := by
  subst hsz hby
  obtain ⟨A, n, c, l, hv, hn, hsl, hr, hd⟩ := rdg_slice ht hs h
  have key : ∀ l : List (List Value), (∀ x ∈ l, x.length = P.cellsOf e ∧ Rdg enc P W e x) → ∃ l' : List α, l = l'.map f ∧ ∀ a ∈ l', good a := by
    intro l
    induction l with
    | nil => intro _; exact ⟨[], rfl, fun a h => by simp at h⟩
    | cons x l ih =>
      intro hd
      obtain ⟨hl, hy⟩ := hd x (List.mem_cons_self)
      obtain ⟨a, ha, hg⟩ := dec x hl hy
      obtain ⟨l', hl', hg'⟩ := ih (fun x' h' => hd x' (List.mem_cons_of_mem _ h'))
      refine ⟨a :: l', by rw [List.map_cons, ← ha, ← hl'], fun b hb => ?_⟩
      rcases List.mem_cons.1 hb with rfl | hb
      · exact hg
      · exact hg' b hb
  obtain ⟨l', rfl, hg⟩ := key l hd
  refine ⟨A, n, c, l', hv, by simpa using hn, hsl, ?_, hg⟩
  rcases hr with h0 | ⟨b, o, rfl, hr⟩
  · exact .inl (by simpa using h0)
  · refine .inr ⟨b, o, rfl, fun k y hy j u hu => hr k (f y) (by rw [List.getElem?_map, hy]; rfl) j u hu⟩

theorem sz_each : ∀ {ts : List TypeId} {l : List (DataW H)} {j n : Nat} {t : TypeId} {d : DataW H}, ts[j]? = some t → l[j]? = some d → n ∈ d.weights P t → n ∈ DataW.weightsEach P ts l :=
  fun ht hd hn => DataW.weights_mem_each ht hd _ hn

/-- The fields of a struct. -/
theorem rdg_struct {t : TypeId} {fs : Array Field} {cs : List Value} (ht : P.underlying t = some (.struct fs)) (h : Rdg enc P W t cs) :
    cs.length = P.cellsOf t ∧ ∀ (i : Nat) (f : Field), fs[i]? = some f → Rdg enc P W f.type ((cs.drop f.offset).take (P.cellsOf f.type)) := by
  obtain ⟨fuel, y, h, hsz⟩ := h
  obtain ⟨xs, n, _, hx, hl, hxl, hf⟩ := DataW.trod_struct ht h
  refine ⟨hl, fun i f hi => ?_⟩
  have hil : i < fs.size := (Array.getElem?_eq_some_iff.1 hi).1
  have h1 := hf i f hi
  rw [List.getElem?_eq_getElem (by omega)] at h1
  refine ⟨n, _, h1, fun m hm => hsz m ?_⟩
  rw [hx]
  simp only [DataW.weights, ht]
  refine sz_each (j := i) (t := f.type) (d := (xs[i]'(by omega)).1) ?_ ?_ hm
  · rw [List.getElem?_map, Array.getElem?_toList, hi]; rfl
  · rw [List.getElem?_map, List.getElem?_eq_getElem (by omega)]; rfl

theorem rdg_ints {t e : TypeId} {cs : List Value} (ht : P.underlying t = some (.slice e)) (he : P.underlying e = some (.int .i64)) (hsz : P.cellsOf e = 1) (hby : P.bytesOf e = 8) (h : Rdg enc P W t cs) :
    ∃ (A : Option Addr) (n c : Nat) (l : List Int), cs = [.slice A n c] ∧ l.length = n ∧ SlOk A n c 8 ∧ Rd W 1 icell A l ∧ ∀ a ∈ l, In64 a :=
  rdg_list icell In64 ht 1 8 hsz hby (by decide) (fun x _ hx => rdg_i64 he hx) h

theorem rdg_strs {t e : TypeId} {cs : List Value} (ht : P.underlying t = some (.slice e)) (he : P.underlying e = some .string) (hsz : P.cellsOf e = 1) (hby : P.bytesOf e = 16) (h : Rdg enc P W t cs) :
    ∃ (A : Option Addr) (n c : Nat) (l : List ByteArray), cs = [.slice A n c] ∧ l.length = n ∧ SlOk A n c 16 ∧ Rd W 1 scell A l ∧ ∀ a ∈ l, a.size ≤ 140737488351232 :=
  rdg_list scell (fun s => s.size ≤ 140737488351232) ht 1 16 hsz hby (by decide) (fun x _ hx => rdg_str he hx) h

/-! A struct's cells, field by field, where each field has one cell. -/
theorem len1 {cs : List Value} (h : cs.length = 1) : ∃ a, cs = [a] := by
  match cs, h with
  | [a], _ => exact ⟨a, rfl⟩
theorem len2 {cs : List Value} (h : cs.length = 2) : ∃ a b, cs = [a, b] := by
  match cs, h with
  | [a, b], _ => exact ⟨a, b, rfl⟩
theorem len3 {cs : List Value} (h : cs.length = 3) : ∃ a b c, cs = [a, b, c] := by
  match cs, h with
  | [a, b, c], _ => exact ⟨a, b, c, rfl⟩
theorem len4 {cs : List Value} (h : cs.length = 4) : ∃ a b c d, cs = [a, b, c, d] := by
  match cs, h with
  | [a, b, c, d], _ => exact ⟨a, b, c, d, rfl⟩
theorem len5 {cs : List Value} (h : cs.length = 5) : ∃ a b c d e, cs = [a, b, c, d, e] := by
  match cs, h with
  | [a, b, c, d, e], _ => exact ⟨a, b, c, d, e, rfl⟩
theorem len6 {cs : List Value} (h : cs.length = 6) : ∃ a b c d e f, cs = [a, b, c, d, e, f] := by
  match cs, h with
  | [a, b, c, d, e, f], _ => exact ⟨a, b, c, d, e, f, rfl⟩
end
end Go.Proofs.YtiaibkbflmamgaaGreatDoor
