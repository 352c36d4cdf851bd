/-
  Small laws of memory of my own, over any program: the type of a slice in one bundle; append of one element that the call has just laid out; rows of the call's own.
-/
import Derived.WalkKit
import Derived.Handy
import Derived.Deep.AppendLies
import Derived.Maps.AppendAt
import Derived.Deep.Draws
namespace Go.Proofs.YtiaibkbflmamgaaGreatDoor
open Go.RowKit

/-- A fact kept from the walk. -/
theorem hide {p : Prop} (h : p) : Hid p := h

/-- A slice type, its element type's zero, cells and bytes. -/
structure SlTy (P : Program) (t e : TypeId) (z : Value) (size bytes : Nat) : Prop where
  und : P.underlying t = some (.slice e)
  info : ∃ i, P.info? e = some i ∧ i.zero = some z ∧ i.size = size ∧ i.bytes = bytes
  zs : z.cells.size = size
  pos : 0 < size
  bpos : 0 < bytes

theorem ownsRow_shape {w : World} {base : Nat} {e : TypeId} {size : Nat} {v : Value} {n : Nat} {xs : List Value} (h : w.ownsRow base e size v n xs) :
    ∃ A c, v = .slice A n c := by
  rcases h.2 with ⟨rfl, rfl⟩ | ⟨g, cap, cur, rfl, _⟩
  · exact ⟨none, 0, rfl⟩
  · exact ⟨_, _, rfl⟩

theorem below_own {B : Nat} {w0 w w' : World} {e : TypeId} {size : Nat} {v : Value} {n : Nat} {xs : List Value} (hb : Below B w0 w) (hB : B ≤ w.heap.size) (hown : w.ownsRow B e size v n xs)
    (hg : w.grownBy w' v.ownBlock) : Below B w0 w' :=
  hb.grown hg hB (fun k hk => (hown.lt k hk).1)

section
variable {P : Program} {t e : TypeId} {z : Value} {size bytes : Nat}

/-- 'out = append(out, lit)': the literal lies in the block just laid. -/
theorem app1 (T : SlTy P t e z size bytes) (w w0 : World) {ops : Array Oper} {rest : List Oper} {o : Oper} {a : Act} {Q : Exit → Act → World → Prop} (hgd : o.guard = none) (s x : Operand)
    (ho : o.op = .call { callee := .builtin .append, args := #[s, x], argTypes := #[t, t] })
    (B : Nat) {A : Option Addr} {n c : Nat} {xs : List Value} (hs : a.eval s = .slice A n c) (hown : w.ownsRow B e size (.slice A n c) n xs) (hb : Below B w0 w) (hB : B ≤ w.heap.size)
    (cs : Array Value) (hx : a.eval x = .slice (some ⟨w.heap.size, 0, none⟩) 1 1) (hl : cs.size = size) (h1 : cs.toList.all Value.oneCell' = true)
    (hn : (n + 1) * bytes ≤ 140737488355328)
    (h : ∀ g c' w', w'.ownsRow B e size (.slice (some ⟨g, 0, none⟩) (n + 1) c') (n + 1) (xs ++ cs.toList) → Below B w0 w' → w.grownBy w' (Value.slice A n c).ownBlock →
      ((Value.slice A n c).ownBlock = some g ∨ w.heap.size ≤ g) → wpList P ops Q rest (a.put o.dst (.slice (some ⟨g, 0, none⟩) (n + 1) c')) w') :
    wpList P ops Q (o :: rest) a (w.alloc (.cells cs e)) := by
  obtain ⟨i, hi, hz, hsz, hby⟩ := T.info
  have h63 : n + 1 ≤ maxLen := by
    have := Nat.le_mul_of_pos_right (n + 1) T.bpos
    unfold maxLen; omega
  refine wpList_append_lies _ hgd s x t ho B e i z size bytes T.und hi hz hsz hby T.zs T.pos _ n xs hs (hown.alloc _) ⟨w.heap.size, 0, none⟩ 1 1 cs.toList hx (by simp [hl])
    (World.news_of_block (heap_alloc_new w _)) (List.all_eq_true.1 h1) (by decide) h63 hn (by simp; omega) (w.heap.size + 1) (by simp) ?_
  intro g cap w' hown' hg hat hlt
  have hgw : w.grownBy w' (Value.slice A n c).ownBlock := (World.grownBy_alloc w _ _).trans hg
  refine h g cap w' hown' (below_own hb hB hown hgw) hgw ?_
  rcases hat with h | h
  · exact .inl h
  · exact .inr (by omega)
end

section
variable {P : Program} {t e : TypeId} {z : Value} {size bytes : Nat}
/-- 'app1' where the number of the literal's block is spelt otherwise. -/
theorem app1h (T : SlTy P t e z size bytes) (w w0 : World) (H : Nat) (hH : w.heap.size = H) {ops : Array Oper} {rest : List Oper} {o : Oper} {a : Act} {Q : Exit → Act → World → Prop} (hgd : o.guard = none) (s x : Operand)
    (ho : o.op = .call { callee := .builtin .append, args := #[s, x], argTypes := #[t, t] })
    (B : Nat) {A : Option Addr} {n c : Nat} {xs : List Value} (hs : a.eval s = .slice A n c) (hown : w.ownsRow B e size (.slice A n c) n xs) (hb : Below B w0 w) (hB : B ≤ w.heap.size)
    (cs : Array Value) (hx : a.eval x = .slice (some ⟨H, 0, none⟩) 1 1) (hl : cs.size = size) (h1 : cs.toList.all Value.oneCell' = true)
    (hn : (n + 1) * bytes ≤ 140737488355328)
    (h : ∀ g c' w', w'.ownsRow B e size (.slice (some ⟨g, 0, none⟩) (n + 1) c') (n + 1) (xs ++ cs.toList) → Below B w0 w' → w.grownBy w' (Value.slice A n c).ownBlock →
      ((Value.slice A n c).ownBlock = some g ∨ w.heap.size ≤ g) → wpList P ops Q rest (a.put o.dst (.slice (some ⟨g, 0, none⟩) (n + 1) c')) w') :
    wpList P ops Q (o :: rest) a (w.alloc (.cells cs e)) := by
  subst hH
  exact app1 T w w0 hgd s x ho B hs hown hb hB cs hx hl h1 hn h
end

/-! ## A slice that reads as a list -/

/-- The slice's address A: the elements of l, each as the cells f gives, lie there one behind the other. -/
def Rd {α : Type} (w : World) (size : Nat) (f : α → List Value) (A : Option Addr) (l : List α) : Prop :=
  l = [] ∨ ∃ b o, A = some ⟨b, o, none⟩ ∧ ∀ k x, l[k]? = some x → ∀ j v, (f x)[j]? = some v → w.cell? ⟨b, o + k * size + j, none⟩ = some v

section
variable {α : Type} {w w' : World} {size : Nat} {f : α → List Value} {A : Option Addr} {l : List α}

theorem Rd.nil (w : World) (size : Nat) (f : α → List Value) (A : Option Addr) : Rd w size f A [] := .inl rfl

theorem Rd.at_ (h : Rd w size f A l) {k : Nat} (hk : k < l.length) :
    ∃ b o x, A = some ⟨b, o, none⟩ ∧ l[k]? = some x ∧ x ∈ l ∧ ∀ j v, (f x)[j]? = some v → w.cell? ⟨b, o + k * size + j, none⟩ = some v := by
  rcases h with rfl | ⟨b, o, rfl, h⟩
  · simp at hk
  · exact ⟨b, o, l[k], rfl, List.getElem?_eq_getElem hk, List.getElem_mem hk, h k _ (List.getElem?_eq_getElem hk)⟩

theorem flatMap_at (hf : ∀ x, (f x).length = size) : ∀ (l : List α) (k : Nat) (x : α), l[k]? = some x → ∀ j, j < size → (l.flatMap f)[k * size + j]? = (f x)[j]?
  | [], k, x, h, _, _ => by simp at h
  | a :: l, 0, x, h, j, hj => by
    simp at h
    subst h
    rw [List.flatMap_cons, Nat.zero_mul, Nat.zero_add, List.getElem?_append_left (by rw [hf]; exact hj)]
  | a :: l, k + 1, x, h, j, hj => by
    simp at h
    rw [List.flatMap_cons, List.getElem?_append_right (by rw [hf]; have : (k + 1) * size = k * size + size := Nat.succ_mul k size; omega), hf]
    have e : (k + 1) * size + j - size = k * size + j := by have : (k + 1) * size = k * size + size := Nat.succ_mul k size; omega
    rw [e]
    exact flatMap_at hf l k x h j hj

theorem flatMap_len (hf : ∀ x, (f x).length = size) (l : List α) : (l.flatMap f).length = l.length * size := by
  induction l with
  | nil => simp
  | cons a l ih => rw [List.flatMap_cons, List.length_append, hf, ih, List.length_cons, Nat.succ_mul]; omega

theorem Rd.of_own {base : Nat} {e : TypeId} {n c : Nat} (hf : ∀ x, (f x).length = size) (h : w.ownsRow base e size (.slice A n c) n (l.flatMap f)) (hs : 0 < size) : Rd w size f A l ∧ l.length = n := by
  have hl : l.length = n := by
    have h1 := h.1
    rw [flatMap_len hf] at h1
    exact Nat.eq_of_mul_eq_mul_right hs h1
  refine ⟨?_, hl⟩
  rcases Nat.eq_zero_or_pos n with h0 | h0
  · exact .inl (List.eq_nil_of_length_eq_zero (by omega))
  · obtain ⟨g, cap, hv, _, _⟩ := h.form h0
    injection hv with hA _ _
    subst hA
    refine .inr ⟨g, 0, rfl, fun k x hx j v hv => ?_⟩
    have hk : k < l.length := (List.getElem?_eq_some_iff.1 hx).1
    have hj : j < size := by rw [← hf x]; exact (List.getElem?_eq_some_iff.1 hv).1
    have hb : k * size + j < n * size := by
      have : (k + 1) * size ≤ n * size := Nat.mul_le_mul_right _ (by omega)
      rw [Nat.succ_mul] at this
      omega
    have hc := h.cellAt (k * size + j) hb
    rw [flatMap_at hf l k x hx j hj, hv] at hc
    rw [Nat.zero_add]
    exact hc

theorem Rd.below {B : Nat} (h : Rd w size f A l) (hb : Below B w w') (hA : ∀ b o, A = some ⟨b, o, none⟩ → b < B) : Rd w' size f A l := by
  rcases h with h | ⟨b, o, rfl, h⟩
  · exact .inl h
  · exact .inr ⟨b, o, rfl, fun k x hx j v hv => (hb.cell (p := ⟨b, o + k * size + j, none⟩) (hA b o rfl)).trans (h k x hx j v hv)⟩

/-- What holds before any new block of a call stays behind the call. -/
theorem Rd.keep (h : Rd w size f A l) (hb : Below w.heap.size w w') : Rd w' size f A l := by
  rcases h with h | ⟨b, o, rfl, h⟩
  · exact .inl h
  · refine .inr ⟨b, o, rfl, fun k x hx j v hv => ?_⟩
    have hc := h k x hx j v hv
    exact (hb.cell (World.block_lt_of_cell? w ⟨b, o + k * size + j, none⟩ hc)).trans hc
end
end Go.Proofs.YtiaibkbflmamgaaGreatDoor
