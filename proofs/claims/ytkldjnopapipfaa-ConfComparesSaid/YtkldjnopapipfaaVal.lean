/-
  api.Value as a tree: what it reads as in memory; how an argument opens into it; the order of values (in steps).
-/
import Derived.Test.YtkldjnopapipfaaRows
import Derived.Test.YtkldjnopapipfaaL4
import Derived.Lib.Bytealg
import Derived.Lib.Slices
import Derived.Lib.Small
namespace Go.Proofs.Ytkldjnopapipfaa
open Go.RowKit

/-- A value: its fields and what lies in its slices. -/
inductive Val
  | mk (kind : Int) (bool : Bool) (int : Int) (text : ByteArray) (A : Option Addr) (n c : Nat) (A' : Option Addr) (n' c' : Nat) (items : List Val) (keys : List ByteArray)

namespace Val
def items : Val → List Val | mk _ _ _ _ _ _ _ _ _ _ l _ => l
def keys : Val → List ByteArray | mk _ _ _ _ _ _ _ _ _ _ _ l => l
def cells : Val → List Value | mk k b i t A n c A' n' c' _ _ => [.int .i64 k, .bool b, .int .i64 i, .string t, .slice A n c, .slice A' n' c']
def val (v : Val) : Value := .agg v.cells.toArray
end Val

/-- What a value reads as, with so many levels at most. -/
def VR (w : World) : Nat → Val → Prop
  | 0, _ => False
  | N + 1, .mk k _ i t A n c A' n' c' items keys => In64 k ∧ In64 i ∧ t.size ≤ 140737488351232 ∧ items.length = n ∧ keys.length = n' ∧ SlOk A n c 88 ∧ SlOk A' n' c' 16 ∧
      Rd w 6 Val.cells A items ∧ Rd w 1 scell A' keys ∧ (∀ s ∈ keys, s.size ≤ 140737488351232) ∧ ∀ x ∈ items, VR w N x

theorem VR.mono {w : World} : ∀ {N M : Nat} {v : Val}, N ≤ M → VR w N v → VR w M v
  | 0, _, _, _, h => by simp [VR] at h
  | N + 1, 0, _, hle, _ => by omega
  | N + 1, M + 1, .mk .., hle, h => by
    obtain ⟨h1, h2, h3, h4, h5, h6, h7, h8, h9, h10, h11⟩ := h
    exact ⟨h1, h2, h3, h4, h5, h6, h7, h8, h9, h10, fun x hx => VR.mono (by omega) (h11 x hx)⟩

theorem VR.keep {w w' : World} (hb : Below w.heap.size w w') : ∀ {N : Nat} {v : Val}, VR w N v → VR w' N v
  | 0, _, h => by simp [VR] at h
  | N + 1, .mk .., h => by
    obtain ⟨h1, h2, h3, h4, h5, h6, h7, h8, h9, h10, h11⟩ := h
    exact ⟨h1, h2, h3, h4, h5, h6, h7, h8.keep hb, h9.keep hb, h10, fun x hx => VR.keep hb (h11 x hx)⟩

/-! ## The order of values, in steps -/
def sgn (a b : Int) : Int := if a < b then -1 else if b < a then 1 else 0
def bitI (b : Bool) : Int := if b then 1 else 0
def cmpS (s t : ByteArray) : Int := Lib.compareBytes s.data.toList t.data.toList
def lexL {α : Type} (c : α → α → Int) : List α → List α → Int
  | [], [] => 0
  | [], _ :: _ => -1
  | _ :: _, [] => 1
  | x :: l, y :: l' => if c x y ≠ 0 then c x y else lexL c l l'
def orI (a b : Int) : Int := if a ≠ 0 then a else b
def cmpHead : Val → Val → Int
  | .mk k b i t _ _ _ _ _ _ _ _, .mk k' b' i' t' _ _ _ _ _ _ _ _ => orI (sgn k k') (orI (sgn (bitI b) (bitI b')) (orI (sgn i i') (cmpS t t')))
def cmpN : Nat → Val → Val → Int
  | 0, _, _ => 0
  | N + 1, a, b => orI (cmpHead a b) (orI (lexL cmpS a.keys b.keys) (lexL (cmpN N) a.items b.items))

theorem lexL_drop {α : Type} (c : α → α → Int) {l l' : List α} {k : Nat} {x y : α} (hx : l[k]? = some x) (hy : l'[k]? = some y) :
    lexL c (l.drop k) (l'.drop k) = if c x y ≠ 0 then c x y else lexL c (l.drop (k + 1)) (l'.drop (k + 1)) := by
  obtain ⟨hk, rfl⟩ := List.getElem?_eq_some_iff.1 hx
  obtain ⟨hk', rfl⟩ := List.getElem?_eq_some_iff.1 hy
  rw [List.drop_eq_getElem_cons hk, List.drop_eq_getElem_cons hk', lexL]

theorem lexL_end {α : Type} (c : α → α → Int) {l l' : List α} {k : Nat} (hk : k ≤ l.length) (hk' : k ≤ l'.length) (h : ¬ (k < l.length ∧ k < l'.length)) :
    lexL c (l.drop k) (l'.drop k) = sgn l.length l'.length := by
  by_cases h1 : k < l.length
  · have h2 : l'.drop k = [] := List.drop_of_length_le (by omega)
    rw [List.drop_eq_getElem_cons h1, h2]
    unfold sgn
    rw [if_neg (by omega), if_pos (by omega), lexL]
  · have h0 : l.drop k = [] := List.drop_of_length_le (by omega)
    by_cases h3 : k < l'.length
    · rw [h0, List.drop_eq_getElem_cons h3]
      unfold sgn
      rw [if_pos (by omega), lexL]
    · have h2 : l'.drop k = [] := List.drop_of_length_le (by omega)
      rw [h0, h2]
      unfold sgn
      rw [if_neg (by omega), if_neg (by omega), lexL]

theorem cmpS_mem (s t : ByteArray) : cmpS s t = -1 ∨ cmpS s t = 0 ∨ cmpS s t = 1 := by
  unfold cmpS
  generalize s.data.toList = a
  generalize t.data.toList = b
  induction a generalizing b with
  | nil => cases b <;> simp [Lib.compareBytes]
  | cons x a ih =>
    cases b with
    | nil => simp [Lib.compareBytes]
    | cons y b =>
      unfold Lib.compareBytes
      split
      · exact .inl rfl
      · split
        · exact .inr (.inr rfl)
        · exact ih b

theorem sgn_mem (a b : Int) : sgn a b = -1 ∨ sgn a b = 0 ∨ sgn a b = 1 := by
  unfold sgn
  repeat' split
  all_goals omega
theorem orI_mem {a b : Int} (ha : a = -1 ∨ a = 0 ∨ a = 1) (hb : b = -1 ∨ b = 0 ∨ b = 1) : orI a b = -1 ∨ orI a b = 0 ∨ orI a b = 1 := by
  unfold orI
  split <;> assumption
theorem lexL_mem {α : Type} (c : α → α → Int) (hc : ∀ a b, c a b = -1 ∨ c a b = 0 ∨ c a b = 1) : ∀ l l' : List α, lexL c l l' = -1 ∨ lexL c l l' = 0 ∨ lexL c l l' = 1
  | [], [] => by simp [lexL]
  | [], _ :: _ => by simp [lexL]
  | _ :: _, [] => by simp [lexL]
  | x :: l, y :: l' => by
    unfold lexL
    split
    · exact hc x y
    · exact lexL_mem c hc l l'
theorem cmpHead_mem : ∀ a b : Val, cmpHead a b = -1 ∨ cmpHead a b = 0 ∨ cmpHead a b = 1
  | .mk .., .mk .. => orI_mem (sgn_mem _ _) (orI_mem (sgn_mem _ _) (orI_mem (sgn_mem _ _) (cmpS_mem _ _)))
theorem cmpN_mem : ∀ (N : Nat) (a b : Val), cmpN N a b = -1 ∨ cmpN N a b = 0 ∨ cmpN N a b = 1
  | 0, _, _ => .inr (.inl rfl)
  | N + 1, a, b => orI_mem (cmpHead_mem a b) (orI_mem (lexL_mem _ cmpS_mem _ _) (lexL_mem _ (cmpN_mem N) _ _))

set_option maxRecDepth 100000 in
/-- An argument opens into a value. -/
theorem val_open {H : Type} {enc : TypeId × Value → H} {W : World} : ∀ (fuel : Nat) (cs : List Value), RdgF enc Try.prog W fuel 43 cs → ∃ v : Val, cs = v.cells ∧ VR W fuel v
  | 0, _, h => by
    obtain ⟨y, h, _⟩ := h
    simp [DataW.trod] at h
  | fuel + 1, cs, h => by
    obtain ⟨hl, hf⟩ := rdgF_struct Try.underlying43 h
    obtain ⟨c0, c1, c2, c3, c4, c5, rfl⟩ := len6 (show cs.length = 6 from hl)
    obtain ⟨m0, _, g0⟩ := hf 0 _ rfl
    obtain ⟨m1, _, g1⟩ := hf 1 _ rfl
    obtain ⟨m2, _, g2⟩ := hf 2 _ rfl
    obtain ⟨m3, _, g3⟩ := hf 3 _ rfl
    obtain ⟨m4, hm4, g4⟩ := hf 4 _ rfl
    obtain ⟨m5, _, g5⟩ := hf 5 _ rfl
    obtain ⟨k, e0, hk⟩ := rdg_i64 Try.underlying3 g0.rdg
    obtain ⟨b, e1⟩ := rdg_bool Try.underlying4 g1.rdg
    obtain ⟨i, e2, hi⟩ := rdg_i64 Try.underlying3 g2.rdg
    obtain ⟨t, e3, ht⟩ := rdg_str Try.underlying9 g3.rdg
    obtain ⟨A, n, c, l, e4, hn, hsl, hr, hx⟩ := rdgF_slice Try.underlying40 (by decide) g4
    obtain ⟨A', n', c', keys, e5, hn', hsl', hr', hk'⟩ := rdg_strs Try.underlying41 Try.underlying9 rfl rfl g5.rdg
    obtain ⟨items, rfl, hv⟩ := list_dec Val.cells (VR W fuel) l (fun x hx' => by
      obtain ⟨_, m, hm, hf'⟩ := hx x hx'
      obtain ⟨v, hv, hvr⟩ := val_open m x hf'
      exact ⟨v, hv, hvr.mono (by omega)⟩)
    refine ⟨.mk k b i t A n c A' n' c' items keys, ?_, hk, hi, ht, by simpa using hn, hn', hsl, hsl', hr.of_map, hr', hk', hv⟩
    simp only [List.cons.injEq, Val.cells, and_true]
    exact ⟨List.singleton_inj.1 e0, List.singleton_inj.1 e1, List.singleton_inj.1 e2, List.singleton_inj.1 e3, List.singleton_inj.1 e4, List.singleton_inj.1 e5⟩
end Go.Proofs.Ytkldjnopapipfaa
