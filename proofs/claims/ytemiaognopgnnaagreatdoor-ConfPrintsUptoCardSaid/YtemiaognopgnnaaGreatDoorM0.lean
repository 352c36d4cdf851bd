/-
  Rows of values, and rows with one more behind. Routes of a value: what is reckoned; numbers as text; own rows of strings.
-/
import Derived.Test.YtemiaognopgnnaaGreatDoorQ6
import Derived.Test.YtemiaognopgnnaaGreatDoorN18
import Derived.Test.YtemiaognopgnnaaGreatDoorPV
import Derived.Test.YtemiaognopgnnaaGreatDoorQ7
import Derived.Test.YtemiaognopgnnaaGreatDoorShelf
import Derived.Lib.AppendIntMem
import Derived.Lib.ItoaLen
namespace Go.Proofs.YtemiaognopgnnaaGreatDoor
open Go.RowKit
set_option linter.unusedVariables false
set_option linter.unusedSimpArgs false
/-- A row with one more behind. -/
theorem row_one {κ : Type} {X : Cx κ} {k sz : Nat} {f g : Nat → Nat → D κ} {cs : List (D κ)} (h0 : ∀ i j, i < k → j < sz → Dle X (g i j) (f i j)) (h1 : ∀ j, j < sz → Dle X (cs.getD j .opq) (f k j)) (i j : Nat) (hi : i < k + 1) (hj : j < sz) :
    Dle X (if i < k then g i j else cs.getD ((i - k + 0) * sz + j) .opq) (f i j) := by
  rcases Nat.lt_or_ge i k with h | h
  · rw [if_pos h]; exact h0 i j h hj
  · obtain rfl : i = k := by omega
    rw [if_neg (by omega)]
    simpa using h1 j hj
theorem len_le_cntL : ∀ l : List Vu, l.length ≤ cntL l
  | [] => Nat.zero_le _
  | x :: r => by
    have := len_le_cntL r
    have h : 1 ≤ cnt x := by rw [cnt_eq]; omega
    simp only [List.length_cons, cntL]
    omega
theorem cell_map (g : Vu → Vu) (l : List Vu) (i j : Nat) (hi : i < l.length) : ((l.map g).getD i .zero).cell j = (g (l.getD i .zero)).cell j := by
  simp [List.getD, hi]
section
variable (E : Env)
theorem cells_le (v : Vu) (j : Nat) (hj : j < 6) : Dle (cx Tryz.prog mixed tyT_ok E) (([.v (.int .i64 v.kind), .v (.bool v.b), .v (.int .i64 v.i), .v (.string v.text), .rc (.vals v.items), encStrs v.keys] : List DD).getD j .opq) (v.cell j) := by
  match j, hj with
  | 0, _ => exact Dle.refl _ _
  | 1, _ => exact Dle.refl _ _
  | 2, _ => exact Dle.refl _ _
  | 3, _ => exact Dle.refl _ _
  | 4, _ => exact Dle.refl _ _
  | 5, _ => exact Dle.refl _ _
theorem row_val (f : Nat → Vu) (k i j : Nat) (hi : i < k + 1) (hj : j < 6) : Dle (cx Tryz.prog mixed tyT_ok E) (if i < k then (f i).cell j else (encV (f k)).cells.getD ((i - k + 0) * 6 + j) .opq) ((f i).cell j) :=
  row_one (X := (cx Tryz.prog mixed tyT_ok E)) (f := fun i j => (f i).cell j) (g := fun i j => (f i).cell j) (fun _ _ _ _ => Dle.refl _ _) (fun j hj => cells_le E (f k) j hj) i j hi hj
theorem row_str (l : Nat → ByteArray) (k i j : Nat) (hi : i < k + 1) (hj : j < 1) : Dle (cx Tryz.prog mixed tyT_ok E) (if i < k then (.v (.string (l i))) else ([.v (.string (l k))] : List DD).getD ((i - k + 0) * 1 + j) .opq) (.v (.string (l i))) :=
  row_one (X := (cx Tryz.prog mixed tyT_ok E)) (f := fun i j => .v (.string (l i))) (g := fun i j => .v (.string (l i))) (fun _ _ _ _ => Dle.refl _ _) (fun j hj => by
    obtain rfl : j = 0 := by omega
    exact Dle.refl _ _) i j hi hj
end
end Go.Proofs.YtemiaognopgnnaaGreatDoor
namespace Go.Proofs.YtemiaognopgnnaaGreatDoor
open Go.RowKit
set_option linter.unusedVariables false
set_option linter.unusedSimpArgs false
/-- strconv.Itoa's table. -/
def P10 (w : World) : Prop := Lib.TabIs Tryz.prog w "internal/strconv.uint64pow10" .u64 Lib.pow10Tab
theorem P10.lt {w : World} (h : P10 w) : 5 + 1 ≤ w.heap.size := by
  unfold P10 Lib.TabIs World.var? at h
  rw [show Tryz.prog.globalNamed "internal/strconv.uint64pow10" = some 5 by kernel_rfl] at h
  simp only [Option.bind_some] at h
  rcases Nat.lt_or_ge 5 w.heap.size with h' | h'
  · exact h'
  · simp [Array.getElem?_eq_none h'] at h
theorem P10.kp {B : Nat} {w w' : World} (h : P10 w) (hB : 5 < B) (hk : Kp B noS w w') : P10 w' := by
  unfold P10 Lib.TabIs World.var? at h ⊢
  rw [show Tryz.prog.globalNamed "internal/strconv.uint64pow10" = some 5 by kernel_rfl] at h ⊢
  simp only [Option.bind_some] at h ⊢
  rw [hk.block _ hB (fun h => h)]
  exact h
def decS (n : Int) : ByteArray := ⟨(Lib.itoa n).toArray⟩
theorem decS_size (n : Int) (h0 : -9223372036854775808 ≤ n) (h1 : n ≤ 9223372036854775807) : (decS n).size ≤ 21 := by
  have := Lib.itoa_length_le n h0 h1
  simpa [decS, ByteArray.size] using this
theorem decS_small {n : Nat} (h : n ≤ 1000000) : (decS n).size ≤ 21 := decS_size n (by omega) (by omega)
/-- A row of strings as data. -/
def rowS (a : List ByteArray) (i _ : Nat) : DD := dS (a.getD i ⟨#[]⟩)
theorem rowS_app (a b : List ByteArray) (i j : Nat) : (if i < a.length then rowS a i j else rowS b (i - a.length) j) = rowS (a ++ b) i j := by
  unfold rowS
  split
  · rename_i h; simp [List.getD, List.getElem?_append_left h]
  · rename_i h; simp [List.getD, List.getElem?_append_right (Nat.le_of_not_lt h)]
theorem encStrs_row (a : List ByteArray) : encStrs a = .sl 1 16 a.length (rowS a) := rfl
/-- A route with one more part. -/
def joinR (r p : ByteArray) : ByteArray := if r = ⟨#[]⟩ then p else r ++ ⟨#[46]⟩ ++ p
def partK (k : Int) (ks : List ByteArray) (i : Nat) : ByteArray := if k = 6 then ks.getD i ⟨#[]⟩ else decS i
mutual
def rts : Vu → ByteArray → List ByteArray
  | .mk k _ _ _ l ks, r => if l.length = 0 then [r] else rtsL k ks l 0 r
def rtsL (k : Int) (ks : List ByteArray) : List Vu → Nat → ByteArray → List ByteArray
  | [], _, _ => []
  | x :: l, i, r => rts x (joinR r (partK k ks i)) ++ rtsL k ks l (i + 1) r
end
theorem rts_eq (v : Vu) (r : ByteArray) : rts v r = if v.items.length = 0 then [r] else rtsL v.kind v.keys v.items 0 r := by
  cases v; simp only [rts, Vu.items, Vu.kind, Vu.keys] <;> rfl
/-- The routes through the first i items. -/
def rtsP (v : Vu) (r : ByteArray) : Nat → List ByteArray
  | 0 => []
  | i + 1 => rtsP v r i ++ rts (v.items.getD i .zero) (joinR r (partK v.kind v.keys i))
theorem rtsP_rest (v : Vu) (r : ByteArray) : ∀ i, i ≤ v.items.length → rtsP v r i ++ rtsL v.kind v.keys (v.items.drop i) i r = rtsL v.kind v.keys v.items 0 r
  | 0, _ => by simp [rtsP]
  | i + 1, h => by
    have ih := rtsP_rest v r i (by omega)
    rw [drop_cons v.items .zero i (by omega), rtsL] at ih
    rw [rtsP, List.append_assoc]
    exact ih
theorem rtsP_all (v : Vu) (r : ByteArray) (h : ¬ v.items.length = 0) : rtsP v r v.items.length = rts v r := by
  have := rtsP_rest v r v.items.length (Nat.le_refl _)
  rw [List.drop_of_length_le (Nat.le_refl _)] at this
  rw [rts_eq, if_neg h, ← this, rtsL, List.append_nil]
mutual
theorem rts_len : ∀ (v : Vu) (r : ByteArray), (rts v r).length ≤ cnt v
  | .mk k b i t l ks, r => by
    rw [rts_eq, cnt_eq]
    have := rtsL_len k ks l 0 r
    show (if l.length = 0 then [r] else rtsL k ks l 0 r).length ≤ cntL l + 1
    by_cases h : l.length = 0
    · rw [if_pos h]; simp
    · rw [if_neg h]; omega
theorem rtsL_len (k : Int) (ks : List ByteArray) : ∀ (l : List Vu) (i : Nat) (r : ByteArray), (rtsL k ks l i r).length ≤ cntL l
  | [], _, _ => by simp [rtsL]
  | x :: l, i, r => by
    have h1 := rts_len x (joinR r (partK k ks i))
    have h2 := rtsL_len k ks l (i + 1) r
    simp only [rtsL, List.length_append, cntL]
    omega
end
theorem rtsP_len (v : Vu) (r : ByteArray) : ∀ i, i ≤ v.items.length → (rtsP v r i).length ≤ cntL (v.items.take i)
  | 0, _ => by simp [rtsP, cntL]
  | i + 1, h => by
    have ih := rtsP_len v r i (by omega)
    have h1 := rts_len (v.items.getD i .zero) (joinR r (partK v.kind v.keys i))
    rw [take_snoc v.items .zero i (by omega), cntL_app, rtsP, List.length_append]
    omega
theorem joinR_size (r p : ByteArray) : (joinR r p).size ≤ r.size + 1 + p.size := by
  unfold joinR
  split
  · omega
  · rw [ByteArray.size_append, ByteArray.size_append]
    show r.size + 1 + p.size ≤ _
    omega
theorem partK_size {k : Int} {ks : List ByteArray} {i n : Nat} (hi : i ≤ 1000000) (hk : ∀ s ∈ ks, s.size ≤ n) (hn : 21 ≤ n) : (partK k ks i).size ≤ n := by
  unfold partK
  split
  · rcases Nat.lt_or_ge i ks.length with h | h
    · exact hk _ (getD_mem ks ⟨#[]⟩ i h)
    · have : ks.getD i ⟨#[]⟩ = ⟨#[]⟩ := by simp [List.getD, List.getElem?_eq_none h]
      rw [this]
      exact Nat.zero_le _
  · have := decS_small hi
    omega
section
variable (E : Env)
set_option maxRecDepth 100000
theorem itoa_sp (hP : ∀ w, E.G w → P10 w) (n : Int) : Sp (cx Tryz.prog mixed tyT_ok E) 75 [i64 n] (dS (decS n)) ∨ ¬ (-9223372036854775808 ≤ n ∧ n ≤ 9223372036854775807) := by
  by_cases h : -9223372036854775808 ≤ n ∧ n ≤ 9223372036854775807
  · refine .inl (Sp.of_v (vs := [.int .i64 n]) ⟨_, _, Tryz.func75, by kernel_rfl, rfl⟩ ?_ (fun w hG => (Tryz.strconv_Itoa n h.1 h.2 w (hP w hG)).mono fun e w' ⟨he, k, os, hw⟩ => ⟨he, by subst hw; exact Lib.below_grow _ w (Nat.le_refl _) k os⟩))
    have := decS_size n h.1 h.2
    exact decide_eq_true (by show (decS n).size ≤ _; unfold maxLen; omega)
  · exact .inr h
theorem itoaN_sp (hP : ∀ w, E.G w → P10 w) (n : Nat) (hn : n ≤ 1000000) : Sp (cx Tryz.prog mixed tyT_ok E) 75 [i64 n] (dS (decS n)) := (itoa_sp E hP n).resolve_right (fun h => h ⟨by omega, by omega⟩)
theorem row_strA (a : List ByteArray) (r : ByteArray) (i j : Nat) (hi : i < a.length + 1) (hj : j < 1) : Dle (cx Tryz.prog mixed tyT_ok E) (if i < a.length then rowS a i j else ([dS r] : List DD).getD ((i - a.length + 0) * 1 + j) .opq) (rowS (a ++ [r]) i j) := by
  obtain rfl : j = 0 := by omega
  split
  · rename_i h
    refine Dle.of_eq ?_
    unfold rowS
    simp [List.getD, List.getElem?_append_left h]
  · obtain rfl : i = a.length := by omega
    rw [Nat.sub_self]
    refine Dle.of_eq ?_
    unfold rowS
    simp [List.getD]
end
end Go.Proofs.YtemiaognopgnnaaGreatDoor
