/-
  Tests of languages: what is wrong with one; its text (plain).
-/
import Derived.Test.YtagggnjcpjodjaaDoorZ0
import Derived.Test.YtagggnjcpjodjaaDoorX1
import Derived.Test.YtagggnjcpjodjaaDoorM0
namespace Go.Proofs.YtagggnjcpjodjaaDoor
open Go.RowKit
set_option linter.unusedVariables false
set_option linter.unusedSimpArgs false
namespace rule
theorem all_end {α : Type} {p : α → Bool} {l : List α} {d : α} {k : Nat} (h : allN k (fun i => p (l.getD i d)) = true) (hk : l.length ≤ k) : l.all p = true := by
  rw [List.all_eq_true]
  intro x hx
  obtain ⟨i, hi, rfl⟩ := List.getElem_of_mem hx
  have := allN_iff.1 h i (by omega)
  simpa [List.getD, hi] using this
theorem all_no {α : Type} {p : α → Bool} {l : List α} {d : α} {k : Nat} (hk : k < l.length) (h : p (l.getD k d) = false) : l.all p = false := by
  rw [List.all_eq_false]
  exact ⟨_, getD_mem l d k hk, by rw [h]; decide⟩
theorem any_end {α : Type} {p : α → Bool} {l : List α} {d : α} {k : Nat} (h : allN k (fun i => !p (l.getD i d)) = true) (hk : l.length ≤ k) : l.any p = false := by
  have := all_end (p := fun x => !p x) h hk
  rw [List.all_eq_true] at this
  rw [List.any_eq_false]
  intro x hx
  have := this x hx
  simpa using this
theorem any_yes {α : Type} {p : α → Bool} {l : List α} {d : α} {k : Nat} (hk : k < l.length) (h : p (l.getD k d) = true) : l.any p = true := by
  rw [List.any_eq_true]
  exact ⟨_, getD_mem l d k hk, h⟩
def leastB (o : Int) (n : Nat) : Bool := (decide (o = 2 ∨ o = 3) && decide (2 ≤ n)) || (decide (o = 4) && decide (1 ≤ n))
theorem least_iff {o : Int} {n : Nat} : leastB o n = true ↔ ((o = 2 ∨ o = 3) ∧ 2 ≤ n) ∨ (o = 4 ∧ 1 ≤ n) := by
  unfold leastB
  rw [Bool.or_eq_true, Bool.and_eq_true, Bool.and_eq_true, decide_eq_true_eq, decide_eq_true_eq, decide_eq_true_eq, decide_eq_true_eq]
mutual
/-- All kinds are ints of 64 bits. -/
def opI : Ts → Prop
  | .mk o m l h ks => (-9223372036854775808 ≤ o ∧ o ≤ 9223372036854775807) ∧ opIL ks
def opIL : List Ts → Prop
  | [] => True
  | k :: r => opI k ∧ opIL r
end
theorem opIL_mem : ∀ {ks : List Ts}, opIL ks → ∀ x ∈ ks, opI x
  | k :: r, h, x, hx => by
    simp only [opIL] at h
    rcases List.mem_cons.1 hx with rfl | hx
    · exact h.1
    · exact opIL_mem h.2 x hx
theorem opI_op {t : Ts} (h : opI t) : -9223372036854775808 ≤ t.op ∧ t.op ≤ 9223372036854775807 := by
  cases t
  simp only [opI] at h
  exact h.1
theorem opI_kid {t x : Ts} (h : opI t) (hx : x ∈ t.kids) : opI x := by
  cases t
  simp only [opI] at h
  exact opIL_mem h.2 x hx
mutual
/-- Whether the fields are right. -/
def formB : Ts → Bool
  | .mk o m l h ks => if o = 1 then decide (ks.length = 0) else leastB o ks.length && decide (m = 0 ∧ l = 0 ∧ h = 0) && formL o ks
def formL (o : Int) : List Ts → Bool
  | [] => true
  | k :: r => (formB k && (decide (o = 4) || !decide (k.op = o))) && formL o r
end
def kidOk (o : Int) (k : Ts) : Bool := formB k && (decide (o = 4) || !decide (k.op = o))
theorem formL_all (o : Int) : ∀ ks : List Ts, formL o ks = ks.all (kidOk o)
  | [] => by simp [formL]
  | k :: r => by simp only [formL, List.all_cons, formL_all o r, kidOk]
theorem form_eq (t : Ts) : formB t = if t.op = 1 then decide (t.kids.length = 0) else leastB t.op t.kids.length && decide (t.md = 0 ∧ t.lo = 0 ∧ t.hi = 0) && t.kids.all (kidOk t.op) := by
  cases t
  simp only [formB, Ts.op, Ts.kids, Ts.md, Ts.lo, Ts.hi, formL_all]
  rfl
def wOk (m l h : Int) : Bool := (decide (m = 0) || (decide (2 ≤ m) && decide (m ≤ 1000000))) && decide (0 ≤ l) && decide (l ≤ h) && decide (h ≤ 1000000000)
mutual
/-- Whether the numbers are right. -/
def rngB : Ts → Bool
  | .mk o m l h ks => if o = 1 then wOk m l h else rngL ks
def rngL : List Ts → Bool
  | [] => true
  | k :: r => rngB k && rngL r
end
theorem rngL_all : ∀ ks : List Ts, rngL ks = ks.all rngB
  | [] => by simp [rngL]
  | k :: r => by simp only [rngL, List.all_cons, rngL_all r]
theorem rng_eq (t : Ts) : rngB t = if t.op = 1 then wOk t.md t.lo t.hi else t.kids.all rngB := by
  cases t
  simp only [rngB, Ts.op, Ts.kids, Ts.md, Ts.lo, Ts.hi, rngL_all]
  rfl
theorem form_kid {t x : Ts} (h : formB t = true) (hx : x ∈ t.kids) : formB x = true := by
  rw [form_eq] at h
  split at h
  · have : t.kids.length = 0 := of_decide_eq_true h
    rw [List.eq_nil_of_length_eq_zero this] at hx
    cases hx
  · simp only [Bool.and_eq_true, List.all_eq_true] at h
    have := h.2 x hx
    unfold kidOk at this
    simp only [Bool.and_eq_true] at this
    exact this.1
theorem rng_kid {t x : Ts} (h : formB t = true) (h2 : rngB t = true) (hx : x ∈ t.kids) : rngB x = true := by
  rw [rng_eq] at h2
  rw [form_eq] at h
  split at h
  · have : t.kids.length = 0 := of_decide_eq_true h
    rw [List.eq_nil_of_length_eq_zero this] at hx
    cases hx
  · rename_i h1
    rw [if_neg h1, List.all_eq_true] at h2
    exact h2 x hx
/-- What is wrong with a rule. -/
def ruleE (fs : List Ts) : Int := if 6 < fs.length then 4 else if fs.any (fun t => decide (20 < tcnt t)) = true then 4 else if fs.any (fun t => decide (12 < tlvl t)) = true then 13 else if fs.all formB = false then 1 else if fs.all rngB = false then 2 else 0
/-! ## The text -/
def bS (l : List UInt8) : ByteArray := ⟨l.toArray⟩
def leaf0 (m : Int) : ByteArray := if m = 0 then ⟨#[110]⟩ else ⟨#[110]⟩ ++ (⟨#[37]⟩ ++ decS m)
def leaf1 (m l : Int) : ByteArray := leaf0 m ++ (⟨#[61]⟩ ++ decS l)
def leafT (m l h : Int) : ByteArray := if h = l then leaf1 m l else leaf1 m l ++ (⟨#[46, 46]⟩ ++ decS h)
def par (b : Bool) (s : ByteArray) : ByteArray := if b = true then ⟨#[40]⟩ ++ s ++ ⟨#[41]⟩ else s
mutual
def txt : Ts → ByteArray
  | .mk o m l h ks => if o = 2 then joinS (txtL o ks) ⟨#[32, 38, 32]⟩ else if o = 3 then joinS (txtL o ks) ⟨#[32, 124, 32]⟩ else if o = 4 then ⟨#[33, 40]⟩ ++ joinS (txtL o ks) ⟨#[32, 124, 32]⟩ ++ ⟨#[41]⟩ else leafT m l h
def txtL (o : Int) : List Ts → List ByteArray
  | [] => []
  | k :: r => par (decide (k.op = 3) && !decide (o = 3)) (txt k) :: txtL o r
end
def txtK (o : Int) (k : Ts) : ByteArray := par (decide (k.op = 3) && !decide (o = 3)) (txt k)
theorem txtL_map (o : Int) : ∀ ks : List Ts, txtL o ks = ks.map (txtK o)
  | [] => by simp [txtL]
  | k :: r => by simp only [txtL, List.map_cons, txtL_map o r, txtK]
theorem txt_eq (t : Ts) : txt t = if t.op = 2 then joinS (t.kids.map (txtK t.op)) ⟨#[32, 38, 32]⟩ else if t.op = 3 then joinS (t.kids.map (txtK t.op)) ⟨#[32, 124, 32]⟩ else if t.op = 4 then ⟨#[33, 40]⟩ ++ joinS (t.kids.map (txtK t.op)) ⟨#[32, 124, 32]⟩ ++ ⟨#[41]⟩ else leafT t.md t.lo t.hi := by
  cases t
  simp only [txt, Ts.op, Ts.kids, Ts.md, Ts.lo, Ts.hi, txtL_map]
  rfl
theorem par_size (b : Bool) (s : ByteArray) : (par b s).size ≤ s.size + 2 := by
  unfold par
  split
  · rw [ByteArray.size_append, ByteArray.size_append]
    show 1 + s.size + 1 ≤ _
    omega
  · omega
theorem w_iff {m l h : Int} : wOk m l h = true ↔ (m = 0 ∨ (2 ≤ m ∧ m ≤ 1000000)) ∧ 0 ≤ l ∧ l ≤ h ∧ h ≤ 1000000000 := by
  unfold wOk
  simp only [Bool.and_eq_true, Bool.or_eq_true, decide_eq_true_eq, and_assoc]
theorem leaf0_size {m : Int} (hw : m = 0 ∨ (2 ≤ m ∧ m ≤ 1000000)) : (leaf0 m).size ≤ 25 := by
  have h1 := decS_size m (by omega) (by omega)
  unfold leaf0
  split
  · show 1 ≤ 25; omega
  · rw [ByteArray.size_append, ByteArray.size_append]
    show 1 + (1 + (decS m).size) ≤ 25
    omega
theorem leaf1_size {m l : Int} (hw : m = 0 ∨ (2 ≤ m ∧ m ≤ 1000000)) (h0 : 0 ≤ l) (h2 : l ≤ 1000000000) : (leaf1 m l).size ≤ 50 := by
  have h1 := leaf0_size hw
  have h3 := decS_size l (by omega) (by omega)
  unfold leaf1
  rw [ByteArray.size_append, ByteArray.size_append]
  have : (⟨#[61]⟩ : ByteArray).size = 1 := rfl
  omega
theorem leaf_size {m l h : Int} (hw : wOk m l h = true) : (leafT m l h).size ≤ 80 := by
  obtain ⟨h1, h2, h3, h4⟩ := w_iff.1 hw
  have g1 := leaf1_size h1 h2 (by omega)
  have g2 := decS_size h (by omega) (by omega)
  unfold leafT
  split
  · omega
  · rw [ByteArray.size_append, ByteArray.size_append]
    have : (⟨#[46, 46]⟩ : ByteArray).size = 2 := rfl
    omega
theorem op_of {t : Ts} (h : formB t = true) (h1 : ¬ t.op = 1) : t.op = 2 ∨ t.op = 3 ∨ t.op = 4 := by
  rw [form_eq, if_neg h1] at h
  simp only [Bool.and_eq_true, leastB, Bool.or_eq_true, decide_eq_true_eq] at h
  omega
theorem sum_kids {f : Ts → ByteArray} {n : Nat} : ∀ ks : List Ts, (∀ k ∈ ks, (f k).size + n ≤ 100 * tcnt k) → ((ks.map f).map fun p => p.size + n).sum ≤ 100 * tcntL ks
  | [], _ => by simp [tcntL]
  | k :: r, h => by
    have h1 := h k (List.mem_cons_self ..)
    have h2 := sum_kids (f := f) (n := n) r fun x hx => h x (List.mem_cons_of_mem _ hx)
    simp only [List.map_cons, List.sum_cons, tcntL]
    omega
theorem txt_size : ∀ (N : Nat) (t : Ts), SizeOf.sizeOf t < N → formB t = true → rngB t = true → (txt t).size + 10 ≤ 100 * tcnt t
  | 0, t, h, _, _ => by omega
  | N + 1, t, h, hf, hr => by
    have hk : ∀ k ∈ t.kids, (txtK t.op k).size + 3 ≤ 100 * tcnt k := fun k hk => by
      have h1 := txt_size N k (by have := tkids_lt t k hk; omega) (form_kid hf hk) (rng_kid hf hr hk)
      have h2 := par_size (decide (k.op = 3) && !decide (t.op = 3)) (txt k)
      unfold txtK
      omega
    have hj : ∀ sep : ByteArray, sep.size = 3 → (joinS (t.kids.map (txtK t.op)) sep).size ≤ 100 * tcntL t.kids := fun sep hs => by
      have h1 := joinS_len (t.kids.map (txtK t.op)) sep
      rw [hs] at h1
      have h2 := sum_kids t.kids hk
      omega
    rw [txt_eq, tcnt_eq]
    split
    · have := hj ⟨#[32, 38, 32]⟩ rfl; omega
    split
    · have := hj ⟨#[32, 124, 32]⟩ rfl; omega
    split
    · have := hj ⟨#[32, 124, 32]⟩ rfl
      rw [ByteArray.size_append, ByteArray.size_append]
      show 2 + _ + 1 + 10 ≤ _
      omega
    · rename_i h2 h3 h4
      have h1 : t.op = 1 := by
        rcases Classical.em (t.op = 1) with h1 | h1
        · exact h1
        · exfalso
          rcases op_of hf h1 with h5 | h5 | h5
          · exact h2 h5
          · exact h3 h5
          · exact h4 h5
      rw [rng_eq, if_pos h1] at hr
      have := leaf_size hr
      omega
def texts (fs : List Ts) : ByteArray := joinS (fs.map txt) ⟨#[59, 32]⟩
end rule
end Go.Proofs.YtagggnjcpjodjaaDoor
