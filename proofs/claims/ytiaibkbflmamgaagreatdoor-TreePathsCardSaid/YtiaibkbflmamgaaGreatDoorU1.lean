/-
  A string's parts between points, found by going along it: plain law. api.Value and lists of strings and of values as arguments. Rows of values, and rows with one more behind. Routes: strings.Split, strconv.Atoi by data; the reference's digitsAlone, RouteParts.
-/
import Derived.Test.YtiaibkbflmamgaaGreatDoorN2
import Derived.Lib.SplitLaws
import Derived.Lib.CutLaws
import Derived.Test.YtiaibkbflmamgaaGreatDoorP
import Derived.Test.YtiaibkbflmamgaaGreatDoorQ6
import Derived.Test.YtiaibkbflmamgaaGreatDoorS0
import Derived.Test.YtiaibkbflmamgaaGreatDoorQ7
import Derived.Lib.SmallJoins
namespace Go.Proofs.YtiaibkbflmamgaaGreatDoor
open Go.RowKit
set_option linter.unusedVariables false
/-- The pieces of a string. -/
def pcs (s sep : ByteArray) : List ByteArray := Lib.splitB sep 0 (Lib.countB s sep) s
theorem pcs_size (sep : ByteArray) : ∀ (k : Nat) (s x : ByteArray), x ∈ Lib.splitB sep 0 k s → x.size ≤ s.size
  | 0, s, x, h => by
    rw [Lib.splitB_zero] at h
    simp at h
    rw [h]
    exact Nat.le_refl _
  | k + 1, s, x, h => by
    unfold Lib.splitB at h
    split at h
    · simp at h
      rw [h]
      exact Nat.le_refl _
    · rcases List.mem_cons.1 h with h | h
      · rw [h, ByteArray.size_extract]
        omega
      · have := pcs_size sep k _ x h
        rw [ByteArray.size_extract] at this
        omega
theorem pcs_le {s sep x : ByteArray} (h : x ∈ pcs s sep) : x.size ≤ s.size := pcs_size _ _ _ _ h
theorem pcs_len (s sep : ByteArray) (h1 : 1 ≤ sep.size) : (pcs s sep).length = Lib.countB s sep + 1 := Lib.splitB_all sep h1 0 _ s rfl
theorem pcs_len_le (s : ByteArray) : (pcs s ⟨#[46]⟩).length ≤ s.size + 1 := by
  rw [pcs_len s _ (by decide)]
  have := Lib.countB_le ⟨#[46]⟩ (by decide) _ s (Nat.le_refl _)
  omega
/-- The parts from a place on; the part that is open begins at 'from'. -/
def scan (s : ByteArray) (f i : Nat) : List ByteArray :=
  if i < s.size then (if bAt s i = 46 then s.extract f i :: scan s (i + 1) (i + 1) else scan s f (i + 1)) else [s.extract f s.size]
  termination_by s.size - i
theorem scan_end {s : ByteArray} {f i : Nat} (h : ¬ i < s.size) : scan s f i = [s.extract f s.size] := by rw [scan, if_neg h]
theorem scan_dot {s : ByteArray} {f i : Nat} (h : i < s.size) (h2 : bAt s i = 46) : scan s f i = s.extract f i :: scan s (i + 1) (i + 1) := by rw [scan, if_pos h, if_pos h2]
theorem scan_next {s : ByteArray} {f i : Nat} (h : i < s.size) (h2 : ¬ bAt s i = 46) : scan s f i = scan s f (i + 1) := by rw [scan, if_pos h, if_neg h2]
theorem ext_at (s : ByteArray) (f k : Nat) (h : f + k < s.size) : (s.extract f s.size).data.toList[k]? = some (bAt s (f + k)) := by
  unfold bAt
  have e : (s.extract f s.size).data.toList = s.data.toList.drop f := by
    simp [ByteArray.data_extract]
    exact List.take_of_length_le (by simp)
  rw [e, List.getElem?_drop, List.getD]
  have : f + k < s.data.toList.length := by simpa using h
  rw [List.getElem?_eq_getElem this]
  rfl
theorem ext_ext (s : ByteArray) (a b : Nat) : (s.extract a s.size).extract b (s.extract a s.size).size = s.extract (a + b) s.size := by
  apply ByteArray.ext
  simp only [ByteArray.data_extract, Array.extract_extract, ByteArray.size_extract]
  congr 1
  omega
theorem ext_pre (s : ByteArray) (a b : Nat) (h : a + b ≤ s.size) : (s.extract a s.size).extract 0 b = s.extract a (a + b) := by
  apply ByteArray.ext
  simp only [ByteArray.data_extract, Array.extract_extract]
  congr 1
  omega
theorem scan_pcs (s : ByteArray) : ∀ (n f i : Nat), s.size - i < n → f ≤ i → i ≤ s.size → (∀ k, f ≤ k → k < i → ¬ bAt s k = 46) → scan s f i = pcs (s.extract f s.size) ⟨#[46]⟩
  | 0, f, i, h, _, _, _ => by omega
  | n + 1, f, i, h, hf, hi, hno => by
    rcases Nat.lt_or_ge i s.size with h1 | h1
    · by_cases h2 : bAt s i = 46
      · rw [scan_dot h1 h2]
        have hx : Lib.indexB (s.extract f s.size) ⟨#[46]⟩ = ((i - f : Nat) : Int) := by
          rw [show Lib.indexB (s.extract f s.size) ⟨#[46]⟩ = Lib.indexByte (s.extract f s.size).data.toList 46 from Lib.index_one _ _]
          have h3 := ext_at s f (i - f) (by omega)
          rw [show f + (i - f) = i by omega, h2] at h3
          have hc := Lib.indexB_cases (s.extract f s.size) ⟨#[46]⟩
          rw [show Lib.indexB (s.extract f s.size) ⟨#[46]⟩ = Lib.indexByte (s.extract f s.size).data.toList 46 from Lib.index_one _ _] at hc
          rcases hc with h4 | ⟨o, h4, h5⟩
          · exact absurd h3 (Lib.indexByte_none h4 _)
          · rw [h4]
            obtain ⟨h6, h7⟩ := Lib.indexByte_some h4
            rcases Nat.lt_trichotomy o (i - f) with h8 | h8 | h8
            · rw [ext_at s f o (by omega)] at h6
              injection h6 with h6
              exact absurd h6 (hno _ (by omega) (by omega))
            · rw [h8]
            · exact absurd h3 (h7 _ h8)
        unfold pcs
        rw [Lib.countB_hit _ _ _ (by decide) hx, Nat.add_comm 1, Lib.splitB_hit _ _ _ _ _ hx]
        have e1 : (s.extract f s.size).extract 0 (i - f + 0) = s.extract f i := by rw [Nat.add_zero, ext_pre s f (i - f) (by omega), show f + (i - f) = i by omega]
        have e2 : (s.extract f s.size).extract (i - f + (⟨#[46]⟩ : ByteArray).size) (s.extract f s.size).size = s.extract (i + 1) s.size := by
          rw [ext_ext, show f + (i - f + (⟨#[46]⟩ : ByteArray).size) = i + 1 by show f + (i - f + 1) = i + 1; omega]
        rw [e1, e2]
        congr 1
        exact scan_pcs s n (i + 1) (i + 1) (by omega) (Nat.le_refl _) (by omega) (fun k h3 h4 => by omega)
      · rw [scan_next h1 h2]
        refine scan_pcs s n f (i + 1) (by omega) (by omega) (by omega) (fun k h3 h4 => ?_)
        rcases Nat.lt_or_ge k i with h5 | h5
        · exact hno k h3 h5
        · obtain rfl : k = i := by omega
          exact h2
    · rw [scan_end (by omega)]
      have hx : Lib.indexB (s.extract f s.size) ⟨#[46]⟩ = -1 := by
        have hc := Lib.indexB_cases (s.extract f s.size) ⟨#[46]⟩
        rw [show Lib.indexB (s.extract f s.size) ⟨#[46]⟩ = Lib.indexByte (s.extract f s.size).data.toList 46 from Lib.index_one _ _] at hc ⊢
        rcases hc with h4 | ⟨o, h4, h5⟩
        · exact h4
        · exfalso
          obtain ⟨h6, _⟩ := Lib.indexByte_some h4
          have h5 : o + 1 ≤ (s.extract f s.size).size := h5
          rw [ByteArray.size_extract] at h5
          rw [ext_at s f o (by omega)] at h6
          injection h6 with h6
          exact absurd h6 (hno _ (by omega) (by omega))
      unfold pcs
      rw [Lib.countB_miss _ _ hx, Lib.splitB_zero]
theorem scan_all (s : ByteArray) : scan s 0 0 = pcs s ⟨#[46]⟩ := by
  rw [scan_pcs s (s.size + 1) 0 0 (by omega) (Nat.le_refl _) (Nat.zero_le _) (fun k h3 h4 => by omega)]
  have : s.extract 0 s.size = s := by
    apply ByteArray.ext
    simp
  rw [this]
end Go.Proofs.YtiaibkbflmamgaaGreatDoor
namespace Go.Proofs.YtiaibkbflmamgaaGreatDoor
open Go.RowKit
set_option linter.unusedVariables false
set_option linter.unusedSimpArgs false
mutual
/-- The weight of a value: its values and letters. -/
def Vu.wt : Vu → Nat
  | .mk _ _ _ t l ks => t.size + 1 + Vu.wtL l + (ks.map fun s => s.size + 1).sum
def Vu.wtL : List Vu → Nat
  | [] => 0
  | x :: r => Vu.wt x + Vu.wtL r
end
mutual
theorem cnt_le_wt : ∀ v : Vu, cnt v ≤ v.wt
  | .mk _ _ _ _ l _ => by have := cntL_le_wt l; simp only [cnt, Vu.wt]; omega
theorem cntL_le_wt : ∀ l : List Vu, cntL l ≤ Vu.wtL l
  | [] => by simp [cntL]
  | x :: r => by have := cnt_le_wt x; have := cntL_le_wt r; simp only [cntL, Vu.wtL]; omega
end
mutual
/-- Numbers of 64 bits. -/
def Vu.i64 : Vu → Prop
  | .mk k _ i _ l _ => In64 k ∧ In64 i ∧ Vu.i64L l
def Vu.i64L : List Vu → Prop
  | [] => True
  | x :: r => Vu.i64 x ∧ Vu.i64L r
end
section
variable (E : Env)
theorem opn_strs {N : Nat} {t e : TypeId} (ht : (cx Tryz.prog mixed tyT_ok E).P.underlying t = some (.slice e)) (he : (cx Tryz.prog mixed tyT_ok E).P.underlying e = some .string) (hk : ((cx Tryz.prog mixed tyT_ok E).T e).known = true) (h1 : ((cx Tryz.prog mixed tyT_ok E).T e).size = 1) (h2 : ((cx Tryz.prog mixed tyT_ok E).T e).bytes = 16) :
    Opn (cx Tryz.prog mixed tyT_ok E) N t (fun ds n => ∃ l : List ByteArray, ds = [encStrs l] ∧ n = (l.map fun s => s.size + 1).sum) := by
  refine Opn.mono (Opn.le (opn_slice ht hk (opn_str he (N := N))) (Nat.le_succ _)) ?_
  rintro ds n ⟨l, hl, hb, rfl, rfl⟩
  have hex : ∃ l' : List ByteArray, l = l'.map fun s => ([.v (.string s)], s.size + 1) := by
    clear hb
    induction l with
    | nil => exact ⟨[], rfl⟩
    | cons x l ih =>
      obtain ⟨l', rfl⟩ := ih (fun y hy => hl y (List.mem_cons_of_mem _ hy))
      obtain ⟨⟨s, _, h3, h4⟩, _⟩ := hl x List.mem_cons_self
      exact ⟨s :: l', by rw [List.map_cons, ← h3, ← h4]⟩
  obtain ⟨l', rfl⟩ := hex
  refine ⟨_, _, ⟨l', rfl, rfl⟩, by rw [List.map_map]; exact Nat.le_refl _, ⟨?_, trivial⟩⟩
  rw [h1, h2]
  refine Dle.sl (by simp) (fun i j hi hj => Dle.of_eq ?_)
  obtain rfl : j = 0 := by omega
  have hi : i < l'.length := by simpa using hi
  simp [List.getD, hi]
/-- Readings of values, one by one. -/
theorem vals_of : ∀ (l : List (List DD × Nat)), (∀ x ∈ l, (∃ v : Vu, v.i64 ∧ x.1 = (encV v).cells ∧ v.wt ≤ x.2) ∧ x.1.length = 6) → ∃ vs : List Vu, Vu.i64L vs ∧ vs.length = l.length ∧ (∀ i, i < l.length → (l.getD i ([], 0)).1 = (encV (vs.getD i .zero)).cells) ∧ Vu.wtL vs ≤ (l.map (·.2)).sum
  | [], _ => ⟨[], trivial, rfl, fun i hi => by simp at hi, Nat.zero_le _⟩
  | x :: l, h => by
    obtain ⟨vs, h1, h2, h3, h4⟩ := vals_of l (fun y hy => h y (List.mem_cons_of_mem _ hy))
    obtain ⟨⟨v, h5, h6, h7⟩, _⟩ := h x List.mem_cons_self
    refine ⟨v :: vs, ⟨h5, h1⟩, by simp [h2], fun i hi => ?_, ?_⟩
    · match i, hi with
      | 0, _ => exact h6
      | i + 1, hi => exact h3 i (by simpa using hi)
    · simp only [Vu.wtL, List.map_cons, List.sum_cons]
      omega
theorem cell_eq (v : Vu) (j : Nat) (hj : j < 6) : (encV v).cells.getD j .opq = v.cell j := by
  match j, hj with
  | 0, _ => rfl
  | 1, _ => rfl
  | 2, _ => rfl
  | 3, _ => rfl
  | 4, _ => rfl
  | 5, _ => rfl
theorem opn_vals {N : Nat} (h : Opn (cx Tryz.prog mixed tyT_ok E) N 29 (fun ds n => ∃ v : Vu, v.i64 ∧ ds = (encV v).cells ∧ v.wt ≤ n)) :
    Opn (cx Tryz.prog mixed tyT_ok E) (N + 1) 26 (fun ds n => ∃ d : DD, ds = [d] ∧ ∃ l : List Vu, Vu.i64L l ∧ d = .rc (.vals l) ∧ Vu.wtL l ≤ n) := by
  refine Opn.mono (opn_slice (X := (cx Tryz.prog mixed tyT_ok E)) Tryz.underlying26 (by kernel_rfl) h) ?_
  rintro ds n ⟨l, hl, hb, rfl, rfl⟩
  obtain ⟨vs, h1, h2, h3, h4⟩ := vals_of l hl
  refine ⟨_, _, ⟨_, rfl, vs, h1, rfl, h4⟩, Nat.le_refl _, ⟨Dle.rc (X := (cx Tryz.prog mixed tyT_ok E)) ?_, trivial⟩⟩
  refine Dle.sl (X := (cx Tryz.prog mixed tyT_ok E)) (show l.length = vs.length from h2.symm) (fun i j hi hj => Dle.of_eq ?_)
  rw [h3 i hi]
  exact cell_eq _ _ hj
theorem opn_val : ∀ N, Opn (cx Tryz.prog mixed tyT_ok E) N 29 (fun ds n => ∃ v : Vu, v.i64 ∧ ds = (encV v).cells ∧ v.wt ≤ n)
  | 0 => opn_zero
  | N + 1 => by
    refine Opn.mono (opn_struct (X := (cx Tryz.prog mixed tyT_ok E)) (N := N) Tryz.underlying29 (by kernel_rfl) (by kernel_rfl) (by kernel_rfl) (Rs := [_, _, _, _, _, _])
      ⟨opn_int (X := (cx Tryz.prog mixed tyT_ok E)) Tryz.underlying3, opn_bool (X := (cx Tryz.prog mixed tyT_ok E)) Tryz.underlying4, opn_int (X := (cx Tryz.prog mixed tyT_ok E)) Tryz.underlying3, opn_str (X := (cx Tryz.prog mixed tyT_ok E)) Tryz.underlying9,
        Opn.le (opn_vals E (opn_val N)) (Nat.le_succ _), opn_strs E Tryz.underlying27 Tryz.underlying9 (by kernel_rfl) (by kernel_rfl) (by kernel_rfl), trivial⟩) ?_
    rintro ds n ⟨_, _, _, _, ⟨k, hk, rfl, rfl⟩, ⟨_, _, _, _, ⟨b, rfl, rfl⟩, ⟨_, _, _, _, ⟨i, hi, rfl, rfl⟩, ⟨_, _, _, _, ⟨t, ht, rfl, rfl⟩, ⟨_, _, _, _, ⟨_, rfl, l, hl, rfl, hw⟩, ⟨_, _, _, _, ⟨ks, rfl, rfl⟩, ⟨rfl, rfl⟩, rfl, rfl⟩, rfl, rfl⟩, rfl, rfl⟩, rfl, rfl⟩, rfl, rfl⟩, rfl, rfl⟩
    refine ⟨_, _, ⟨.mk k b i t l ks, ⟨hk, hi, hl⟩, rfl, Nat.le_refl _⟩, ?_, ⟨Dle.refl _ _, Dle.refl _ _, Dle.refl _ _, Dle.refl _ _, Dle.refl _ _, Dle.refl _ _, trivial⟩⟩
    simp only [Vu.wt]
    omega
end
end Go.Proofs.YtiaibkbflmamgaaGreatDoor
namespace Go.Proofs.YtiaibkbflmamgaaGreatDoor
open Go.RowKit
set_option linter.unusedVariables false
set_option linter.unusedSimpArgs false
/-- A row with one more behind. -/
theorem row_one {κ : Type} {X : Cx κ} {k sz : Nat} {f g : Nat → Nat → D κ} {cs : List (D κ)} (h0 : ∀ i j, i < k → j < sz → Dle X (g i j) (f i j)) (h1 : ∀ j, j < sz → Dle X (cs.getD j .opq) (f k j)) (i j : Nat) (hi : i < k + 1) (hj : j < sz) :
    Dle X (if i < k then g i j else cs.getD ((i - k + 0) * sz + j) .opq) (f i j) := by
  rcases Nat.lt_or_ge i k with h | h
  · rw [if_pos h]; exact h0 i j h hj
  · obtain rfl : i = k := by omega
    rw [if_neg (by omega)]
    simpa using h1 j hj
theorem len_le_cntL : ∀ l : List Vu, l.length ≤ cntL l
  | [] => Nat.zero_le _
  | x :: r => by
    have := len_le_cntL r
    have h : 1 ≤ cnt x := by rw [cnt_eq]; omega
    simp only [List.length_cons, cntL]
    omega
theorem cell_map (g : Vu → Vu) (l : List Vu) (i j : Nat) (hi : i < l.length) : ((l.map g).getD i .zero).cell j = (g (l.getD i .zero)).cell j := by
  simp [List.getD, hi]
section
variable (E : Env)
theorem cells_le (v : Vu) (j : Nat) (hj : j < 6) : Dle (cx Tryz.prog mixed tyT_ok E) (([.v (.int .i64 v.kind), .v (.bool v.b), .v (.int .i64 v.i), .v (.string v.text), .rc (.vals v.items), encStrs v.keys] : List DD).getD j .opq) (v.cell j) := by
  match j, hj with
  | 0, _ => exact Dle.refl _ _
  | 1, _ => exact Dle.refl _ _
  | 2, _ => exact Dle.refl _ _
  | 3, _ => exact Dle.refl _ _
  | 4, _ => exact Dle.refl _ _
  | 5, _ => exact Dle.refl _ _
theorem row_val (f : Nat → Vu) (k i j : Nat) (hi : i < k + 1) (hj : j < 6) : Dle (cx Tryz.prog mixed tyT_ok E) (if i < k then (f i).cell j else (encV (f k)).cells.getD ((i - k + 0) * 6 + j) .opq) ((f i).cell j) :=
  row_one (X := (cx Tryz.prog mixed tyT_ok E)) (f := fun i j => (f i).cell j) (g := fun i j => (f i).cell j) (fun _ _ _ _ => Dle.refl _ _) (fun j hj => cells_le E (f k) j hj) i j hi hj
theorem row_str (l : Nat → ByteArray) (k i j : Nat) (hi : i < k + 1) (hj : j < 1) : Dle (cx Tryz.prog mixed tyT_ok E) (if i < k then (.v (.string (l i))) else ([.v (.string (l k))] : List DD).getD ((i - k + 0) * 1 + j) .opq) (.v (.string (l i))) :=
  row_one (X := (cx Tryz.prog mixed tyT_ok E)) (f := fun i j => .v (.string (l i))) (g := fun i j => .v (.string (l i))) (fun _ _ _ _ => Dle.refl _ _) (fun j hj => by
    obtain rfl : j = 0 := by omega
    exact Dle.refl _ _) i j hi hj
end
end Go.Proofs.YtiaibkbflmamgaaGreatDoor
namespace Go.Proofs.YtiaibkbflmamgaaGreatDoor
open Go.RowKit
set_option linter.unusedVariables false
set_option linter.unusedSimpArgs false
/-- A contract of plain arguments whose result may lie in new memory. -/
theorem Sp.of_new {κ : Type} {X : Cx κ} {f : FuncId} {vs : List Value} {d : D κ} (he : Ent X.P f)
    (h : ∀ w, X.G w → (∀ y ∈ vs, okB y = true) → Calls X.P f vs.toArray w fun e w' => ∃ x, e = .returned x ∧ Below w.heap.size w w' ∧ ∀ (M : Nat → Nat → Prop) (β : Bt), Rep X.V (fun b o => M b o ∨ (w.heap.size ≤ b ∧ b < w'.heap.size)) w' β d x) : Sp X f (vs.map .v) d := by
  refine .inl ⟨he, fun M β w ws hG hMG hM hl hr hp hb => ?_⟩
  have hv : ∀ i (h3 : i < vs.length), ws.getD i undef = vs[i] ∧ okB vs[i] = true := fun i h3 => by
    have := hr i (.v vs[i]) (by simp [h3])
    exact this.val
  have hok : ∀ y ∈ vs, okB y = true := fun y hy => by
    obtain ⟨i, hi, rfl⟩ := List.getElem_of_mem hy
    exact (hv i hi).2
  have e : ws = vs.toArray := by
    apply Array.ext
    · simpa using hl
    · intro i h1 h2
      have h3 : i < vs.length := by simpa using h2
      have := (hv i h3).1
      simp [Array.getD, h1] at this
      simpa using this
  rw [e]
  exact (h w hG hok).mono fun e w' ⟨x, h1, h2, h3⟩ => ⟨x, _, β, h1, Kp.of h2 _, fun _ _ _ => rfl, fun _ _ h => .inl h, fun b o h => h.elim .inl fun h => .inr (.inr h), h3 M β, ⟨fun l o hm => (by cases hm), fun l o l' o' b c c' hm => (by cases hm)⟩, fun b ⟨l, o, c, hm, _⟩ => (by cases hm)⟩

/-- The library's variable MaxLen holds some int. -/
def ML (w : World) : Prop := ∃ m : Int, w.cell? ⟨0, 0, none⟩ = some (.int .i64 m)
theorem ML.kp {w w' : World} (h : ML w) (hk : Kp (0 + 1) noS w w') : ML w' := by
  obtain ⟨m, h⟩ := h
  exact ⟨m, (hk.cell (Nat.lt_succ_self _) (fun h => h)).trans h⟩
theorem ML.lt {w : World} (h : ML w) : 0 + 1 ≤ w.heap.size := by
  obtain ⟨m, h⟩ := h
  exact World.block_lt_of_cell? w ⟨_, 0, none⟩ h
/-- Whether a string is a number of a route, a part of a route; the step that it is. -/
@[irreducible] def digs (s : ByteArray) : Bool := allN s.size (fun k => digitB (bAt s k))
@[irreducible] def indexB (p : ByteArray) : Bool := decide (0 < p.size) && decide (p.size ≤ 4) && digs p && (!decide (bAt p 0 = 48) || decide (p = ⟨#[48]⟩))
def partOk (stars : Bool) (p : ByteArray) : Bool := keyOkB p || (stars && decide (p = ⟨#[42]⟩)) || indexB p
@[irreducible] def routeOk (stars : Bool) (s : ByteArray) : Bool := decide (s.size ≤ 400) && (decide (s = ⟨#[]⟩) || (pcs s ⟨#[46]⟩).all (partOk stars))
/-- The parts of a route. -/
@[irreducible] def partsR (s : ByteArray) : List ByteArray := if s = ⟨#[]⟩ then [] else pcs s ⟨#[46]⟩
theorem dig_set : ∀ n : Fin 256, digitB (UInt8.ofNat n.val) = ([48, 49, 50, 51, 52, 53, 54, 55, 56, 57] : List UInt8).contains (UInt8.ofNat n.val) := by decide +kernel
@[irreducible] def dgB (s : ByteArray) : Bool := decide (¬ s = ⟨#[]⟩) && digs s
theorem dgB_pos {s : ByteArray} (h : dgB s = true) : 0 < s.size := by
  unfold dgB at h
  simp at h
  exact str_pos h.1
theorem idx_ref (p : ByteArray) : indexB p = true ↔ dgB p = true ∧ (p.size : Int) ≤ 4 ∧ (¬ (bAt p 0).toNat = 48 ∨ p = ⟨#[48]⟩) := by
  have hb : bAt p 0 = 48 ↔ (bAt p 0).toNat = 48 := ⟨fun h => by rw [h]; rfl, fun h => UInt8.toNat_inj.1 h⟩
  have hp : ¬ p = ⟨#[]⟩ ↔ 0 < p.size := ⟨str_pos, fun h e => by subst e; exact absurd h (by decide)⟩
  unfold dgB indexB
  simp only [Bool.and_eq_true, Bool.or_eq_true, Bool.not_eq_true', decide_eq_true_eq, decide_eq_false_iff_not, hb, hp]
  constructor
  · rintro ⟨⟨⟨h1, h2⟩, h3⟩, h4⟩
    exact ⟨⟨h1, h3⟩, by omega, h4⟩
  · rintro ⟨⟨h1, h3⟩, h2, h4⟩
    exact ⟨⟨⟨h1, by omega⟩, h3⟩, h4⟩
theorem idx_refno {p : ByteArray} (h : dgB p = false ∨ ¬ (p.size : Int) ≤ 4 ∨ ((bAt p 0).toNat = 48 ∧ ¬ p = ⟨#[48]⟩)) : indexB p = false := by
  cases e : indexB p
  · rfl
  · obtain ⟨h1, h2, h3⟩ := (idx_ref p).1 e
    rw [h1] at h
    rcases h with h | h | h
    · cases h
    · exact absurd h2 h
    · exact h3.elim (fun h4 => absurd h.1 h4) (fun h4 => absurd h4 h.2)
theorem key_part {stars : Bool} {p : ByteArray} (h : keyOkB p = true) : partOk stars p = true := by unfold partOk; rw [h]; rfl
theorem star_part {stars : Bool} {p : ByteArray} (h : stars = true) (h2 : p = ⟨#[42]⟩) : partOk stars p = true := by unfold partOk; rw [h, h2]; simp
theorem no_part {stars : Bool} {p : ByteArray} (h1 : keyOkB p = false) (h2 : stars = false ∨ ¬ p = ⟨#[42]⟩) (h3 : indexB p = false) : partOk stars p = false := by
  unfold partOk
  rw [h1, h3]
  rcases h2 with h2 | h2 <;> simp [h2]
theorem yes_part {stars : Bool} {p : ByteArray} (h3 : indexB p = true) : partOk stars p = true := by
  unfold partOk
  rw [h3]
  simp
theorem routeOk_long {stars : Bool} {s : ByteArray} (h : (400 : Int) < s.size) : routeOk stars s = false := by unfold routeOk; rw [decide_eq_false (by omega)]; rfl
theorem routeOk_nil {stars : Bool} {s : ByteArray} (h : s = ⟨#[]⟩) : routeOk stars s = true ∧ partsR s = [] := by subst h; unfold routeOk partsR; exact ⟨rfl, rfl⟩
theorem routeOk_all {stars : Bool} {s : ByteArray} (h : ¬ (400 : Int) < s.size) (h2 : ¬ s = ⟨#[]⟩) : routeOk stars s = (pcs s ⟨#[46]⟩).all (partOk stars) ∧ partsR s = pcs s ⟨#[46]⟩ := by
  unfold routeOk partsR
  rw [decide_eq_true (by omega), decide_eq_false h2, if_neg h2]
  exact ⟨rfl, rfl⟩
theorem all_end {stars : Bool} {ps : List ByteArray} {k : Nat} (h : allN k (fun i => partOk stars (ps.getD i ⟨#[]⟩)) = true) (hk : ps.length ≤ k) : ps.all (partOk stars) = true := by
  rw [List.all_eq_true]
  intro x hx
  obtain ⟨i, hi, rfl⟩ := List.getElem_of_mem hx
  have := allN_iff.1 h i (by omega)
  simpa [List.getD, hi] using this
theorem all_no {stars : Bool} {ps : List ByteArray} {k : Nat} (hk : k < ps.length) (h : partOk stars (ps.getD k ⟨#[]⟩) = false) : ps.all (partOk stars) = false := by
  rw [List.all_eq_false]
  exact ⟨_, getD_mem ps ⟨#[]⟩ k hk, by rw [h]; decide⟩
section
variable (E : Env)
set_option maxRecDepth 100000
theorem split_sp (hML : ∀ w, E.G w → ML w) (s sep : ByteArray) (hs : s.size < 4294967281) (h1 : 1 ≤ sep.size) : Sp (cx Tryz.prog mixed tyT_ok E) 23 [dS s, dS sep] (encStrs (pcs s sep)) := by
  refine Sp.of_new (vs := [.string s, .string sep]) ⟨_, _, Tryz.func23, by kernel_rfl, rfl⟩ ?_
  intro w hG hok
  obtain ⟨m, hm⟩ := hML w hG
  refine (Tryz.strings_Split s sep m w hs hm h1).mono fun e w' ⟨he, hw⟩ => ?_
  subst hw
  have hlen := pcs_len s sep h1
  have hc : (pcs s sep).length ≤ s.size + 1 := by
    rw [hlen]
    have := Lib.countB_le sep h1 _ s (Nat.le_refl _)
    omega
  refine ⟨_, he, Below.alloc (Below.refl _ _) (Nat.le_refl _) _, fun M β => ?_⟩
  rw [← hlen]
  refine Rep.sl (fun i j => .string ((pcs s sep).getD i ⟨#[]⟩)) (Nat.le_refl _) (by show _ ≤ 9223372036854775807; omega) (by omega) (fun i j hi hj => ?_) (fun i j hi hj => ?_)
  · obtain rfl : j = 0 := by omega
    refine ⟨.inr ⟨Nat.le_refl _, ?_⟩, ?_, rfl⟩
    · show w.heap.size < (w.heap.push _).size
      rw [Array.size_push]
      omega
    · rw [World.cell?_alloc_at _ _ _ _ rfl]
      show ((pcs s sep).map Value.string).toArray[0 + i * 1 + 0]? = _
      simp [hi, List.getD]
  · refine Rep.v (decide_eq_true ?_)
    have : (pcs s sep).getD i ⟨#[]⟩ ∈ pcs s sep := getD_mem _ _ _ hi
    have := pcs_le this
    show _ ≤ 9223372036854775807
    omega
end
end Go.Proofs.YtiaibkbflmamgaaGreatDoor
