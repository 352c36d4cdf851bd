/-
  The reference's settled, ItemFault. api.Value and lists of strings and of values as arguments. Sorted keys and searches; numbers of routes: plain law. A string's parts between points, found by going along it: plain law. Routes: strings.Split, strconv.Atoi by data; the reference's digitsAlone, RouteParts. Values without a fault; the reference's Step. list.steps, at, had, listFault, routed; the reference's HasAt, ListFault, RouteFault. list.steps. list.at, had, listFault, routed; the reference's HasAt, ListFault, RouteFault.
-/
import Derived.Test.YthoemnhigboahaaGreatDoorR2
import Derived.Test.YthoemnhigboahaaGreatDoorQ7
import Derived.Test.YthoemnhigboahaaGreatDoorQ8
import Derived.Test.YthoemnhigboahaaGreatDoorP
import Derived.Test.YthoemnhigboahaaGreatDoorQ6
import Derived.Test.YthoemnhigboahaaGreatDoorN2
import Derived.Lib.AtoiAll
import Derived.Lib.SplitLaws
import Derived.Lib.CutLaws
import Derived.Lib.SmallJoins
import Derived.Test.YthoemnhigboahaaGreatDoorR1
namespace Go.Proofs.YthoemnhigboahaaGreatDoor
open Go.RowKit
set_option linter.unusedVariables false
set_option linter.unusedSimpArgs false
section
variable (E : Env)
set_option maxRecDepth 100000
set_option maxHeartbeats 1000000 in
theorem settled_sp : ∀ (N : Nat) (v : Vu), SizeOf.sizeOf v < N → cnt v ≤ 1000000000000 → Sp (cx Tryz.prog mixed tyT_ok E) 58 [encV v] (encV (setl v))
  | 0, v, h, _ => by omega
  | N + 1, v, h, hb => by
    have ih := fun x (hx : x ∈ v.items) => settled_sp N x (by have := items_lt v x hx; omega) (by have := cnt_mem v.items x hx; rw [cnt_eq] at hb; omega)
    have hlen : v.items.length ≤ 1000000000000 := by have := len_le_cntL v.items; rw [cnt_eq] at hb; omega
    have hS : (v.kind = 7 ∨ v.kind = 8 → skind v.kind = 3) ∧ (¬ (v.kind = 7 ∨ v.kind = 8) → skind v.kind = v.kind) := ⟨fun h => if_pos h, fun h => if_neg h⟩
    rw [setl_eq v, setlL_map]
    refine Sp.body Tryz.func58 (by kernel_rfl) rfl (by kernel_rfl) (by kernel_rfl) (by kernel_rfl) ?_
    repeat' first
      | (refine facW_intro ?_; intro _)
      | refine Or.inl ?_
      | ((conv => whnf); first | (refine condW_dec ?_ ?_ <;> intro _) | refine condW_not ?_ | (refine condW_bool ?_ ?_ <;> intro _) | (refine nbC_t (fun _ => ?_) ?_) | (refine nbC_f ?_ (fun _ => ?_)))
      | refine And.intro (by first | omega | (simp only [Int.toNat_natCast] at *; omega) | (simp only [Nat.reduceAdd, Int.cast_ofNat_Int, true_and, and_true]; omega)  | kernel_rfl) ?_
      | refine RegW.run ?_
      | fail
    all_goals
      refine ⟨Nat, fun k => [(20, i64 k)], fun k => [(3, .cells [i64 (skind v.kind), dB v.b, i64 v.i, dS v.text, .own 20 6 0 k, encStrs v.keys])], [1, 2], fun k => [(20, 30, k, fun i j => (setl (v.items.getD i .zero)).cell j)], fun k => k ≤ v.items.length, fun k => v.items.length - k, ⟨0, by omega, ⟨[(20, none)], ⟨by kernel_rfl, by kernel_rfl, by kernel_rfl, by kernel_rfl, by kernel_rfl, by kernel_rfl, by kernel_rfl⟩, (by repeat' first | exact trivial | exact rfl | kernel_rfl | exact Dle.of_eq rfl | exact MLe.of_eq rfl | exact Dle.i (by omega) | exact Dle.i (by simp only [Int.toNat_natCast] at *; omega) | exact Dle.nil | exact Dle.rc Dle.nil | exact Option.some_ne_none _ | exact Or.inl rfl | exact Or.inr trivial | omega | (simp only [Int.toNat_natCast] at *; omega) | (intro _ _ _ _; exact Dle.of_eq rfl) | refine And.intro ?_ ?_)⟩⟩, fun k hk => ?_⟩
      have hk : k ≤ v.items.length := hk
      repeat' first
        | (refine facW_intro ?_; intro _)
        | refine Or.inl ?_
        | ((conv => whnf); first | (refine condW_dec ?_ ?_ <;> intro _) | refine condW_not ?_ | (refine condW_bool ?_ ?_ <;> intro _) | (refine nbC_t (fun _ => ?_) ?_) | (refine nbC_f ?_ (fun _ => ?_)))
        | refine And.intro (by first | omega | (simp only [Int.toNat_natCast] at *; omega) | (simp only [Nat.reduceAdd, Int.cast_ofNat_Int, true_and, and_true]; omega)  | kernel_rfl) ?_
        | refine RegW.run ?_
        | refine ⟨_, ih _ (getD_mem v.items .zero k (by omega)), ?_⟩
        | fail
      · repeat' first
          | (refine facW_intro ?_; intro _)
          | refine Or.inl ?_
          | ((conv => whnf); first | (refine condW_dec ?_ ?_ <;> intro _) | refine condW_not ?_ | (refine condW_bool ?_ ?_ <;> intro _) | (refine nbC_t (fun _ => ?_) ?_) | (refine nbC_f ?_ (fun _ => ?_)))
          | refine And.intro (by first | omega | (simp only [Int.toNat_natCast] at *; omega) | (simp only [Nat.reduceAdd, Int.cast_ofNat_Int, true_and, and_true]; omega)  | kernel_rfl) ?_
          | refine RegW.run ?_
          | fail
        exact ⟨k + 1, by omega, ⟨[(20, some 29)], ⟨by kernel_rfl, by kernel_rfl, by kernel_rfl, by kernel_rfl, by kernel_rfl, by kernel_rfl, by kernel_rfl⟩, (by repeat' first | exact trivial | exact rfl | kernel_rfl | exact Dle.of_eq rfl | exact MLe.of_eq rfl | exact Dle.i (by omega) | exact Dle.i (by simp only [Int.toNat_natCast] at *; omega) | exact Dle.nil | exact Dle.rc Dle.nil | exact Option.some_ne_none _ | exact Or.inl rfl | exact Or.inr trivial | omega | (simp only [Int.toNat_natCast] at *; omega) | (intro _ _ _ _; exact Dle.of_eq rfl) | (intro i j hi hj; exact row_val E (fun i => setl (v.items.getD i .zero)) k i j hi hj) | refine And.intro ?_ ?_)⟩, by first | omega | (dsimp only; omega)⟩
      · have e : k = v.items.length := by omega
        subst e
        refine Dle.agg (X := (cx Tryz.prog mixed tyT_ok E)) ⟨Dle.refl _ _, Dle.refl _ _, Dle.refl _ _, Dle.refl _ _, Dle.rc (X := (cx Tryz.prog mixed tyT_ok E)) (Dle.sl (X := (cx Tryz.prog mixed tyT_ok E)) (show _ = (v.items.map setl).length by simp) (fun i j hi hj => Dle.of_eq ?_)), Dle.refl _ _, trivial⟩
        exact (cell_map setl v.items i j hi).symm
theorem refItem_sp (v : Vu) (hb : cnt v ≤ 1000000000000) : Sp (cx Tryz.prog mixed tyT_ok E) 22 [encV v] (i64 (itemCheckE v)) := by
  have hl := lvl_le_cnt v
  refine Sp.body Tryz.func22 (by kernel_rfl) rfl (by kernel_rfl) (by kernel_rfl) (by kernel_rfl) ?_
  repeat' first
    | (refine facW_intro ?_; intro _)
    | refine Or.inl ?_
    | ((conv => whnf); first | (refine condW_dec ?_ ?_ <;> intro _) | refine condW_not ?_ | (refine condW_bool ?_ ?_ <;> intro _) | (refine nbC_t (fun _ => ?_) ?_) | (refine nbC_f ?_ (fun _ => ?_)))
    | refine And.intro (by first | omega | (simp only [Int.toNat_natCast] at *; omega) | (simp only [Nat.reduceAdd, Int.cast_ofNat_Int, true_and, and_true]; omega)  | kernel_rfl) ?_
    | refine RegW.run ?_
    | refine ⟨_, valuesOf_sp E _ v (Nat.lt_succ_self _) (by omega), ?_⟩
    | refine ⟨_, levelsOf_sp E _ v (Nat.lt_succ_self _) (by omega), ?_⟩
    | refine ⟨_, settled_sp E _ v (Nat.lt_succ_self _) hb, ?_⟩
    | refine ⟨_, eachValue_sp E _ (setl v) (Nat.lt_succ_self _), ?_⟩
    | fail
  all_goals exact Dle.i (by unfold itemCheckE; rw [item_fault]; grind)
end
end Go.Proofs.YthoemnhigboahaaGreatDoor
namespace Go.Proofs.YthoemnhigboahaaGreatDoor
open Go.RowKit
set_option linter.unusedVariables false
set_option linter.unusedSimpArgs false
mutual
def Vu.wt : Vu → Nat
  | .mk _ _ _ t l ks => t.size + 1 + Vu.wtL l + (ks.map fun s => s.size + 1).sum
def Vu.wtL : List Vu → Nat
  | [] => 0
  | x :: r => Vu.wt x + Vu.wtL r
end
mutual
theorem cnt_le_wt : ∀ v : Vu, cnt v ≤ v.wt
  | .mk _ _ _ _ l _ => by have := cntL_le_wt l; simp only [cnt, Vu.wt]; omega
theorem cntL_le_wt : ∀ l : List Vu, cntL l ≤ Vu.wtL l
  | [] => by simp [cntL]
  | x :: r => by have := cnt_le_wt x; have := cntL_le_wt r; simp only [cntL, Vu.wtL]; omega
end
mutual
def Vu.i64 : Vu → Prop
  | .mk k _ i _ l _ => In64 k ∧ In64 i ∧ Vu.i64L l
def Vu.i64L : List Vu → Prop
  | [] => True
  | x :: r => Vu.i64 x ∧ Vu.i64L r
end
section
variable (E : Env)
theorem opn_strs {N : Nat} {t e : TypeId} (ht : (cx Tryz.prog mixed tyT_ok E).P.underlying t = some (.slice e)) (he : (cx Tryz.prog mixed tyT_ok E).P.underlying e = some .string) (hk : ((cx Tryz.prog mixed tyT_ok E).T e).known = true) (h1 : ((cx Tryz.prog mixed tyT_ok E).T e).size = 1) (h2 : ((cx Tryz.prog mixed tyT_ok E).T e).bytes = 16) :
    Opn (cx Tryz.prog mixed tyT_ok E) N t (fun ds n => ∃ l : List ByteArray, ds = [encStrs l] ∧ n = (l.map fun s => s.size + 1).sum) := by
  refine Opn.mono (Opn.le (opn_slice ht hk (opn_str he (N := N))) (Nat.le_succ _)) ?_
  rintro ds n ⟨l, hl, hb, rfl, rfl⟩
  have hex : ∃ l' : List ByteArray, l = l'.map fun s => ([.v (.string s)], s.size + 1) := by
    clear hb
    induction l with
    | nil => exact ⟨[], rfl⟩
    | cons x l ih =>
      obtain ⟨l', rfl⟩ := ih (fun y hy => hl y (List.mem_cons_of_mem _ hy))
      obtain ⟨⟨s, _, h3, h4⟩, _⟩ := hl x List.mem_cons_self
      exact ⟨s :: l', by rw [List.map_cons, ← h3, ← h4]⟩
  obtain ⟨l', rfl⟩ := hex
  refine ⟨_, _, ⟨l', rfl, rfl⟩, by rw [List.map_map]; exact Nat.le_refl _, ⟨?_, trivial⟩⟩
  rw [h1, h2]
  refine Dle.sl (by simp) (fun i j hi hj => Dle.of_eq ?_)
  obtain rfl : j = 0 := by omega
  have hi : i < l'.length := by simpa using hi
  simp [List.getD, hi]
theorem vals_of : ∀ (l : List (List DD × Nat)), (∀ x ∈ l, (∃ v : Vu, v.i64 ∧ x.1 = (encV v).cells ∧ v.wt ≤ x.2) ∧ x.1.length = 6) → ∃ vs : List Vu, Vu.i64L vs ∧ vs.length = l.length ∧ (∀ i, i < l.length → (l.getD i ([], 0)).1 = (encV (vs.getD i .zero)).cells) ∧ Vu.wtL vs ≤ (l.map (·.2)).sum
  | [], _ => ⟨[], trivial, rfl, fun i hi => by simp at hi, Nat.zero_le _⟩
  | x :: l, h => by
    obtain ⟨vs, h1, h2, h3, h4⟩ := vals_of l (fun y hy => h y (List.mem_cons_of_mem _ hy))
    obtain ⟨⟨v, h5, h6, h7⟩, _⟩ := h x List.mem_cons_self
    refine ⟨v :: vs, ⟨h5, h1⟩, by simp [h2], fun i hi => ?_, ?_⟩
    · match i, hi with
      | 0, _ => exact h6
      | i + 1, hi => exact h3 i (by simpa using hi)
    · simp only [Vu.wtL, List.map_cons, List.sum_cons]
      omega
theorem cell_eq (v : Vu) (j : Nat) (hj : j < 6) : (encV v).cells.getD j .opq = v.cell j := by
  match j, hj with
  | 0, _ => rfl
  | 1, _ => rfl
  | 2, _ => rfl
  | 3, _ => rfl
  | 4, _ => rfl
  | 5, _ => rfl
theorem opn_vals {N : Nat} (h : Opn (cx Tryz.prog mixed tyT_ok E) N 30 (fun ds n => ∃ v : Vu, v.i64 ∧ ds = (encV v).cells ∧ v.wt ≤ n)) :
    Opn (cx Tryz.prog mixed tyT_ok E) (N + 1) 22 (fun ds n => ∃ d : DD, ds = [d] ∧ ∃ l : List Vu, Vu.i64L l ∧ d = .rc (.vals l) ∧ Vu.wtL l ≤ n) := by
  refine Opn.mono (opn_slice (X := (cx Tryz.prog mixed tyT_ok E)) Tryz.underlying22 (by kernel_rfl) h) ?_
  rintro ds n ⟨l, hl, hb, rfl, rfl⟩
  obtain ⟨vs, h1, h2, h3, h4⟩ := vals_of l hl
  refine ⟨_, _, ⟨_, rfl, vs, h1, rfl, h4⟩, Nat.le_refl _, ⟨Dle.rc (X := (cx Tryz.prog mixed tyT_ok E)) ?_, trivial⟩⟩
  refine Dle.sl (X := (cx Tryz.prog mixed tyT_ok E)) (show l.length = vs.length from h2.symm) (fun i j hi hj => Dle.of_eq ?_)
  rw [h3 i hi]
  exact cell_eq _ _ hj
theorem opn_val : ∀ N, Opn (cx Tryz.prog mixed tyT_ok E) N 30 (fun ds n => ∃ v : Vu, v.i64 ∧ ds = (encV v).cells ∧ v.wt ≤ n)
  | 0 => opn_zero
  | N + 1 => by
    refine Opn.mono (opn_struct (X := (cx Tryz.prog mixed tyT_ok E)) (N := N) Tryz.underlying30 (by kernel_rfl) (by kernel_rfl) (by kernel_rfl) (Rs := [_, _, _, _, _, _])
      ⟨opn_int (X := (cx Tryz.prog mixed tyT_ok E)) Tryz.underlying3, opn_bool (X := (cx Tryz.prog mixed tyT_ok E)) Tryz.underlying4, opn_int (X := (cx Tryz.prog mixed tyT_ok E)) Tryz.underlying3, opn_str (X := (cx Tryz.prog mixed tyT_ok E)) Tryz.underlying9,
        Opn.le (opn_vals E (opn_val N)) (Nat.le_succ _), opn_strs E Tryz.underlying28 Tryz.underlying9 (by kernel_rfl) (by kernel_rfl) (by kernel_rfl), trivial⟩) ?_
    rintro ds n ⟨_, _, _, _, ⟨k, hk, rfl, rfl⟩, ⟨_, _, _, _, ⟨b, rfl, rfl⟩, ⟨_, _, _, _, ⟨i, hi, rfl, rfl⟩, ⟨_, _, _, _, ⟨t, ht, rfl, rfl⟩, ⟨_, _, _, _, ⟨_, rfl, l, hl, rfl, hw⟩, ⟨_, _, _, _, ⟨ks, rfl, rfl⟩, ⟨rfl, rfl⟩, rfl, rfl⟩, rfl, rfl⟩, rfl, rfl⟩, rfl, rfl⟩, rfl, rfl⟩, rfl, rfl⟩
    refine ⟨_, _, ⟨.mk k b i t l ks, ⟨hk, hi, hl⟩, rfl, Nat.le_refl _⟩, ?_, ⟨Dle.refl _ _, Dle.refl _ _, Dle.refl _ _, Dle.refl _ _, Dle.refl _ _, Dle.refl _ _, trivial⟩⟩
    simp only [Vu.wt]
    omega
end
end Go.Proofs.YthoemnhigboahaaGreatDoor
namespace Go.Proofs.YthoemnhigboahaaGreatDoor
open Go.RowKit
set_option linter.unusedVariables false

def Srt (l : List ByteArray) : Prop := ∀ i j, i < j → j < l.length → strLt (l.getD i ⟨#[]⟩) (l.getD j ⟨#[]⟩) = true
end Go.Proofs.YthoemnhigboahaaGreatDoor
namespace Go.Proofs.YthoemnhigboahaaGreatDoor
open Go.RowKit
set_option linter.unusedVariables false
def pcs (s sep : ByteArray) : List ByteArray := Lib.splitB sep 0 (Lib.countB s sep) s
end Go.Proofs.YthoemnhigboahaaGreatDoor
namespace Go.Proofs.YthoemnhigboahaaGreatDoor
open Go.RowKit
set_option linter.unusedVariables false
set_option linter.unusedSimpArgs false
def ML (w : World) : Prop := ∃ m : Int, w.cell? ⟨0, 0, none⟩ = some (.int .i64 m)
theorem ML.kp {w w' : World} (h : ML w) (hk : Kp (0 + 1) noS w w') : ML w' := by
  obtain ⟨m, h⟩ := h
  exact ⟨m, (hk.cell (Nat.lt_succ_self _) (fun h => h)).trans h⟩
theorem ML.lt {w : World} (h : ML w) : 0 + 1 ≤ w.heap.size := by
  obtain ⟨m, h⟩ := h
  exact World.block_lt_of_cell? w ⟨_, 0, none⟩ h
@[irreducible] def digs (s : ByteArray) : Bool := allN s.size (fun k => digitB (bAt s k))
@[irreducible] def indexB (p : ByteArray) : Bool := decide (0 < p.size) && decide (p.size ≤ 4) && digs p && (!decide (bAt p 0 = 48) || decide (p = ⟨#[48]⟩))
def partOk (stars : Bool) (p : ByteArray) : Bool := keyOkB p || (stars && decide (p = ⟨#[42]⟩)) || indexB p
@[irreducible] def routeOk (stars : Bool) (s : ByteArray) : Bool := decide (s.size ≤ 400) && (decide (s = ⟨#[]⟩) || (pcs s ⟨#[46]⟩).all (partOk stars))
@[irreducible] def partsR (s : ByteArray) : List ByteArray := if s = ⟨#[]⟩ then [] else pcs s ⟨#[46]⟩
theorem dig_set : ∀ n : Fin 256, digitB (UInt8.ofNat n.val) = ([48, 49, 50, 51, 52, 53, 54, 55, 56, 57] : List UInt8).contains (UInt8.ofNat n.val) := by decide +kernel
@[irreducible] def dgB (s : ByteArray) : Bool := decide (¬ s = ⟨#[]⟩) && digs s
theorem dgB_pos {s : ByteArray} (h : dgB s = true) : 0 < s.size := by
  unfold dgB at h
  simp at h
  exact str_pos h.1
section
variable (E : Env)
set_option maxRecDepth 100000
end
end Go.Proofs.YthoemnhigboahaaGreatDoor
namespace Go.Proofs.YthoemnhigboahaaGreatDoor
open Go.RowKit
set_option linter.unusedVariables false
set_option linter.unusedSimpArgs false
section
variable (E : Env)
set_option maxRecDepth 100000
end
end Go.Proofs.YthoemnhigboahaaGreatDoor
namespace Go.Proofs.YthoemnhigboahaaGreatDoor
open Go.RowKit
set_option linter.unusedVariables false
set_option linter.unusedSimpArgs false
structure Lst where
  key : ByteArray
  number : Int
instance : Inhabited Lst := ⟨⟨⟨#[]⟩, 0⟩⟩
def Lst.cell (s : Lst) (j : Nat) : DD :=
  match j with
  | 0 => dS s.key
  | 1 => i64 s.number
  | _ => .opq
section
variable (E : Env)
end
end Go.Proofs.YthoemnhigboahaaGreatDoor
namespace Go.Proofs.YthoemnhigboahaaGreatDoor
open Go.RowKit
set_option linter.unusedVariables false
set_option linter.unusedSimpArgs false
section
variable (E : Env)
set_option maxRecDepth 100000
end
end Go.Proofs.YthoemnhigboahaaGreatDoor
namespace Go.Proofs.YthoemnhigboahaaGreatDoor
open Go.RowKit
set_option linter.unusedVariables false
set_option linter.unusedSimpArgs false
def listL : List Vu → Int
  | [] => 0
  | x :: r => if itemCheckE x = 0 then listL r else itemCheckE x
def listE (l : List Vu) : Int := if 2000 < l.length then 4 else listL l
theorem listL_drop {l : List Vu} {k : Nat} (h : k < l.length) : listL (l.drop k) = if itemCheckE (l.getD k .zero) = 0 then listL (l.drop (k + 1)) else itemCheckE (l.getD k .zero) := by
  rw [drop_cons l .zero k h]; simp only [listL]
theorem listL_end {l : List Vu} {k : Nat} (h : l.length ≤ k) : listL (l.drop k) = 0 := by rw [List.drop_of_length_le h]; rfl
theorem wt_memU : ∀ (l : List Vu) (x : Vu), x ∈ l → x.wt ≤ Vu.wtL l
  | a :: l, x, h => by
    rcases List.mem_cons.1 h with rfl | h
    · simp [Vu.wtL]
    · have := wt_memU l x h; simp [Vu.wtL]; omega
theorem sum_mem {l : List Vu} {n : Nat} (h : Vu.wtL l ≤ n) {k : Nat} (hk : k < l.length) : (l.getD k .zero).wt ≤ n := Nat.le_trans (wt_memU l _ (getD_mem l .zero k hk)) h
section
variable (E : Env)
set_option maxRecDepth 100000
set_option maxHeartbeats 1000000 in
theorem listFault_sp (l : List Vu) (hw : Vu.wtL l ≤ 100000000) : Sp (cx Tryz.prog mixed tyT_ok E) 42 [.rc (.vals l)] (i64 (listE l)) := by
  obtain ⟨r, hr⟩ : ∃ r, r = listE l := ⟨_, rfl⟩
  rw [← hr]
  unfold listE at hr
  refine Sp.body Tryz.func42 (by kernel_rfl) rfl (by kernel_rfl) (by kernel_rfl) (by kernel_rfl) ?_
  repeat' first
    | (refine facW_intro ?_; intro _)
    | refine Or.inl ?_
    | ((conv => whnf); first | (refine condW_dec ?_ ?_ <;> intro _) | refine condW_not ?_ | (refine condW_bool ?_ ?_ <;> intro _) | (refine nbC_t (fun _ => ?_) ?_) | (refine nbC_f ?_ (fun _ => ?_)))
    | refine And.intro (by first | omega | (simp only [Int.toNat_natCast] at *; omega) | (simp only [Nat.reduceAdd, Int.cast_ofNat_Int, true_and, and_true]; omega)  | kernel_rfl) ?_
    | refine RegW.run ?_
    | fail
  · exact Dle.i (by rw [hr, if_pos (by omega)])
  · rw [if_neg (by omega)] at hr
    refine ⟨Nat, fun k => [(11, i64 k)], fun k => [], [], fun k => [], fun k => k ≤ l.length ∧ r = listL (l.drop k), fun k => l.length - k, ⟨0, ⟨by omega, hr⟩, ⟨[], ⟨by kernel_rfl, by kernel_rfl, by kernel_rfl, by kernel_rfl, by kernel_rfl, by kernel_rfl, by kernel_rfl⟩, (by repeat' first | exact trivial | exact rfl | kernel_rfl | exact Dle.of_eq rfl | exact MLe.of_eq rfl | exact Dle.i (by omega) | exact Dle.i (by simp only [Int.toNat_natCast] at *; omega) | exact Dle.nil | exact Dle.rc Dle.nil | exact Option.some_ne_none _ | exact Or.inl rfl | exact Or.inr trivial | omega | (simp only [Int.toNat_natCast] at *; omega) | (intro _ _ _ _; exact Dle.of_eq rfl) | refine And.intro ?_ ?_)⟩⟩, fun k hk => ?_⟩
    obtain ⟨hk, hK⟩ := hk
    refine Or.inl ?_
    refine condW_dec ?_ ?_ <;> intro hlt
    · have hlt : k < l.length := by omega
      rw [listL_drop hlt] at hK
      have hc := checkItem_sp E (l.getD k .zero) (by have := cnt_le_wt (l.getD k .zero); have := sum_mem hw hlt; omega)
      generalize itemCheckE (l.getD k .zero) = e at hc hK
      repeat' first
        | (refine facW_intro ?_; intro _)
        | refine Or.inl ?_
        | ((conv => whnf); first | (refine condW_dec ?_ ?_ <;> intro _) | refine condW_not ?_ | (refine condW_bool ?_ ?_ <;> intro _) | (refine nbC_t (fun _ => ?_) ?_) | (refine nbC_f ?_ (fun _ => ?_)))
        | refine And.intro (by first | omega | (simp only [Int.toNat_natCast] at *; omega) | (simp only [Nat.reduceAdd, Int.cast_ofNat_Int, true_and, and_true]; omega)  | kernel_rfl) ?_
        | refine RegW.run ?_
        | refine ⟨_, hc, ?_⟩
        | fail
      · rename_i h
        exact ⟨k + 1, ⟨by omega, by rw [hK, if_pos h]⟩, ⟨[], ⟨by kernel_rfl, by kernel_rfl, by kernel_rfl, by kernel_rfl, by kernel_rfl, by kernel_rfl, by kernel_rfl⟩, (by repeat' first | exact trivial | exact rfl | kernel_rfl | exact Dle.of_eq rfl | exact MLe.of_eq rfl | exact Dle.i (by omega) | exact Dle.i (by simp only [Int.toNat_natCast] at *; omega) | exact Dle.nil | exact Dle.rc Dle.nil | exact Option.some_ne_none _ | exact Or.inl rfl | exact Or.inr trivial | omega | (simp only [Int.toNat_natCast] at *; omega) | (intro _ _ _ _; exact Dle.of_eq rfl) | refine And.intro ?_ ?_)⟩, by first | omega | (dsimp only; omega)⟩
      · rename_i h
        exact Dle.i (by rw [hK, if_neg h])
    · repeat' first
        | (refine facW_intro ?_; intro _)
        | refine Or.inl ?_
        | ((conv => whnf); first | (refine condW_dec ?_ ?_ <;> intro _) | refine condW_not ?_ | (refine condW_bool ?_ ?_ <;> intro _) | (refine nbC_t (fun _ => ?_) ?_) | (refine nbC_f ?_ (fun _ => ?_)))
        | refine And.intro (by first | omega | (simp only [Int.toNat_natCast] at *; omega) | (simp only [Nat.reduceAdd, Int.cast_ofNat_Int, true_and, and_true]; omega)  | kernel_rfl) ?_
        | refine RegW.run ?_
        | fail
      exact Dle.i (by rw [hK, listL_end (by omega)])
set_option maxHeartbeats 1000000 in
theorem refListFault_sp (l : List Vu) (hw : Vu.wtL l ≤ 100000000) : Sp (cx Tryz.prog mixed tyT_ok E) 8 [.rc (.vals l)] (i64 (listE l)) := by
  obtain ⟨r, hr⟩ : ∃ r, r = listE l := ⟨_, rfl⟩
  rw [← hr]
  unfold listE at hr
  refine Sp.body Tryz.func8 (by kernel_rfl) rfl (by kernel_rfl) (by kernel_rfl) (by kernel_rfl) ?_
  repeat' first
    | (refine facW_intro ?_; intro _)
    | refine Or.inl ?_
    | ((conv => whnf); first | (refine condW_dec ?_ ?_ <;> intro _) | refine condW_not ?_ | (refine condW_bool ?_ ?_ <;> intro _) | (refine nbC_t (fun _ => ?_) ?_) | (refine nbC_f ?_ (fun _ => ?_)))
    | refine And.intro (by first | omega | (simp only [Int.toNat_natCast] at *; omega) | (simp only [Nat.reduceAdd, Int.cast_ofNat_Int, true_and, and_true]; omega)  | kernel_rfl) ?_
    | refine RegW.run ?_
    | fail
  · exact Dle.i (by rw [hr, if_pos (by omega)])
  · rw [if_neg (by omega)] at hr
    refine ⟨Nat, fun k => [(11, i64 k)], fun k => [], [], fun k => [], fun k => k ≤ l.length ∧ r = listL (l.drop k), fun k => l.length - k, ⟨0, ⟨by omega, hr⟩, ⟨[], ⟨by kernel_rfl, by kernel_rfl, by kernel_rfl, by kernel_rfl, by kernel_rfl, by kernel_rfl, by kernel_rfl⟩, (by repeat' first | exact trivial | exact rfl | kernel_rfl | exact Dle.of_eq rfl | exact MLe.of_eq rfl | exact Dle.i (by omega) | exact Dle.i (by simp only [Int.toNat_natCast] at *; omega) | exact Dle.nil | exact Dle.rc Dle.nil | exact Option.some_ne_none _ | exact Or.inl rfl | exact Or.inr trivial | omega | (simp only [Int.toNat_natCast] at *; omega) | (intro _ _ _ _; exact Dle.of_eq rfl) | refine And.intro ?_ ?_)⟩⟩, fun k hk => ?_⟩
    obtain ⟨hk, hK⟩ := hk
    refine Or.inl ?_
    refine condW_dec ?_ ?_ <;> intro hlt
    · have hlt : k < l.length := by omega
      rw [listL_drop hlt] at hK
      have hc := refItem_sp E (l.getD k .zero) (by have := cnt_le_wt (l.getD k .zero); have := sum_mem hw hlt; omega)
      generalize itemCheckE (l.getD k .zero) = e at hc hK
      repeat' first
        | (refine facW_intro ?_; intro _)
        | refine Or.inl ?_
        | ((conv => whnf); first | (refine condW_dec ?_ ?_ <;> intro _) | refine condW_not ?_ | (refine condW_bool ?_ ?_ <;> intro _) | (refine nbC_t (fun _ => ?_) ?_) | (refine nbC_f ?_ (fun _ => ?_)))
        | refine And.intro (by first | omega | (simp only [Int.toNat_natCast] at *; omega) | (simp only [Nat.reduceAdd, Int.cast_ofNat_Int, true_and, and_true]; omega)  | kernel_rfl) ?_
        | refine RegW.run ?_
        | refine ⟨_, hc, ?_⟩
        | fail
      · rename_i h
        exact ⟨k + 1, ⟨by omega, by rw [hK, if_pos h]⟩, ⟨[], ⟨by kernel_rfl, by kernel_rfl, by kernel_rfl, by kernel_rfl, by kernel_rfl, by kernel_rfl, by kernel_rfl⟩, (by repeat' first | exact trivial | exact rfl | kernel_rfl | exact Dle.of_eq rfl | exact MLe.of_eq rfl | exact Dle.i (by omega) | exact Dle.i (by simp only [Int.toNat_natCast] at *; omega) | exact Dle.nil | exact Dle.rc Dle.nil | exact Option.some_ne_none _ | exact Or.inl rfl | exact Or.inr trivial | omega | (simp only [Int.toNat_natCast] at *; omega) | (intro _ _ _ _; exact Dle.of_eq rfl) | refine And.intro ?_ ?_)⟩, by first | omega | (dsimp only; omega)⟩
      · rename_i h
        exact Dle.i (by rw [hK, if_neg h])
    · repeat' first
        | (refine facW_intro ?_; intro _)
        | refine Or.inl ?_
        | ((conv => whnf); first | (refine condW_dec ?_ ?_ <;> intro _) | refine condW_not ?_ | (refine condW_bool ?_ ?_ <;> intro _) | (refine nbC_t (fun _ => ?_) ?_) | (refine nbC_f ?_ (fun _ => ?_)))
        | refine And.intro (by first | omega | (simp only [Int.toNat_natCast] at *; omega) | (simp only [Nat.reduceAdd, Int.cast_ofNat_Int, true_and, and_true]; omega)  | kernel_rfl) ?_
        | refine RegW.run ?_
        | fail
      exact Dle.i (by rw [hK, listL_end (by omega)])
end
end Go.Proofs.YthoemnhigboahaaGreatDoor
