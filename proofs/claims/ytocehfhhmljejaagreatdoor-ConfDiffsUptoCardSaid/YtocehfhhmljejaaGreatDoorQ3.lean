/-
  This program's recursive data; the context of its calls. Small contracts by data: bytes, keys, days of settings. Keys of settings. Fields that a kind does not use.
-/
import Derived.Test.YtocehfhhmljejaaGreatDoorTy
namespace Go.Proofs.YtocehfhhmljejaaGreatDoor
open Go.RowKit

inductive Vu : Type where
  | mk (kind : Int) (b : Bool) (i : Int) (text : ByteArray) (items : List Vu) (keys : List ByteArray)
def Vu.kind : Vu → Int | .mk k _ _ _ _ _ => k
def Vu.b : Vu → Bool | .mk _ b _ _ _ _ => b
def Vu.i : Vu → Int | .mk _ _ i _ _ _ => i
def Vu.text : Vu → ByteArray | .mk _ _ _ t _ _ => t
def Vu.items : Vu → List Vu | .mk _ _ _ _ l _ => l
def Vu.keys : Vu → List ByteArray | .mk _ _ _ _ _ k => k
theorem Vu.eta (v : Vu) : v = .mk v.kind v.b v.i v.text v.items v.keys := by cases v; rfl
def Vu.zero : Vu := .mk 0 false 0 ⟨#[]⟩ [] []
instance : Inhabited Vu := ⟨.zero⟩

inductive Cd : Type where
  | mk (op : Int) (route : ByteArray) (value : Vu) (kids : List Cd)
def Cd.op : Cd → Int | .mk o _ _ _ => o
def Cd.route : Cd → ByteArray | .mk _ r _ _ => r
def Cd.value : Cd → Vu | .mk _ _ v _ => v
def Cd.kids : Cd → List Cd | .mk _ _ _ k => k
theorem Cd.eta (c : Cd) : c = .mk c.op c.route c.value c.kids := by cases c; rfl
def Cd.zero : Cd := .mk 0 ⟨#[]⟩ .zero []
instance : Inhabited Cd := ⟨.zero⟩

inductive Ts : Type where
  | mk (op md lo hi : Int) (kids : List Ts)
def Ts.op : Ts → Int | .mk o _ _ _ _ => o
def Ts.md : Ts → Int | .mk _ m _ _ _ => m
def Ts.lo : Ts → Int | .mk _ _ l _ _ => l
def Ts.hi : Ts → Int | .mk _ _ _ h _ => h
def Ts.kids : Ts → List Ts | .mk _ _ _ _ k => k
theorem Ts.eta (t : Ts) : t = .mk t.op t.md t.lo t.hi t.kids := by cases t; rfl
def Ts.zero : Ts := .mk 0 0 0 0 []
instance : Inhabited Ts := ⟨.zero⟩

inductive RC : Type where
  | vals (l : List Vu)
  | conds (l : List Cd)
  | tests (l : List Ts)

abbrev DD := D RC
def encStrs (l : List ByteArray) : DD := .sl 1 16 l.length (fun i _ => .v (.string (l.getD i ⟨#[]⟩)))
def Vu.cell (v : Vu) (j : Nat) : DD :=
  match j with
  | 0 => .v (.int .i64 v.kind)
  | 1 => .v (.bool v.b)
  | 2 => .v (.int .i64 v.i)
  | 3 => .v (.string v.text)
  | 4 => .rc (.vals v.items)
  | 5 => encStrs v.keys
  | _ => .opq
def encV (v : Vu) : DD := .agg [.v (.int .i64 v.kind), .v (.bool v.b), .v (.int .i64 v.i), .v (.string v.text), .rc (.vals v.items), encStrs v.keys]
def Cd.cell (c : Cd) (j : Nat) : DD :=
  match j with
  | 0 => .v (.int .i64 c.op)
  | 1 => .v (.string c.route)
  | 2 => .v (.int .i64 c.value.kind)
  | 3 => .v (.bool c.value.b)
  | 4 => .v (.int .i64 c.value.i)
  | 5 => .v (.string c.value.text)
  | 6 => .rc (.vals c.value.items)
  | 7 => encStrs c.value.keys
  | 8 => .rc (.conds c.kids)
  | _ => .opq
def Ts.cell (t : Ts) (j : Nat) : DD :=
  match j with
  | 0 => .v (.int .i64 t.op)
  | 1 => .v (.int .i64 t.md)
  | 2 => .v (.int .i64 t.lo)
  | 3 => .v (.int .i64 t.hi)
  | 4 => .rc (.tests t.kids)
  | _ => .opq
def view : VW RC
  | .vals l => (6, 88, l.length, fun i j => (l.getD i .zero).cell j)
  | .conds l => (9, 136, l.length, fun i j => (l.getD i .zero).cell j)
  | .tests l => (5, 56, l.length, fun i j => (l.getD i .zero).cell j)

structure Env where
  nG : Nat
  G : World → Prop
  gsz : ∀ w, G w → nG ≤ w.heap.size
  keep : ∀ w w', G w → Kp nG noS w w' → G w'
  MG : Nat → Nat → Prop
  mg : ∀ b o, MG b o → b < nG
  gv : Nat → DD
  gok : ∀ w, G w → ∀ g, Rep view MG w b0 (gv g) (.pointer (some ⟨g, 0, none⟩))
def cx (P : Program) (hm : P.follows .mixedOrders = true) (ht : TyS P) (E : Env) : Cx RC :=
  { P := P, V := view, nG := E.nG, G := E.G, gsz := E.gsz, keep := E.keep, mixed := hm, MG := E.MG, mg := E.mg, gv := E.gv, gok := E.gok, T := tyT, tok := ht.ty, se := seB, sok := ht.se }
theorem mixed : Tryz.prog.follows .mixedOrders = true := by kernel_rfl
abbrev i64 (n : Int) : DD := .v (.int .i64 n)
abbrev dB (b : Bool) : DD := .v (.bool b)
abbrev dS (s : ByteArray) : DD := .v (.string s)
end Go.Proofs.YtocehfhhmljejaaGreatDoor
namespace Go.Proofs.YtocehfhhmljejaaGreatDoor
open Go.RowKit
set_option linter.unusedVariables false
set_option linter.unusedSimpArgs false

theorem Sp.of_v2 {κ : Type} {X : Cx κ} {f : FuncId} {vs : List Value} {x : Value} (he : Ent X.P f) (hx : (∀ y ∈ vs, okB y = true) → okB x = true) (h : ∀ w, X.G w → (∀ y ∈ vs, okB y = true) → Calls X.P f vs.toArray w fun e w' => e = .returned x ∧ Below w.heap.size w w') : Sp X f (vs.map .v) (.v x) := by
  refine .inl ⟨he, fun M β w ws hG hMG hM hl hr hp hb => ?_⟩
  have hv : ∀ i (h3 : i < vs.length), ws.getD i undef = vs[i] ∧ okB vs[i] = true := fun i h3 => by
    have := hr i (.v vs[i]) (by simp [h3])
    exact this.val
  have hok : ∀ y ∈ vs, okB y = true := fun y hy => by
    obtain ⟨i, hi, rfl⟩ := List.getElem_of_mem hy
    exact (hv i hi).2
  have e : ws = vs.toArray := by
    apply Array.ext
    · simpa using hl
    · intro i h1 h2
      have h3 : i < vs.length := by simpa using h2
      have := (hv i h3).1
      simp [Array.getD, h1] at this
      simpa using this
  rw [e]
  exact (h w hG hok).mono fun e w' ⟨h1, h2⟩ => ⟨x, M, β, h1, Kp.of h2 _, fun _ _ _ => rfl, fun _ _ h => h, fun _ _ h => .inl h, .v (hx hok), ⟨fun l o hm => (by cases hm), fun l o l' o' b c c' hm => (by cases hm)⟩, fun b ⟨l, o, c, hm, _⟩ => (by cases hm)⟩
theorem Sp.of_v {κ : Type} {X : Cx κ} {f : FuncId} {vs : List Value} {x : Value} (he : Ent X.P f) (hx : okB x = true) (h : ∀ w, X.G w → Calls X.P f vs.toArray w fun e w' => e = .returned x ∧ Below w.heap.size w w') : Sp X f (vs.map .v) (.v x) :=
  Sp.of_v2 he (fun _ => hx) (fun w hG _ => h w hG)

theorem take_snoc {α : Type} (l : List α) (d : α) (k : Nat) (h : k < l.length) : l.take (k + 1) = l.take k ++ [l.getD k d] := by
  rw [List.take_succ_eq_append_getElem h]
  simp [List.getD, h]
theorem getD_mem {α : Type} (l : List α) (d : α) (k : Nat) (h : k < l.length) : l.getD k d ∈ l := by
  simp [List.getD, h]
def allN (n : Nat) (p : Nat → Bool) : Bool := (List.range n).all p
theorem allN_iff {n : Nat} {p : Nat → Bool} : allN n p = true ↔ ∀ k, k < n → p k = true := by simp [allN]
theorem allN_no {n k : Nat} {p : Nat → Bool} (h : k < n) (hp : p k = false) : allN n p = false := by
  cases e : allN n p
  · rfl
  · rw [allN_iff] at e; rw [e k h] at hp; cases hp
theorem allN_succ {n : Nat} {p : Nat → Bool} (h : allN n p = true) (hp : p n = true) : allN (n + 1) p = true := by
  rw [allN_iff] at h ⊢
  intro k hk
  rcases Nat.lt_or_ge k n with h1 | h1
  · exact h k h1
  · obtain rfl : k = n := by omega
    exact hp

def smallB (c : UInt8) : Bool := decide (97 ≤ c.toNat) && decide (c.toNat ≤ 122)
def digitB (c : UInt8) : Bool := decide (48 ≤ c.toNat) && decide (c.toNat ≤ 57)
def kchB (c : UInt8) : Bool := smallB c || digitB c || decide (c.toNat = 45) || decide (c.toNat = 95)
@[irreducible] def keyOkB (s : ByteArray) : Bool := decide (0 < s.size) && decide (s.size ≤ 40) && smallB (bAt s 0) && allN s.size (fun k => kchB (bAt s k))
def badCh (c : UInt8) : Bool := decide (c.toNat < 32) && !decide (c.toNat = 9) && !decide (c.toNat = 10)
theorem badCh_iff {c : UInt8} : badCh c = true ↔ c.toNat < 32 ∧ c.toNat ≠ 9 ∧ c.toNat ≠ 10 := by simp [badCh, and_assoc]
theorem badCh_no {c : UInt8} : (!badCh c) = true ↔ ¬ (c.toNat < 32 ∧ c.toNat ≠ 9 ∧ c.toNat ≠ 10) := by rw [← badCh_iff]; simp
@[irreducible] def badStr (s : ByteArray) : Bool := !allN s.size (fun k => !badCh (bAt s k))

section
variable (E : Env)
set_option maxRecDepth 100000

theorem isSmall_sp (c : UInt8) : Sp (cx Tryz.prog mixed tyT_ok E) 97 [.v (.int .u8 c.toNat)] (dB (smallB c)) := by
  refine Sp.body Tryz.func97 (by kernel_rfl) rfl (by kernel_rfl) (by kernel_rfl) (by kernel_rfl) ?_
  refine condW_dec ?_ ?_
  · intro h
    exact Dle.bo (by unfold smallB; grind)
  · intro h
    exact Dle.bo (by unfold smallB; grind)
theorem isDigit_sp (c : UInt8) : Sp (cx Tryz.prog mixed tyT_ok E) 98 [.v (.int .u8 c.toNat)] (dB (digitB c)) := by
  refine Sp.body Tryz.func98 (by kernel_rfl) rfl (by kernel_rfl) (by kernel_rfl) (by kernel_rfl) ?_
  refine condW_dec ?_ ?_
  · intro h
    exact Dle.bo (by unfold digitB; grind)
  · intro h
    exact Dle.bo (by unfold digitB; grind)
theorem badBytes_sp (s : ByteArray) : Sp (cx Tryz.prog mixed tyT_ok E) 85 [dS s] (dB (badStr s)) := by
  refine Sp.body Tryz.func85 (by kernel_rfl) rfl (by kernel_rfl) (by kernel_rfl) (by kernel_rfl) ?_
  refine ⟨Nat, fun k => [(3, i64 k)], fun k => [], [], fun k => [], fun k => k ≤ s.size ∧ allN k (fun k => !badCh (bAt s k)) = true, fun k => s.size - k, ⟨0, ⟨by omega, rfl⟩, ⟨[], ⟨by kernel_rfl, by kernel_rfl, by kernel_rfl, by kernel_rfl, by kernel_rfl, by kernel_rfl, by kernel_rfl⟩, (by repeat' first | exact trivial | exact rfl | kernel_rfl | exact Dle.of_eq rfl | exact MLe.of_eq rfl | exact Dle.i (by omega) | exact Dle.i (by simp only [Int.toNat_natCast] at *; omega) | exact Dle.nil | exact Dle.rc Dle.nil | exact Option.some_ne_none _ | exact Or.inl rfl | exact Or.inr trivial | omega | (simp only [Int.toNat_natCast] at *; omega) | (intro _ _ _ _; exact Dle.of_eq rfl) | refine And.intro ?_ ?_)⟩⟩, fun k hk => ?_⟩
  obtain ⟨hk, hall⟩ := hk
  have hno : ∀ b, badCh (bAt s k) = b → k < s.size → b = true → badStr s = true := fun b hb hlt e => by
    unfold badStr; rw [allN_no hlt (by rw [hb, e]; rfl)]; rfl
  have hend : s.size ≤ k → badStr s = false := fun h => by
    obtain rfl : k = s.size := by omega
    unfold badStr; rw [hall]; rfl
  repeat' first
    | (refine facW_intro ?_; intro _)
    | refine Or.inl ?_
    | ((conv => whnf); first | (refine condW_dec ?_ ?_ <;> intro _) | refine condW_not ?_ | (refine condW_bool ?_ ?_ <;> intro _) | (refine nbC_t (fun _ => ?_) ?_) | (refine nbC_f ?_ (fun _ => ?_)))
    | refine And.intro (by first | omega | (simp only [Int.toNat_natCast] at *; omega) | (simp only [Nat.reduceAdd, Int.cast_ofNat_Int, true_and, and_true]; omega)  | kernel_rfl) ?_
    | refine RegW.run ?_
    | fail
  all_goals first
    | (refine ⟨k + 1, ⟨by omega, allN_succ hall (badCh_no.2 (by simp only [Int.toNat_natCast] at *; omega))⟩, ⟨[], ⟨by kernel_rfl, by kernel_rfl, by kernel_rfl, by kernel_rfl, by kernel_rfl, by kernel_rfl, by kernel_rfl⟩, (by repeat' first | exact trivial | exact rfl | kernel_rfl | exact Dle.of_eq rfl | exact MLe.of_eq rfl | exact Dle.i (by omega) | exact Dle.i (by simp only [Int.toNat_natCast] at *; omega) | exact Dle.nil | exact Dle.rc Dle.nil | exact Option.some_ne_none _ | exact Or.inl rfl | exact Or.inr trivial | omega | (simp only [Int.toNat_natCast] at *; omega) | (intro _ _ _ _; exact Dle.of_eq rfl) | refine And.intro ?_ ?_)⟩, by first | omega | (dsimp only; omega)⟩)
    | exact Dle.bo (by rw [hend (by omega)])
    | exact Dle.bo (by rw [hno _ rfl (by omega) (badCh_iff.2 (by simp only [Int.toNat_natCast] at *; omega))])
end
end Go.Proofs.YtocehfhhmljejaaGreatDoor
namespace Go.Proofs.YtocehfhhmljejaaGreatDoor
open Go.RowKit
set_option linter.unusedVariables false
set_option linter.unusedSimpArgs false
theorem str_pos {s : ByteArray} (h : ¬ s = ⟨#[]⟩) : 0 < s.size := by
  rcases Nat.eq_zero_or_pos s.size with h0 | h0
  · exact absurd (by cases s with | mk d => exact congrArg _ (Array.eq_empty_of_size_eq_zero h0)) h
  · exact h0
theorem allN_one {n : Nat} {p : Nat → Bool} (h : n = 1) (hp : p 0 = true) : allN n p = true := by subst h; simp [allN, hp]
theorem keyOkB_no1 {s : ByteArray} (h : s = ⟨#[]⟩) : keyOkB s = false := by subst h; unfold keyOkB; rfl
theorem keyOkB_no2 {s : ByteArray} (h : 40 < s.size) : keyOkB s = false := by unfold keyOkB; simp; omega
theorem keyOkB_no3 {s : ByteArray} (h : smallB (bAt s 0) = false) : keyOkB s = false := by unfold keyOkB; simp [h]
theorem keyOkB_no4 {s : ByteArray} {k : Nat} (h : kchB (bAt s k) = false) (hk : k < s.size) : keyOkB s = false := by unfold keyOkB; rw [allN_no hk h]; simp
theorem keyOkB_yes {s : ByteArray} (h0 : 0 < s.size) (h1 : s.size ≤ 40) (h2 : smallB (bAt s 0) = true) (h3 : allN s.size (fun k => kchB (bAt s k)) = true) : keyOkB s = true := by unfold keyOkB; simp [h0, h1, h2, h3]
section
variable (E : Env)
set_option maxRecDepth 100000

theorem isKey_sp (s : ByteArray) : Sp (cx Tryz.prog mixed tyT_ok E) 86 [dS s] (dB (keyOkB s)) := by
  refine Sp.body Tryz.func86 (by kernel_rfl) rfl (by kernel_rfl) (by kernel_rfl) (by kernel_rfl) ?_
  refine Or.inl ?_
  refine condW_dec ?_ ?_ <;> intro h0
  · exact Dle.bo (by rw [keyOkB_no1 h0])
  have hp := str_pos h0
  repeat' first
    | (refine facW_intro ?_; intro _)
    | refine Or.inl ?_
    | ((conv => whnf); first | (refine condW_dec ?_ ?_ <;> intro _) | refine condW_not ?_ | (refine condW_bool ?_ ?_ <;> intro _) | (refine nbC_t (fun _ => ?_) ?_) | (refine nbC_f ?_ (fun _ => ?_)))
    | refine And.intro (by first | omega | (simp only [Int.toNat_natCast] at *; omega) | (simp only [Nat.reduceAdd, Int.cast_ofNat_Int, true_and, and_true]; omega)  | kernel_rfl) ?_
    | refine RegW.run ?_
    | refine ⟨_, isSmall_sp E _, ?_⟩
    | fail
  · exact Dle.bo (by rw [keyOkB_no2 (by omega)])
  rotate_left
  · rename_i h
    exact Dle.bo (by rw [keyOkB_no3 h])
  rename_i hs
  refine ⟨Nat, fun k => [(3, i64 k)], fun k => [], [], fun k => [], fun k => 1 ≤ k ∧ k ≤ s.size ∧ allN k (fun k => kchB (bAt s k)) = true, fun k => s.size - k, ⟨1, ⟨by omega, by omega, allN_one rfl (by simp only [kchB, Bool.or_eq_true]; exact Or.inl (Or.inl (Or.inl hs)))⟩, ⟨[], ⟨by kernel_rfl, by kernel_rfl, by kernel_rfl, by kernel_rfl, by kernel_rfl, by kernel_rfl, by kernel_rfl⟩, (by repeat' first | exact trivial | exact rfl | kernel_rfl | exact Dle.of_eq rfl | exact MLe.of_eq rfl | exact Dle.i (by omega) | exact Dle.i (by simp only [Int.toNat_natCast] at *; omega) | exact Dle.nil | exact Dle.rc Dle.nil | exact Option.some_ne_none _ | exact Or.inl rfl | exact Or.inr trivial | omega | (simp only [Int.toNat_natCast] at *; omega) | (intro _ _ _ _; exact Dle.of_eq rfl) | refine And.intro ?_ ?_)⟩⟩, fun k hk => ?_⟩
  obtain ⟨h1, hk, hall⟩ := hk
  have hend : s.size ≤ k → keyOkB s = true := fun h => by
    obtain rfl : k = s.size := by omega
    exact keyOkB_yes hp (by omega) hs hall
  have hno : k < s.size → kchB (bAt s k) = false → keyOkB s = false := fun h e => keyOkB_no4 e h
  repeat' first
    | (refine facW_intro ?_; intro _)
    | refine Or.inl ?_
    | ((conv => whnf); first | (refine condW_dec ?_ ?_ <;> intro _) | refine condW_not ?_ | (refine condW_bool ?_ ?_ <;> intro _) | (refine nbC_t (fun _ => ?_) ?_) | (refine nbC_f ?_ (fun _ => ?_)))
    | refine And.intro (by first | omega | (simp only [Int.toNat_natCast] at *; omega) | (simp only [Nat.reduceAdd, Int.cast_ofNat_Int, true_and, and_true]; omega)  | kernel_rfl) ?_
    | refine RegW.run ?_
    | refine ⟨_, isSmall_sp E _, ?_⟩
    | refine ⟨_, isDigit_sp E _, ?_⟩
    | fail
  all_goals first
    | (refine ⟨k + 1, ⟨by omega, by omega, allN_succ hall ?_⟩, ⟨[], ⟨by kernel_rfl, by kernel_rfl, by kernel_rfl, by kernel_rfl, by kernel_rfl, by kernel_rfl, by kernel_rfl⟩, (by repeat' first | exact trivial | exact rfl | kernel_rfl | exact Dle.of_eq rfl | exact MLe.of_eq rfl | exact Dle.i (by omega) | exact Dle.i (by simp only [Int.toNat_natCast] at *; omega) | exact Dle.nil | exact Dle.rc Dle.nil | exact Option.some_ne_none _ | exact Or.inl rfl | exact Or.inr trivial | omega | (simp only [Int.toNat_natCast] at *; omega) | (intro _ _ _ _; exact Dle.of_eq rfl) | refine And.intro ?_ ?_)⟩, by first | omega | (dsimp only; omega)⟩; simp only [Int.toNat_natCast] at *; simp only [kchB, Bool.or_eq_true, decide_eq_true_eq]; grind)
    | exact Dle.bo (by rw [hend (by omega)])
    | exact Dle.bo (by rw [hno (by omega) (by simp only [Int.toNat_natCast] at *; simp only [kchB, Bool.or_eq_false_iff, decide_eq_false_iff_not]; grind)])
    | trace_state
end
end Go.Proofs.YtocehfhhmljejaaGreatDoor
namespace Go.Proofs.YtocehfhhmljejaaGreatDoor
open Go.RowKit
set_option linter.unusedVariables false
set_option linter.unusedSimpArgs false
def unusedP (v : Vu) : Prop :=
  (v.b = true ∧ v.kind ≠ 1) ∨ (v.i ≠ 0 ∧ v.kind ≠ 2 ∧ v.kind ≠ 4) ∨ (v.text ≠ ⟨#[]⟩ ∧ v.kind ≠ 3) ∨ (0 < v.items.length ∧ v.kind ≠ 5 ∧ v.kind ≠ 6) ∨ (0 < v.keys.length ∧ v.kind ≠ 6) ∨ (v.kind = 6 ∧ v.keys.length ≠ v.items.length)
instance (v : Vu) : Decidable (unusedP v) := by unfold unusedP; infer_instance
def badDayP (n : Int) : Prop := n < 0 ∨ 84005 < n
instance (n : Int) : Decidable (badDayP n) := by unfold badDayP; infer_instance
section
variable (E : Env)
set_option maxRecDepth 100000
theorem badDay_sp (n : Int) : Sp (cx Tryz.prog mixed tyT_ok E) 84 [i64 n] (dB (decide (badDayP n))) := by
  refine Sp.body Tryz.func84 (by kernel_rfl) rfl (by kernel_rfl) (by kernel_rfl) (by kernel_rfl) ?_
  repeat' first
    | (refine facW_intro ?_; intro _)
    | refine Or.inl ?_
    | ((conv => whnf); first | (refine condW_dec ?_ ?_ <;> intro _ <;> try (exfalso; omega)) | refine condW_not ?_ | (refine condW_bool ?_ ?_ <;> intro _ <;> try (exfalso; omega)) | (refine nbC_t (fun _ => ?_) ?_) | (refine nbC_f ?_ (fun _ => ?_)))
    | refine And.intro (by first | omega | (simp only [Int.toNat_natCast] at *; omega) | (simp only [Nat.reduceAdd, Int.cast_ofNat_Int, true_and, and_true]; omega)  | kernel_rfl) ?_
    | refine RegW.run ?_
    | fail
  all_goals exact Dle.bo (by unfold badDayP; grind)
set_option maxHeartbeats 1000000 in
theorem unused_sp (v : Vu) : Sp (cx Tryz.prog mixed tyT_ok E) 83 [encV v] (dB (decide (unusedP v))) := by
  refine Sp.body Tryz.func83 (by kernel_rfl) rfl (by kernel_rfl) (by kernel_rfl) (by kernel_rfl) ?_
  repeat' first
    | (refine facW_intro ?_; intro _)
    | refine Or.inl ?_
    | ((conv => whnf); first | (refine condW_dec ?_ ?_ <;> intro _ <;> try (exfalso; omega)) | refine condW_not ?_ | (refine condW_bool ?_ ?_ <;> intro _ <;> try (exfalso; omega)) | (refine nbC_t (fun _ => ?_) ?_) | (refine nbC_f ?_ (fun _ => ?_)))
    | refine And.intro (by first | omega | (simp only [Int.toNat_natCast] at *; omega) | (simp only [Nat.reduceAdd, Int.cast_ofNat_Int, true_and, and_true]; omega)  | kernel_rfl) ?_
    | refine RegW.run ?_
    | fail
  all_goals first
    | exact Dle.bo (by unfold unusedP; grind)
end
end Go.Proofs.YtocehfhhmljejaaGreatDoor
