/-
  Contracts with objects lent whose results are frozen, over any program. conf.printed, conf.printedValue.
-/
import Derived.Test.YtemiaognopgnnaaGreatDoorN18
import Derived.Test.YtemiaognopgnnaaGreatDoorPn2
namespace Go.Proofs.YtemiaognopgnnaaGreatDoor
open Go.RowKit
set_option linter.unusedVariables false
set_option linter.unusedSimpArgs false
section
variable {κ : Type} {X : Cx κ}
/-- The results are d, own rows among them are frozen; what was lent is H'. -/
def retZ (X : Cx κ) (σ0 : St κ) (W : List Nat) (fn : Func) (d : D κ) (H' : List (Nat × Ob κ)) (σ : St κ) : Prop :=
  resWs X σ fn.results.toList fun es => frzAW X σ.ob es fun us es => Dle X (oneD es) d ∧ HeadOk X σ0 W [] H' [] [] (σ.ups us)
theorem SpH.bodyZ {f : FuncId} {fn : Func} {c : Code} {ds : List (D κ)} {H : List (Nat × Ob κ)} {d : D κ} {H' : List (Nat × Ob κ)} (hf : X.P.funcs[f]? = some fn) (hname : (fn.name == "runtime.NumGoroutine") = false) (hb : fn.body = some c) (hn : Nat.ble ds.length fn.ntmps = true) (hok : codeOk fn.ntmps c = true) (hA : argsOk (writes c) ds H = true) (hd : d.frzT = true)
    (hW : codeW X c (exitW (retZ X (start X ds H) (writes c) fn d H')) (start X ds H)) : SpH X f ds H d H' := by
  refine SpH.core hf hname hb hn hok hA (fun {S0 M0 M w0 w β a σ} hL h hret hfr => ?_) hW
  obtain ⟨vs, es, h1, h2, h3, h4, h5⟩ := ress_run h _ hret
  let o0 : Oper := { dst := none, op := .move (.const (.bool true)), type := 0, pos := "", after := #[], guard := none }
  obtain ⟨us, es', M', ⟨⟨hle, hh⟩, hu⟩, fr⟩ := frzA_run es (fun i => vs.getD i undef) _ M σ h (FIn.of h) h4 (frzA_upd (o := o0) _ h5)
  have hnone : ∀ l, σ.ob l = none → (σ.ups us).ob l = none := fun l hl => (ups_none us σ l fun p hp e => by
    rcases hu p hp with h6 | h6
    · cases h6
    · exact h6 (e ▸ hl)).trans hl
  obtain ⟨β2, hs⟩ := fr.si.head (by rw [ups_fr]; exact hfr.f) (fun l hl e => hnone l (hfr.o l hl e)) ((ups_frgv us σ).2.trans hfr.g) hL hh
  have hx := hle _ _ _ _ (one_rep (by rw [fr.ln, h3, h2]) fr.re)
  have hin : ∀ {l o}, (l, o) ∈ H' → (l, o) ∈ H' ++ rowsH ([] : Rws κ) := fun hm => List.mem_append_left _ hm
  refine ⟨_, M', β2, ress_val h1, hs.le, fr.mo, hs.mN, hs.mlt, hx.frzT hd, ⟨fun l o hm => ?_, fun l o l' o' b c c' hm hm' hb hb' => ?_⟩, fun b ⟨l, o, c, hm, hb⟩ => ?_⟩
  · obtain ⟨e, hv⟩ := head_at hh (hin hm)
    exact ⟨hv, hs.ob l o false e⟩
  · obtain ⟨e, hv⟩ := head_at hh (hin hm)
    obtain ⟨e', hv'⟩ := head_at hh (hin hm')
    exact hs.oi l l' o o' _ _ b c c' e hv e' hv' hb hb'
  · obtain ⟨e, hv⟩ := head_at hh (hin hm)
    exact hs.oB l o _ b c e hv hb
end
end Go.Proofs.YtemiaognopgnnaaGreatDoor
namespace Go.Proofs.YtemiaognopgnnaaGreatDoor
open Go.RowKit
set_option linter.unusedVariables false
set_option linter.unusedSimpArgs false
namespace pn
open rp
/-- A row of bytes. -/
def rowB (a : List UInt8) (i j : Nat) : DD := .v (.int .u8 (a.getD i 0).toNat)
theorem la1 (A : List UInt8) (s : ByteArray) : A.length + s.size = (A ++ s.data.toList).length := by simp
theorem la2 (A : List UInt8) (b : UInt8) : A.length + 1 = (A ++ [b]).length := by simp
section
variable (E : Env)
theorem rb_app {n m : Nat} {x y : List UInt8} {f h : Nat → Nat → DD} (hn : n = x.length) (hf : ∀ i j, i < n → j < 1 → Dle (cx Tryz.prog mixed tyT_ok E) (f i j) (rowB x i j)) (hm : m = y.length) (hh : ∀ i j, i < m → j < 1 → Dle (cx Tryz.prog mixed tyT_ok E) (h i j) (rowB y i j)) :
    ∀ i j, i < n + m → j < 1 → Dle (cx Tryz.prog mixed tyT_ok E) (if i < n then f i j else h (i - n) j) (rowB (x ++ y) i j) := by
  intro i j hi hj
  subst hn hm
  have e : ∀ q, (x ++ y).getD q 0 = if q < x.length then x.getD q 0 else y.getD (q - x.length) 0 := fun q => by
    simp only [List.getD_eq_getElem?_getD]
    split
    · rename_i h; rw [List.getElem?_append_left h]
    · rename_i h; rw [List.getElem?_append_right (by omega)]
  by_cases h1 : i < x.length
  · rw [if_pos h1]
    have := hf i j h1 hj
    unfold rowB at this ⊢
    rw [e, if_pos h1]
    exact this
  · rw [if_neg h1]
    have := hh (i - x.length) j (by omega) hj
    unfold rowB at this ⊢
    rw [e, if_neg h1]
    exact this
theorem rb_self {x : List UInt8} {n : Nat} : ∀ i j, i < n → j < 1 → Dle (cx Tryz.prog mixed tyT_ok E) (rowB x i j) (rowB x i j) := fun _ _ _ _ => Dle.refl _ _
theorem rb_str {s : ByteArray} {n : Nat} : ∀ i j, i < n → j < 1 → Dle (cx Tryz.prog mixed tyT_ok E) (.v (.int .u8 (bAt s i).toNat)) (rowB s.data.toList i j) := fun _ _ _ _ => Dle.refl _ _
theorem rb_lit (n : Int) (b : UInt8) (h : n = b.toNat) : ∀ i j, i < 1 → j < 1 → Dle (cx Tryz.prog mixed tyT_ok E) (([.v (.int .u8 n)] : List DD).getD (i * 1 + j) .opq) (rowB [b] i j) := fun i j hi hj => by
  obtain rfl : i = 0 := by omega
  obtain rfl : j = 0 := by omega
  subst h
  exact Dle.refl _ _
theorem i64_memL : ∀ (l : List Vu), Vu.i64L l → ∀ x ∈ l, x.i64
  | [], _, x, hx => by cases hx
  | y :: l, h, x, hx => by
    rcases List.mem_cons.1 hx with rfl | hx
    · exact h.1
    · exact i64_memL l h.2 x hx
theorem i64_mem {v x : Vu} (h : v.i64) (hx : x ∈ v.items) : x.i64 := by
  cases v
  exact i64_memL _ h.2.2 x hx
theorem wtL_tk : ∀ (l : List Vu) (k : Nat), k < l.length → Vu.wtL (l.take k) + (l.getD k .zero).wt ≤ Vu.wtL l
  | [], k, h => by simp at h
  | x :: r, 0, _ => by simp [Vu.wtL]
  | x :: r, k + 1, h => by
    have := wtL_tk r k (by simpa using h)
    simp only [List.take_succ_cons, Vu.wtL, List.getD_cons_succ]
    omega
theorem ks_tk : ∀ (l : List ByteArray) (k : Nat), k < l.length → ((l.take k).map fun s => s.size + 1).sum + ((l.getD k ⟨#[]⟩).size + 1) ≤ (l.map fun s => s.size + 1).sum
  | [], k, h => by simp at h
  | x :: r, 0, _ => by simp
  | x :: r, k + 1, h => by
    have := ks_tk r k (by simpa using h)
    simp only [List.take_succ_cons, List.map_cons, List.sum_cons, List.getD_cons_succ]
    omega
theorem lvlL_tk : ∀ (l : List Vu) (k : Nat), lvlL (l.take k) ≤ lvlL l
  | [], k => by simp
  | x :: r, 0 => by simp [lvlL]
  | x :: r, k + 1 => by
    have := lvlL_tk r k
    simp only [List.take_succ_cons, lvlL]
    omega
theorem i64L_tk : ∀ (l : List Vu) (k : Nat), Vu.i64L l → Vu.i64L (l.take k)
  | [], k, _ => by simp [Vu.i64L]
  | x :: r, 0, _ => by simp [Vu.i64L]
  | x :: r, k + 1, h => ⟨h.1, i64L_tk r k h.2⟩
theorem wt_parts (v : Vu) : v.wt = v.text.size + 1 + Vu.wtL v.items + (v.keys.map fun s => s.size + 1).sum := by cases v; simp only [Vu.wt, Vu.text, Vu.items, Vu.keys]
/-- The lines so far, and the next. -/
theorem line_bd (v : Vu) (ind : List UInt8) (hv : v.i64) (hkl : v.keys.length = v.items.length) (k : Nat) (hlt : k < v.items.length) : (prB ind (v.keys.take k) (v.items.take k)).length + ind.length + (v.keys.getD k ⟨#[]⟩).size + 2 + (ind.length + 4 * lvl (v.items.getD k .zero) + 210) * (v.items.getD k .zero).wt ≤ (ind.length + 4 * lvl v + 206) * v.wt := by
  have hi : Vu.i64L v.items := by cases v; exact hv.2.2
  have h1 := prB_len ind (v.keys.take k) (v.items.take k) (i64L_tk _ k hi)
  have h2 := wtL_tk v.items k hlt
  have h3 := ks_tk v.keys k (by omega)
  have h4 := lvlL_tk v.items k
  have h5 := lvl_mem v.items _ (getD_mem v.items .zero k hlt)
  have h6 := lvl_eq v
  have h7 := wt_parts v
  obtain ⟨C, hC⟩ : ∃ C, C = ind.length + 4 * lvl v + 206 := ⟨_, rfl⟩
  have g1 : (ind.length + 3 * lvlL (v.items.take k) + 201) * (Vu.wtL (v.items.take k) + ((v.keys.take k).map fun s => s.size + 1).sum) ≤ C * (Vu.wtL (v.items.take k) + ((v.keys.take k).map fun s => s.size + 1).sum) := Nat.mul_le_mul_right _ (by omega)
  have g2 : (ind.length + 4 * lvl (v.items.getD k .zero) + 210) * (v.items.getD k .zero).wt ≤ C * (v.items.getD k .zero).wt := Nat.mul_le_mul_right _ (by omega)
  have g3 : ind.length + (v.keys.getD k ⟨#[]⟩).size + 2 ≤ C * ((v.keys.getD k ⟨#[]⟩).size + 1) := by
    have a1 : (ind.length + 2) * ((v.keys.getD k ⟨#[]⟩).size + 1) ≤ C * ((v.keys.getD k ⟨#[]⟩).size + 1) := Nat.mul_le_mul_right _ (by omega)
    have a2 : ind.length ≤ ind.length * ((v.keys.getD k ⟨#[]⟩).size + 1) := Nat.le_mul_of_pos_right _ (by omega)
    rw [Nat.add_mul] at a1
    omega
  have g4 : C * (Vu.wtL (v.items.take k) + ((v.keys.take k).map fun s => s.size + 1).sum + (v.items.getD k .zero).wt + ((v.keys.getD k ⟨#[]⟩).size + 1)) ≤ C * v.wt := Nat.mul_le_mul_left _ (by omega)
  rw [Nat.mul_add, Nat.mul_add C _ (v.items.getD k .zero).wt] at g4
  rw [← hC]
  omega
set_option maxRecDepth 100000
/-- What a round of the lines does, by what the value's printing does. -/
theorem printed_any (v : Vu) (ind : ByteArray) (a : List UInt8) (hkl : v.keys.length = v.items.length) (hv : v.i64) (hil : v.items.length ≤ 1000000) (hb : a.length + (ind.size + 4 * lvl v + 206) * v.wt ≤ 10000000000000)
    (ih : ∀ x, x ∈ v.items → ∀ (a' : List UInt8) (n : Nat), n = a'.length → a'.length + (ind.size + 4 * lvl x + 210) * x.wt ≤ 10000000000000 → SpH (cx Tryz.prog mixed tyT_ok E) 71 [.own 23 1 0 n, encV x, dS ind] [(23, .row 5 n (rowB a'))] (.own 31 1 0 (a' ++ pvB ind.data.toList x).length) [(31, .row 5 (a' ++ pvB ind.data.toList x).length (rowB (a' ++ pvB ind.data.toList x)))]) :
    SpH (cx Tryz.prog mixed tyT_ok E) 40 [.own 2000 1 0 a.length, encV v, dS ind] [(2000, .row 5 a.length (rowB a))] (.own 12 1 0 (a ++ prB ind.data.toList v.keys v.items).length) [(12, .row 5 (a ++ prB ind.data.toList v.keys v.items).length (rowB (a ++ prB ind.data.toList v.keys v.items)))] := by
  have hz0 : a ++ prB ind.data.toList (v.keys.take 0) (v.items.take 0) = a := by simp [prB]
  have hz : a.length = (a ++ prB ind.data.toList (v.keys.take 0) (v.items.take 0)).length := by rw [hz0]
  refine SpH.body Tryz.func40 (by kernel_rfl) rfl (by kernel_rfl) (by kernel_rfl) (by kernel_rfl) ?_
  repeat' first
    | (refine codeW_cond rfl ?_; first | (refine condW_dec ?_ ?_ <;> intro _ <;> try (exfalso; omega)) | refine condW_not ?_ | (refine condW_bool ?_ ?_ <;> intro _ <;> try (exfalso; omega)))
    | (refine facW_intro ?_; intro _)
    | refine Or.inl ?_
    | ((conv => whnf); first | (refine condW_dec ?_ ?_ <;> intro _ <;> try (exfalso; omega)) | refine condW_not ?_ | (refine condW_bool ?_ ?_ <;> intro _ <;> try (exfalso; omega)) | (refine nbC_t (fun _ => ?_) ?_) | (refine nbC_f ?_ (fun _ => ?_)))
    | refine And.intro (by first | omega | (simp only [Int.toNat_natCast] at *; omega) | (simp only [Nat.reduceAdd, Int.cast_ofNat_Int, true_and, and_true]; omega)  | kernel_rfl) ?_
    | refine RegW.run ?_
    | fail
  refine ⟨Nat, fun k => [(12, i64 k), (0, .own 12 1 0 (a ++ prB ind.data.toList (v.keys.take k) (v.items.take k)).length)], fun k => [], [4], fun k => [(12, 5, (a ++ prB ind.data.toList (v.keys.take k) (v.items.take k)).length, rowB (a ++ prB ind.data.toList (v.keys.take k) (v.items.take k)))], fun k => k ≤ v.items.length, fun k => v.items.length - k, ⟨0, by omega, ⟨[(12, some 2000)], ⟨by kernel_rfl, by kernel_rfl, by kernel_rfl, by kernel_rfl, by kernel_rfl, by kernel_rfl, by kernel_rfl⟩, (by repeat' first | ((first | exact hz | (intro i j hi hj; exact Dle.of_eq (by rw [hz0])))) | exact trivial | exact rfl | kernel_rfl | exact Dle.of_eq rfl | exact MLe.of_eq rfl | exact Dle.i (by omega) | exact Dle.i (by simp only [Int.toNat_natCast] at *; omega) | exact Dle.nil | exact Dle.rc Dle.nil | exact Option.some_ne_none _ | exact Or.inl rfl | exact Or.inr trivial | omega | (simp only [Int.toNat_natCast] at *; omega) | (intro _ _ _ _; exact Dle.of_eq rfl) | refine And.intro ?_ ?_)⟩⟩, fun k hk => ?_⟩
  have hk2 : k ≤ v.items.length := hk
  by_cases hlt : k < v.items.length
  · have hm := getD_mem v.items .zero k hlt
    have hbd : (a ++ prB ind.data.toList (v.keys.take k) (v.items.take k)).length + ind.size + (v.keys.getD k ⟨#[]⟩).size + 1 + (ind.size + 4 * lvl (v.items.getD k .zero) + 210) * (v.items.getD k .zero).wt + 1 ≤ 10000000000000 := by
      have hlb := line_bd v ind.data.toList hv hkl k hlt
      have hi1 : ind.data.toList.length = ind.size := by simp
      have hla : (a ++ prB ind.data.toList (v.keys.take k) (v.items.take k)).length = a.length + (prB ind.data.toList (v.keys.take k) (v.items.take k)).length := List.length_append
      rw [hi1] at hlb
      omega
    have hpv := pvB_len ind.data.toList (v.items.getD k .zero) (i64_mem hv hm)
    have hi0 : ind.size = ind.data.toList.length := by simp
    have hk0 : (v.keys.getD k ⟨#[]⟩).size = (v.keys.getD k ⟨#[]⟩).data.toList.length := by simp
    have hn1 : (a ++ prB ind.data.toList (v.keys.take k) (v.items.take k)).length + ind.size = ((a ++ prB ind.data.toList (v.keys.take k) (v.items.take k)) ++ ind.data.toList).length := la1 _ _
    have hn2 : (a ++ prB ind.data.toList (v.keys.take k) (v.items.take k)).length + ind.size + (v.keys.getD k ⟨#[]⟩).size = ((a ++ prB ind.data.toList (v.keys.take k) (v.items.take k)) ++ ind.data.toList ++ (v.keys.getD k ⟨#[]⟩).data.toList).length := (congrArg (· + (v.keys.getD k ⟨#[]⟩).size) hn1).trans (la1 _ _)
    have hn3 : (a ++ prB ind.data.toList (v.keys.take k) (v.items.take k)).length + ind.size + (v.keys.getD k ⟨#[]⟩).size + 1 = ((a ++ prB ind.data.toList (v.keys.take k) (v.items.take k)) ++ ind.data.toList ++ (v.keys.getD k ⟨#[]⟩).data.toList ++ [32]).length := (congrArg (· + 1) hn2).trans (la2 _ _)
    have h1 := ih (v.items.getD k .zero) hm ((a ++ prB ind.data.toList (v.keys.take k) (v.items.take k)) ++ ind.data.toList ++ (v.keys.getD k ⟨#[]⟩).data.toList ++ [32]) _ hn3 (by rw [← hn3]; omega)
    have e2 : a ++ prB ind.data.toList (v.keys.take (k + 1)) (v.items.take (k + 1)) = ((a ++ prB ind.data.toList (v.keys.take k) (v.items.take k)) ++ ind.data.toList ++ (v.keys.getD k ⟨#[]⟩).data.toList ++ [32] ++ pvB ind.data.toList (v.items.getD k .zero)) ++ [10] := by
      rw [prB_take _ _ _ hkl k hlt]
      simp only [List.append_assoc]
    have e3 : ((a ++ prB ind.data.toList (v.keys.take k) (v.items.take k)) ++ ind.data.toList ++ (v.keys.getD k ⟨#[]⟩).data.toList ++ [32] ++ pvB ind.data.toList (v.items.getD k .zero)).length + 1 = (a ++ prB ind.data.toList (v.keys.take (k + 1)) (v.items.take (k + 1))).length := by rw [e2]; exact la2 _ _
    have hln : ((a ++ prB ind.data.toList (v.keys.take k) (v.items.take k)) ++ ind.data.toList ++ (v.keys.getD k ⟨#[]⟩).data.toList ++ [32] ++ pvB ind.data.toList (v.items.getD k .zero)).length ≤ 10000000000000 := by
      have : ((a ++ prB ind.data.toList (v.keys.take k) (v.items.take k)) ++ ind.data.toList ++ (v.keys.getD k ⟨#[]⟩).data.toList ++ [32] ++ pvB ind.data.toList (v.items.getD k .zero)).length = ((a ++ prB ind.data.toList (v.keys.take k) (v.items.take k)) ++ ind.data.toList ++ (v.keys.getD k ⟨#[]⟩).data.toList ++ [32]).length + (pvB ind.data.toList (v.items.getD k .zero)).length := List.length_append
      rw [← hi0] at hpv
      have hpv2 : (ind.size + 3 * lvl (v.items.getD k .zero) + 200) * (v.items.getD k .zero).wt ≤ (ind.size + 4 * lvl (v.items.getD k .zero) + 210) * (v.items.getD k .zero).wt := Nat.mul_le_mul_right _ (by omega)
      omega
    have h9 : ∀ i j, i < ((a ++ prB ind.data.toList (v.keys.take k) (v.items.take k)) ++ ind.data.toList ++ (v.keys.getD k ⟨#[]⟩).data.toList ++ [32] ++ pvB ind.data.toList (v.items.getD k .zero)).length + 1 → j < 1 → Dle (cx Tryz.prog mixed tyT_ok E) (if i < ((a ++ prB ind.data.toList (v.keys.take k) (v.items.take k)) ++ ind.data.toList ++ (v.keys.getD k ⟨#[]⟩).data.toList ++ [32] ++ pvB ind.data.toList (v.items.getD k .zero)).length then rowB ((a ++ prB ind.data.toList (v.keys.take k) (v.items.take k)) ++ ind.data.toList ++ (v.keys.getD k ⟨#[]⟩).data.toList ++ [32] ++ pvB ind.data.toList (v.items.getD k .zero)) i j else ([.v (.int .u8 10)] : List DD).getD ((i - ((a ++ prB ind.data.toList (v.keys.take k) (v.items.take k)) ++ ind.data.toList ++ (v.keys.getD k ⟨#[]⟩).data.toList ++ [32] ++ pvB ind.data.toList (v.items.getD k .zero)).length) * 1 + j) .opq) (rowB (a ++ prB ind.data.toList (v.keys.take (k + 1)) (v.items.take (k + 1))) i j) := by
      rw [e2]
      exact rb_app E (y := [10]) rfl (rb_self E) rfl (rb_lit E 10 10 rfl)
    have h8 : ∀ i j, i < (a ++ prB ind.data.toList (v.keys.take k) (v.items.take k)).length + ind.size + (v.keys.getD k ⟨#[]⟩).size + 1 → j < 1 → Dle (cx Tryz.prog mixed tyT_ok E) (if i < (a ++ prB ind.data.toList (v.keys.take k) (v.items.take k)).length + ind.size + (v.keys.getD k ⟨#[]⟩).size then (if i < (a ++ prB ind.data.toList (v.keys.take k) (v.items.take k)).length + ind.size then (if i < (a ++ prB ind.data.toList (v.keys.take k) (v.items.take k)).length then rowB (a ++ prB ind.data.toList (v.keys.take k) (v.items.take k)) i j else .v (.int .u8 (bAt ind (i - (a ++ prB ind.data.toList (v.keys.take k) (v.items.take k)).length)).toNat)) else .v (.int .u8 (bAt (v.keys.getD k ⟨#[]⟩) (i - ((a ++ prB ind.data.toList (v.keys.take k) (v.items.take k)).length + ind.size))).toNat)) else ([.v (.int .u8 32)] : List DD).getD ((i - ((a ++ prB ind.data.toList (v.keys.take k) (v.items.take k)).length + ind.size + (v.keys.getD k ⟨#[]⟩).size)) * 1 + j) .opq) (rowB ((a ++ prB ind.data.toList (v.keys.take k) (v.items.take k)) ++ ind.data.toList ++ (v.keys.getD k ⟨#[]⟩).data.toList ++ [32]) i j) :=
      rb_app E (y := [32]) (h := fun i j => ([.v (.int .u8 32)] : List DD).getD (i * 1 + j) .opq) hn2 (rb_app E (h := fun i j => .v (.int .u8 (bAt (v.keys.getD k ⟨#[]⟩) i).toNat)) hn1 (rb_app E (h := fun i j => .v (.int .u8 (bAt ind i).toNat)) rfl (rb_self E) hi0 (rb_str E)) hk0 (rb_str E)) rfl (rb_lit E 32 32 rfl)
    repeat' first
      | refine Or.inr ⟨_, _, _, h1, by kernel_rfl, (by repeat' first | (exact h8) | exact trivial | exact rfl | kernel_rfl | exact Dle.of_eq rfl | exact MLe.of_eq rfl | exact Dle.i (by omega) | exact Dle.i (by simp only [Int.toNat_natCast] at *; omega) | exact Dle.nil | exact Dle.rc Dle.nil | exact Option.some_ne_none _ | exact Or.inl rfl | exact Or.inr trivial | omega | (simp only [Int.toNat_natCast] at *; omega) | (intro _ _ _ _; exact Dle.of_eq rfl) | refine And.intro ?_ ?_), ?_⟩
      | (refine codeW_cond rfl ?_; first | (refine condW_dec ?_ ?_ <;> intro _ <;> try (exfalso; omega)) | refine condW_not ?_ | (refine condW_bool ?_ ?_ <;> intro _ <;> try (exfalso; omega)))
      | (refine facW_intro ?_; intro _)
      | refine Or.inl ?_
      | ((conv => whnf); first | (refine condW_dec ?_ ?_ <;> intro _ <;> try (exfalso; omega)) | refine condW_not ?_ | (refine condW_bool ?_ ?_ <;> intro _ <;> try (exfalso; omega)) | (refine nbC_t (fun _ => ?_) ?_) | (refine nbC_f ?_ (fun _ => ?_)))
      | refine And.intro (by first | omega | (simp only [Int.toNat_natCast] at *; omega) | (simp only [Nat.reduceAdd, Int.cast_ofNat_Int, true_and, and_true]; omega)  | kernel_rfl) ?_
      | refine RegW.run ?_
      | fail
    all_goals first
      | exact ⟨k + 1, by omega, ⟨[(12, some 34)], ⟨by kernel_rfl, by kernel_rfl, by kernel_rfl, by kernel_rfl, by kernel_rfl, by kernel_rfl, by kernel_rfl⟩, (by repeat' first | (exact e3) | exact trivial | exact rfl | kernel_rfl | exact Dle.of_eq rfl | exact MLe.of_eq rfl | exact Dle.i (by omega) | exact Dle.i (by simp only [Int.toNat_natCast] at *; omega) | exact Dle.nil | exact Dle.rc Dle.nil | exact Option.some_ne_none _ | exact Or.inl rfl | exact Or.inr trivial | omega | (simp only [Int.toNat_natCast] at *; omega) | (intro _ _ _ _; exact Dle.of_eq rfl) | (intro i j hi hj; exact h9 i j hi hj) | refine And.intro ?_ ?_)⟩, by first | omega | (dsimp only; omega)⟩
      | trace_state
  · obtain rfl : k = v.items.length := by omega
    have e4 : v.keys.take v.items.length = v.keys := by rw [← hkl]; exact List.take_length
    have e5 : v.items.take v.items.length = v.items := List.take_length
    have e6 : (a ++ prB ind.data.toList (v.keys.take v.items.length) (v.items.take v.items.length)).length = (a ++ prB ind.data.toList v.keys v.items).length := by rw [e4, e5]
    repeat' first
      | (refine codeW_cond rfl ?_; first | (refine condW_dec ?_ ?_ <;> intro _ <;> try (exfalso; omega)) | refine condW_not ?_ | (refine condW_bool ?_ ?_ <;> intro _ <;> try (exfalso; omega)))
      | (refine facW_intro ?_; intro _)
      | refine Or.inl ?_
      | ((conv => whnf); first | (refine condW_dec ?_ ?_ <;> intro _ <;> try (exfalso; omega)) | refine condW_not ?_ | (refine condW_bool ?_ ?_ <;> intro _ <;> try (exfalso; omega)) | (refine nbC_t (fun _ => ?_) ?_) | (refine nbC_f ?_ (fun _ => ?_)))
      | refine And.intro (by first | omega | (simp only [Int.toNat_natCast] at *; omega) | (simp only [Nat.reduceAdd, Int.cast_ofNat_Int, true_and, and_true]; omega)  | kernel_rfl) ?_
      | refine RegW.run ?_
      | fail
    all_goals first
      | exact ⟨[], [(12, 5, (a ++ prB ind.data.toList v.keys v.items).length, rowB (a ++ prB ind.data.toList v.keys v.items))], rfl, ⟨[(12, some 12)], ⟨by kernel_rfl, by kernel_rfl, by kernel_rfl, by kernel_rfl, by kernel_rfl, by kernel_rfl, by kernel_rfl⟩, (by repeat' first | (exact e6) | exact trivial | exact rfl | kernel_rfl | exact Dle.of_eq rfl | exact MLe.of_eq rfl | exact Dle.i (by omega) | exact Dle.i (by simp only [Int.toNat_natCast] at *; omega) | exact Dle.nil | exact Dle.rc Dle.nil | exact Option.some_ne_none _ | exact Or.inl rfl | exact Or.inr trivial | omega | (simp only [Int.toNat_natCast] at *; omega) | (intro _ _ _ _; exact Dle.of_eq rfl) | (intro i j hi hj; (rw [e4, e5]; exact Dle.refl _ _)) | refine And.intro ?_ ?_)⟩, rfl⟩
      | trace_state
end
end pn
end Go.Proofs.YtemiaognopgnnaaGreatDoor
