/-
  conf.Compare and the reference's CompareOf. The same value: the reference's SameOf, in general. conf.Schema as an argument. A listed variable that holds a slice of strings: what the list says of memory. What SchemaWrites may count on: MaxLen, the names of kinds; the law's walk.
-/
import Derived.Test.YtgdoelfajfjopaaGreatDoorU7
import Derived.Test.YtgdoelfajfjopaaGreatDoorPV
import Derived.Test.YtgdoelfajfjopaaGreatDoorK0
import Derived.Test.YtgdoelfajfjopaaGreatDoorCard
import Derived.Test.YtgdoelfajfjopaaGreatDoorSw2
import Derived.Test.YtgdoelfajfjopaaGreatDoorSw4
namespace Go.Proofs.YtgdoelfajfjopaaGreatDoor
open Go.RowKit
set_option linter.unusedVariables false
set_option linter.unusedSimpArgs false
theorem sgn_bit (a b : Bool) : sgn (bitI a) (bitI b) = if a = b then 0 else if b = true then -1 else 1 := by cases a <;> cases b <;> rfl
section
variable (E : Env)
set_option maxRecDepth 100000
set_option maxHeartbeats 4000000 in
theorem compareOf_sp : ∀ (N : Nat) (v w : Vu), SizeOf.sizeOf v < N → Sp (cx Tryz.prog mixed tyT_ok E) 45 [encV v, encV w] (i64 (cmpV v w))
  | 0, v, w, h => by omega
  | N + 1, v, w, h => by
    have ih := fun x y (hx : x ∈ v.items) => compareOf_sp N x y (by have := items_lt v x hx; omega)
    have hb := sgn_bit v.b w.b
    obtain ⟨r, hr⟩ : ∃ r, r = cmpV v w := ⟨_, rfl⟩
    rw [← hr]
    rw [cmpV_eq] at hr
    unfold cmpH at hr
    have c1 := cmpI_sp E v.kind w.kind
    have c2 := cmpI_sp E v.i w.i
    have c3 := strCmp_sp E v.text w.text
    have c4 := slCmp_sp E v.keys w.keys
    generalize sgn v.kind w.kind = a1 at hr c1
    generalize sgn (bitI v.b) (bitI w.b) = a2 at hr hb
    generalize sgn v.i w.i = a3 at hr c2
    generalize cmpS v.text w.text = a4 at hr c3
    generalize cmpK v.keys w.keys 0 = a5 at hr c4
    refine Sp.body Tryz.func45 (by kernel_rfl) rfl (by kernel_rfl) (by kernel_rfl) (by kernel_rfl) ?_
    repeat' first
      | (refine facW_intro ?_; intro _)
      | refine Or.inl ?_
      | ((conv => whnf); first | (refine condW_dec ?_ ?_ <;> intro _) | refine condW_not ?_ | (refine condW_bool ?_ ?_ <;> intro _) | (refine nbC_t (fun _ => ?_) ?_) | (refine nbC_f ?_ (fun _ => ?_)))
      | refine And.intro (by first | omega | (simp only [Int.toNat_natCast] at *; omega) | (simp only [Nat.reduceAdd, Int.cast_ofNat_Int, true_and, and_true]; omega)  | kernel_rfl) ?_
      | refine RegW.run ?_
      | refine ⟨_, c1, ?_⟩
      | refine ⟨_, c2, ?_⟩
      | refine ⟨_, c3, ?_⟩
      | refine ⟨_, c4, ?_⟩
      | refine ⟨_, or3_sp E _ _ _, ?_⟩
      | fail
    all_goals first
      | exact Dle.i (by rw [hr]; grind)
      | skip
    all_goals
      have hr : r = cmpL v.items w.items := by rw [hr]; grind
      refine ⟨Nat, fun k => [(7, i64 k)], fun k => [], [2, 3], fun k => [], fun k => k ≤ v.items.length ∧ k ≤ w.items.length ∧ r = cmpL (v.items.drop k) (w.items.drop k), fun k => v.items.length - k, ⟨0, ⟨by omega, by omega, hr⟩, ⟨[], ⟨by kernel_rfl, by kernel_rfl, by kernel_rfl, by kernel_rfl, by kernel_rfl, by kernel_rfl, by kernel_rfl⟩, (by repeat' first | exact trivial | exact rfl | kernel_rfl | exact Dle.of_eq rfl | exact MLe.of_eq rfl | exact Dle.i (by omega) | exact Dle.i (by simp only [Int.toNat_natCast] at *; omega) | exact Dle.nil | exact Dle.rc Dle.nil | exact Option.some_ne_none _ | exact Or.inl rfl | exact Or.inr trivial | omega | (simp only [Int.toNat_natCast] at *; omega) | (intro _ _ _ _; exact Dle.of_eq rfl) | refine And.intro ?_ ?_)⟩⟩, fun k hk => ?_⟩
      obtain ⟨hk, hk2, hK⟩ := hk
      by_cases hlt : k < v.items.length ∧ k < w.items.length
      · obtain ⟨hl1, hl2⟩ := hlt
        rw [cmpL_drop hl1 hl2] at hK
        have hc := ih _ (w.items.getD k .zero) (getD_mem v.items .zero k hl1)
        generalize cmpV (v.items.getD k .zero) (w.items.getD k .zero) = e at hK hc
        repeat' first
          | (refine facW_intro ?_; intro _)
          | refine Or.inl ?_
          | ((conv => whnf); first | (refine condW_dec ?_ ?_ <;> intro _ <;> try (exfalso; omega)) | refine condW_not ?_ | (refine condW_bool ?_ ?_ <;> intro _ <;> try (exfalso; omega)) | (refine nbC_t (fun _ => ?_) ?_) | (refine nbC_f ?_ (fun _ => ?_)))
          | refine And.intro (by first | omega | (simp only [Int.toNat_natCast] at *; omega) | (simp only [Nat.reduceAdd, Int.cast_ofNat_Int, true_and, and_true]; omega)  | kernel_rfl) ?_
          | refine RegW.run ?_
          | refine ⟨_, hc, ?_⟩
          | fail
        all_goals first
          | exact ⟨k + 1, ⟨by omega, by omega, by rw [hK]; grind⟩, ⟨[], ⟨by kernel_rfl, by kernel_rfl, by kernel_rfl, by kernel_rfl, by kernel_rfl, by kernel_rfl, by kernel_rfl⟩, (by repeat' first | exact trivial | exact rfl | kernel_rfl | exact Dle.of_eq rfl | exact MLe.of_eq rfl | exact Dle.i (by omega) | exact Dle.i (by simp only [Int.toNat_natCast] at *; omega) | exact Dle.nil | exact Dle.rc Dle.nil | exact Option.some_ne_none _ | exact Or.inl rfl | exact Or.inr trivial | omega | (simp only [Int.toNat_natCast] at *; omega) | (intro _ _ _ _; exact Dle.of_eq rfl) | refine And.intro ?_ ?_)⟩, by first | omega | (dsimp only; omega)⟩
          | exact Dle.i (by rw [hK]; grind)
          | trace_state
      · rw [cmpL_end hk hk2 hlt] at hK
        repeat' first
          | (refine facW_intro ?_; intro _)
          | refine Or.inl ?_
          | ((conv => whnf); first | (refine condW_dec ?_ ?_ <;> intro _ <;> try (exfalso; omega)) | refine condW_not ?_ | (refine condW_bool ?_ ?_ <;> intro _ <;> try (exfalso; omega)) | (refine nbC_t (fun _ => ?_) ?_) | (refine nbC_f ?_ (fun _ => ?_)))
          | refine And.intro (by first | omega | (simp only [Int.toNat_natCast] at *; omega) | (simp only [Nat.reduceAdd, Int.cast_ofNat_Int, true_and, and_true]; omega)  | kernel_rfl) ?_
          | refine RegW.run ?_
          | refine ⟨_, cmpI_sp E _ _, ?_⟩
          | fail
        all_goals exact Dle.i (by rw [hK])
end
end Go.Proofs.YtgdoelfajfjopaaGreatDoor
namespace Go.Proofs.YtgdoelfajfjopaaGreatDoor
open Go.RowKit
set_option linter.unusedVariables false
set_option linter.unusedSimpArgs false
namespace ap
def zeroP (v : Vu) : Prop := v.kind = 0 ∧ v.b = false ∧ v.i = 0 ∧ v.text = ⟨#[]⟩ ∧ v.items.length = 0 ∧ v.keys.length = 0
instance (v : Vu) : Decidable (zeroP v) := by unfold zeroP; infer_instance
theorem cmpB_nil (l : List UInt8) : Lib.compareBytes l [] = 0 ↔ l = [] := by cases l <;> simp [Lib.compareBytes]
theorem cmpV_zero (v : Vu) : cmpV v .zero = 0 ↔ zeroP v := by
  rw [cmpV_eq]
  unfold cmpH zeroP
  have e1 : sgn v.kind Vu.zero.kind = 0 ↔ v.kind = 0 := by show sgn v.kind 0 = 0 ↔ _; unfold sgn; split <;> (try split) <;> omega
  have e2 : sgn (bitI v.b) (bitI Vu.zero.b) = 0 ↔ v.b = false := by show sgn (bitI v.b) 0 = 0 ↔ _; cases v.b <;> simp [sgn, bitI]
  have e3 : sgn v.i Vu.zero.i = 0 ↔ v.i = 0 := by show sgn v.i 0 = 0 ↔ _; unfold sgn; split <;> (try split) <;> omega
  have e4 : cmpS v.text Vu.zero.text = 0 ↔ v.text = ⟨#[]⟩ := by
    show Lib.compareBytes v.text.data.toList [] = 0 ↔ _
    rw [cmpB_nil]
    cases v.text with | mk d => cases d with | mk l => simp
  have e5 : cmpK v.keys Vu.zero.keys 0 = 0 ↔ v.keys.length = 0 := by
    rw [cmpK_end (fun h => by exact absurd h.2 (Nat.not_lt_zero _))]
    show sgn v.keys.length 0 = 0 ↔ _
    unfold sgn
    split <;> (try split) <;> omega
  have e6 : cmpL v.items Vu.zero.items = 0 ↔ v.items.length = 0 := by
    show cmpL v.items [] = 0 ↔ _
    cases v.items <;> simp [cmpL]
  grind
theorem sgn_self (a : Int) : sgn a a = 0 := by unfold sgn; rw [if_neg (by omega), if_neg (by omega)]
theorem cmpB_self : ∀ l : List UInt8, Lib.compareBytes l l = 0
  | [] => by simp [Lib.compareBytes]
  | x :: r => by
    have := cmpB_self r
    simp [Lib.compareBytes, this]
theorem cmpS_self (s : ByteArray) : cmpS s s = 0 := cmpB_self _
theorem cmpK_self (l : List ByteArray) : ∀ n k, l.length - k < n → cmpK l l k = 0
  | 0, k, h => by omega
  | n + 1, k, h => by
    by_cases hk : k < l.length
    · rw [cmpK_eq ⟨hk, hk⟩ (cmpS_self _)]
      exact cmpK_self l n (k + 1) (by omega)
    · rw [cmpK_end (fun h => hk h.1)]
      exact sgn_self _
theorem cmpH_self (v : Vu) : cmpH v v = 0 := by
  unfold cmpH
  rw [sgn_self, sgn_self, sgn_self, cmpS_self, cmpK_self v.keys _ 0 (Nat.lt_succ_self _)]
  simp
mutual
theorem cmpV_self : ∀ v : Vu, cmpV v v = 0
  | .mk k b i t l ks => by
    have h1 := cmpH_self (.mk k b i t l ks)
    have h2 := cmpL_self l
    simp only [cmpV, Vu.items]
    rw [if_neg (fun h => h h1)]
    exact h2
theorem cmpL_self : ∀ l : List Vu, cmpL l l = 0
  | [] => by simp only [cmpL]
  | x :: r => by
    have h1 := cmpV_self x
    have h2 := cmpL_self r
    simp only [cmpL]
    rw [if_neg (fun h => h h1)]
    exact h2
end
section
variable (E : Env)
set_option maxRecDepth 100000
theorem sameOf_sp (a b : Vu) : Sp (cx Tryz.prog mixed tyT_ok E) 10 [encV a, encV b] (dB (decide (cmpV a b = 0))) := by
  have h1 := compareOf_sp E _ a b (Nat.lt_succ_self _)
  generalize cmpV a b = r at h1
  refine Sp.body Tryz.func10 (by kernel_rfl) rfl (by kernel_rfl) (by kernel_rfl) (by kernel_rfl) ?_
  repeat' first
    | (refine codeW_cond rfl ?_; first | (refine condW_dec ?_ ?_ <;> intro _ <;> try (exfalso; omega)) | refine condW_not ?_ | (refine condW_bool ?_ ?_ <;> intro _ <;> try (exfalso; omega)))
    | (refine facW_intro ?_; intro _)
    | refine Or.inl ?_
    | ((conv => whnf); first | (refine condW_dec ?_ ?_ <;> intro _) | refine condW_not ?_ | (refine condW_bool ?_ ?_ <;> intro _) | (refine nbC_t (fun _ => ?_) ?_) | (refine nbC_f ?_ (fun _ => ?_)))
    | refine And.intro (by first | omega | (simp only [Int.toNat_natCast] at *; omega) | (simp only [Nat.reduceAdd, Int.cast_ofNat_Int, true_and, and_true]; omega)  | (simp only [cx, view, Nat.reduceAdd, Int.toNat_natCast]; omega) | kernel_rfl) ?_
    | refine RegW.run ?_
    | refine ⟨_, h1, ?_⟩
    | fail
  all_goals exact Dle.refl _ _
theorem sameZero_sp (v : Vu) : Sp (cx Tryz.prog mixed tyT_ok E) 10 [encV v, .agg [i64 0, dB false, i64 0, dS ⟨#[]⟩, .v (.slice none 0 0), .v (.slice none 0 0)]] (dB (decide (zeroP v))) := by
  have h0 := sameOf_sp E v .zero
  have he : decide (zeroP v) = decide (cmpV v .zero = 0) := by rw [Bool.eq_iff_iff]; simp [cmpV_zero v]
  rw [he]
  exact h0.args ⟨Dle.refl _ _, Dle.agg ⟨Dle.refl _ _, Dle.refl _ _, Dle.refl _ _, Dle.refl _ _, Dle.rc (X := (cx Tryz.prog mixed tyT_ok E)) Dle.nil, Dle.nil (X := (cx Tryz.prog mixed tyT_ok E)), trivial⟩, trivial⟩
theorem sameSelf_sp (v : Vu) : Sp (cx Tryz.prog mixed tyT_ok E) 10 [encV v, encV v] (dB true) := by
  have h0 := sameOf_sp E v v
  rw [cmpV_self v, decide_eq_true rfl] at h0
  exact h0
end
end ap
end Go.Proofs.YtgdoelfajfjopaaGreatDoor
namespace Go.Proofs.YtgdoelfajfjopaaGreatDoor
open Go.RowKit
set_option linter.unusedVariables false
def Fd.wt (f : Fd) : Nat := f.route.size + 1 + (f.oneOf.map fun s => s.size + 1).sum + f.dflt.wt
section
variable (E : Env)
theorem fcell_eq (f : Fd) (j : Nat) (hj : j < 13) : (encF f).cells.getD j .opq = f.cell j := by
  match j, hj with
  | 0, _ => rfl
  | 1, _ => rfl
  | 2, _ => rfl
  | 3, _ => rfl
  | 4, _ => rfl
  | 5, _ => rfl
  | 6, _ => rfl
  | 7, _ => rfl
  | 8, _ => rfl
  | 9, _ => rfl
  | 10, _ => rfl
  | 11, _ => rfl
  | 12, _ => rfl
theorem fields_of : ∀ (l : List (List DD × Nat)), (∀ x ∈ l, (∃ f : Fd, x.1 = (encF f).cells ∧ f.wt ≤ x.2) ∧ x.1.length = 13) → ∃ fs : List Fd, fs.length = l.length ∧ (∀ i, i < l.length → (l.getD i ([], 0)).1 = (encF (fs.getD i default)).cells) ∧ (fs.map Fd.wt).sum ≤ (l.map (·.2)).sum
  | [], _ => ⟨[], rfl, fun i hi => by simp at hi, Nat.zero_le _⟩
  | x :: l, h => by
    obtain ⟨vs, h2, h3, h4⟩ := fields_of l (fun y hy => h y (List.mem_cons_of_mem _ hy))
    obtain ⟨⟨v, h6, h7⟩, _⟩ := h x List.mem_cons_self
    refine ⟨v :: vs, by simp [h2], fun i hi => ?_, ?_⟩
    · match i, hi with
      | 0, _ => exact h6
      | i + 1, hi => exact h3 i (by simpa using hi)
    · simp only [List.map_cons, List.sum_cons]
      omega
theorem opn_field (N : Nat) : Opn (cx Tryz.prog mixed tyT_ok E) N 86 (fun ds n => ∃ f : Fd, ds = (encF f).cells ∧ f.wt ≤ n) := by
  refine Opn.le (Opn.mono (opn_struct (X := (cx Tryz.prog mixed tyT_ok E)) (N := N) Tryz.underlying86 (by kernel_rfl) (by kernel_rfl) (by kernel_rfl) (Rs := [_, _, _, _, _, _, _, _])
    ⟨opn_str (X := (cx Tryz.prog mixed tyT_ok E)) Tryz.underlying9, opn_int (X := (cx Tryz.prog mixed tyT_ok E)) Tryz.underlying3, opn_bool (X := (cx Tryz.prog mixed tyT_ok E)) Tryz.underlying4, opn_bool (X := (cx Tryz.prog mixed tyT_ok E)) Tryz.underlying4, opn_int (X := (cx Tryz.prog mixed tyT_ok E)) Tryz.underlying3, opn_int (X := (cx Tryz.prog mixed tyT_ok E)) Tryz.underlying3,
      opn_strs E Tryz.underlying23 Tryz.underlying9 (by kernel_rfl) (by kernel_rfl) (by kernel_rfl), opn_val E N, trivial⟩) ?_) (Nat.le_succ _)
  rintro ds n ⟨_, _, _, _, ⟨s, hs, rfl, rfl⟩, ⟨_, _, _, _, ⟨k, hk, rfl, rfl⟩, ⟨_, _, _, _, ⟨b, rfl, rfl⟩, ⟨_, _, _, _, ⟨b2, rfl, rfl⟩, ⟨_, _, _, _, ⟨lo, hlo, rfl, rfl⟩, ⟨_, _, _, _, ⟨hi, hhi, rfl, rfl⟩, ⟨_, _, _, _, ⟨ks, rfl, rfl⟩, ⟨_, _, _, _, ⟨v, hv, rfl, hvw⟩, ⟨rfl, rfl⟩, rfl, rfl⟩, rfl, rfl⟩, rfl, rfl⟩, rfl, rfl⟩, rfl, rfl⟩, rfl, rfl⟩, rfl, rfl⟩, rfl, rfl⟩
  refine ⟨_, _, ⟨⟨s, k, b, b2, lo, hi, ks, v⟩, rfl, Nat.le_refl _⟩, ?_, ⟨Dle.refl _ _, Dle.refl _ _, Dle.refl _ _, Dle.refl _ _, Dle.refl _ _, Dle.refl _ _, Dle.refl _ _, Dle.refl _ _, Dle.refl _ _, Dle.refl _ _, Dle.refl _ _, Dle.refl _ _, Dle.refl _ _, trivial⟩⟩
  simp only [Fd.wt]
  omega
theorem opn_fields2 (N : Nat) : Opn (cx Tryz.prog mixed tyT_ok E) N 32 (fun ds n => ∃ l : List Fd, ds = [encFs l] ∧ (l.map Fd.wt).sum ≤ n) := by
  refine Opn.le (Opn.mono (opn_slice (X := (cx Tryz.prog mixed tyT_ok E)) Tryz.underlying32 (by kernel_rfl) (opn_field E N)) ?_) (Nat.le_succ _)
  rintro ds n ⟨l, hl, hb, rfl, rfl⟩
  obtain ⟨vs, h2, h3, h4⟩ := fields_of l hl
  refine ⟨_, _, ⟨vs, rfl, h4⟩, Nat.le_refl _, ⟨?_, trivial⟩⟩
  refine Dle.sl (X := (cx Tryz.prog mixed tyT_ok E)) (show l.length = vs.length from h2.symm) (fun i j hi hj => Dle.of_eq ?_)
  rw [h3 i hi]
  exact fcell_eq _ _ hj
theorem opn_schema (N : Nat) : Opn (cx Tryz.prog mixed tyT_ok E) N 34 (fun ds n => ∃ (l : List Fd) (b : Bool), ds = [encFs l, dB b] ∧ (l.map Fd.wt).sum ≤ n) := by
  refine Opn.le (Opn.mono (opn_struct (X := (cx Tryz.prog mixed tyT_ok E)) (N := N) Tryz.underlying34 (by kernel_rfl) (by kernel_rfl) (by kernel_rfl) (Rs := [_, _])
    ⟨opn_fields2 E N, opn_bool (X := (cx Tryz.prog mixed tyT_ok E)) Tryz.underlying4, trivial⟩) ?_) (Nat.le_succ _)
  rintro ds n ⟨_, _, _, _, ⟨l, rfl, hl⟩, ⟨_, _, _, _, ⟨b, rfl, rfl⟩, ⟨rfl, rfl⟩, rfl, rfl⟩, rfl, rfl⟩
  exact ⟨_, _, ⟨l, b, rfl, hl⟩, Nat.le_refl _, ⟨Dle.refl _ _, Dle.refl _ _, trivial⟩⟩
theorem fd_len : ∀ l : List Fd, l.length ≤ (l.map Fd.wt).sum
  | [] => Nat.zero_le _
  | f :: l => by
    have := fd_len l
    simp only [List.length_cons, List.map_cons, List.sum_cons, Fd.wt]
    omega
theorem fd_mem : ∀ (l : List Fd) (f : Fd), f ∈ l → f.wt ≤ (l.map Fd.wt).sum
  | g :: l, f, h => by
    simp only [List.map_cons, List.sum_cons]
    rcases List.mem_cons.1 h with rfl | h
    · omega
    · have := fd_mem l f h; omega
end
end Go.Proofs.YtgdoelfajfjopaaGreatDoor
namespace Go.Proofs.YtgdoelfajfjopaaGreatDoor
open Go.RowKit Go.WideShapes Go.ChangeShapes Go.ChangeAt
set_option linter.unusedVariables false
set_option linter.unusedSimpArgs false
/-- The words' variable and its row. -/
def WordsAt (g : Nat) (ws : List (List UInt8)) (b o c : Nat) (W : World) : Prop :=
  W.cell? ⟨g, 0, none⟩ = some (.slice (some ⟨b, o, none⟩) ws.length c) ∧ ∀ i l, ws[i]? = some l → W.cell? ⟨b, o + i, none⟩ = some (.string ⟨l.toArray⟩)
theorem words_at {P : Program} {W : World} {name : String} {ws : List (List UInt8)} {g : Nat} {t e : TypeId} (h0 : 0 < ws.length)
    (hg : P.globalNamed name = some g) (hty : (P.globals[g]?).map (·.type) = some t) (ht : P.underlying t = some (.slice e)) (he : P.underlying e = some .string) (hce : P.cellsOf e = 1) :
    ∀ (laid : List (String × DataW Unit)) (i : Nat) (ps : List MemPlace), laid[i]? = some (name, .slice (ws.map fun l => .lit (.string l)) []) → DataW.LaidVars P W laid ps → ∃ b o c, ws.length ≤ c ∧ c ≤ maxLen ∧ WordsAt g ws b o c W
  | [], i, _, h, _ => by simp at h
  | (n', d) :: r, 0, ps, h, hl => by
    simp at h
    obtain ⟨rfl, rfl⟩ := h
    obtain ⟨g', t', cs, fuel, p, q, hg', ht', hvar, hd, _, _⟩ := hl
    obtain rfl := Option.some.inj (hg.symm.trans hg')
    obtain rfl := Option.some.inj (hty.symm.trans ht')
    have hcell : ∀ k v, cs[k]? = some v → W.cell? ⟨g, k, none⟩ = some v := by
      intro k v hk
      unfold World.var? at hvar
      rw [hg] at hvar
      simp only [Option.bind_some] at hvar
      split at hvar
      · rename_i arr u v' hh
        injection hvar with hvar
        subst hvar
        unfold World.cell?
        simp [hh, hk]
      · cases hvar
    rcases DataW.trod_slice ht hd with ⟨_, hx⟩ | ⟨a, len, cap, elems, rest, n, hfu, hcs, hx, _, hl1, hm, hlen, hi, _⟩
    · injection hx with hx _
      cases hx
    · injection hx with hx _
      injection hx with hx1 hx2
      have hle : elems.length = ws.length := by
        have := congrArg List.length hx1
        simpa using this.symm
      have hlw : len = ws.length := by omega
      have hel : ∀ i (hi' : i < len), ∃ l x, ws[i]? = some l ∧ W.cells? 0 (a.add (i * P.cellsOf e)) (P.cellsOf e) = some [x] ∧ x = .string ⟨l.toArray⟩ := by
        intro i hi'
        have h1 := hi i hi'
        obtain ⟨el, hel⟩ : ∃ el, elems[i]? = some el := ⟨_, List.getElem?_eq_getElem (by omega)⟩
        rw [hel] at h1
        have h2 : (elems.map (·.1))[i]? = some el.1 := by rw [List.getElem?_map, hel]; rfl
        rw [← hx1, List.getElem?_map] at h2
        cases hw : ws[i]? with
        | none => rw [hw] at h2; cases h2
        | some l =>
          rw [hw] at h2
          injection h2 with h2
          cases hc : W.cells? 0 (a.add (i * P.cellsOf e)) (P.cellsOf e) with
          | none => rw [hc] at h1; cases h1
          | some xs =>
            rw [hc] at h1
            obtain ⟨s, hs1, hs2, _⟩ := DataW.trod_string he h1
            rw [hs2] at h2
            injection h2 with h2
            injection h2 with h2
            refine ⟨l, .string s, rfl, ?_, ?_⟩
            · rw [hs1]
            · rw [h2]
      have hs0 : a.spot = none := by
        obtain ⟨l, x, _, h1, _⟩ := hel 0 (by omega)
        obtain ⟨_, _, h2⟩ := World.cells?_some h1
        have h3 := h2 0 (by omega)
        have := World.cell?_spot (h3.trans (by rfl))
        simpa [Addr.add] using this
      obtain ⟨b, o, spot⟩ := a
      simp only at hs0
      subst hs0
      refine ⟨b, o, cap, by omega, hm, ?_, fun i l hil => ?_⟩
      · refine hcell 0 _ ?_
        rw [← Array.getElem?_toList, hcs, ← hlw]
        rfl
      · have hil' : i < len := by
          have := (List.getElem?_eq_some_iff.1 hil).1
          omega
        obtain ⟨l', x, h1, h2, h3⟩ := hel i hil'
        rw [hil] at h1
        injection h1 with h1
        subst h1
        obtain ⟨_, _, h4⟩ := World.cells?_some h2
        have h5 := h4 0 (by omega)
        rw [Go.Deep.add_add, Go.WideShapes.add_plain, hce, Nat.mul_one, Nat.add_zero] at h5
        rw [h5, h3]
        rfl
  | (n', d) :: r, i + 1, ps, h, hl => by
    obtain ⟨g', t', cs, fuel, p, q, _, _, _, _, hr, _⟩ := hl
    exact words_at h0 hg hty ht he hce r i q (by simpa using h) hr
end Go.Proofs.YtgdoelfajfjopaaGreatDoor
namespace Go.Proofs.YtgdoelfajfjopaaGreatDoor
open Go.RowKit
set_option linter.unusedVariables false
set_option linter.unusedSimpArgs false
namespace rs
def namesL : List (List UInt8) := [[110, 105, 108], [98, 111, 111, 108], [105, 110, 116], [115, 116, 114, 105, 110, 103], [100, 97, 121], [108, 105, 115, 116], [116, 97, 98, 108, 101]]
/-- Where the two rows of names lie. -/
structure Pl where
  b : Nat
  o : Nat
  c : Nat
  b2 : Nat
  o2 : Nat
  c2 : Nat
def NG (p : Pl) (W : World) : Prop := ML W ∧ (7 ≤ p.c ∧ p.c ≤ maxLen ∧ WordsAt 1 namesL p.b p.o p.c W) ∧ (7 ≤ p.c2 ∧ p.c2 ≤ maxLen ∧ WordsAt 0 namesL p.b2 p.o2 p.c2 W)
theorem NG.lt {p : Pl} {W : World} (h : NG p W) : 2 < W.heap.size ∧ 1 < W.heap.size ∧ p.b < W.heap.size ∧ 0 < W.heap.size ∧ p.b2 < W.heap.size := by
  obtain ⟨h1, ⟨_, _, h2, h3⟩, ⟨_, _, h4, h5⟩⟩ := h
  exact ⟨h1.lt, World.block_lt_of_cell? W ⟨_, 0, none⟩ h2, World.block_lt_of_cell? W ⟨p.b, p.o + 0, none⟩ (h3 0 _ rfl), World.block_lt_of_cell? W ⟨_, 0, none⟩ h4, World.block_lt_of_cell? W ⟨p.b2, p.o2 + 0, none⟩ (h5 0 _ rfl)⟩
def nM (p : Pl) : Nat := max (max (max 2 1) (max 0 p.b)) p.b2 + 1
theorem NG.kp {p : Pl} {W W' : World} (h : NG p W) (hk : Kp (nM p) noS W W') : NG p W' := by
  obtain ⟨⟨m, h1⟩, ⟨q1, q2, h2, h3⟩, ⟨q3, q4, h4, h5⟩⟩ := h
  refine ⟨⟨m, (hk.cell (by unfold nM; omega) (fun h => h)).trans h1⟩, ⟨q1, q2, (hk.cell (by unfold nM; omega) (fun h => h)).trans h2, fun i l hi => (hk.cell (by unfold nM; omega) (fun h => h)).trans (h3 i l hi)⟩, ⟨q3, q4, (hk.cell (by unfold nM; omega) (fun h => h)).trans h4, fun i l hi => (hk.cell (by unfold nM; omega) (fun h => h)).trans (h5 i l hi)⟩⟩
def nMG (p : Pl) (b' : Nat) : Prop := b' = 1 ∨ b' = p.b ∨ b' = 0 ∨ b' = p.b2
def env0 (p : Pl) : Env := ⟨nM p, NG p, fun w h => by have := h.lt; unfold nM; omega, fun w w' h hk => h.kp hk, fun b' _ => nMG p b', fun b' _ h => by unfold nMG at h; unfold nM; omega, fun _ => .opq, fun _ _ _ => .opq⟩
theorem names_rep (p : Pl) (W : World) (g b o c : Nat) (hM1 : nMG p g) (hM2 : nMG p b) (h4 : 7 ≤ c) (h5 : c ≤ maxLen) (h : WordsAt g namesL b o c W) : Rep view (fun b' _ => nMG p b') W b0 (.ref 1 (fun _ => encStrs names)) (.pointer (some ⟨g, 0, none⟩)) := by
  obtain ⟨h2, h3⟩ := h
  refine .ref (fun _ => .slice (some ⟨b, o, none⟩) namesL.length c) (fun j hj => ?_) (fun j hj => ?_)
  · obtain rfl : j = 0 := by omega
    exact ⟨hM1, h2, rfl⟩
  · refine .sl (fun i _ => .string (names.getD i ⟨#[]⟩)) h4 h5 (by decide) (fun i j hi hj => ?_) (fun i j hi hj => ?_)
    · obtain rfl : j = 0 := by omega
      refine ⟨hM2, ?_, rfl⟩
      rw [Nat.mul_one, Nat.add_zero]
      have hi : i < 7 := hi
      match i, hi with
      | 0, _ => exact h3 0 _ rfl
      | 1, _ => exact h3 1 _ rfl
      | 2, _ => exact h3 2 _ rfl
      | 3, _ => exact h3 3 _ rfl
      | 4, _ => exact h3 4 _ rfl
      | 5, _ => exact h3 5 _ rfl
      | 6, _ => exact h3 6 _ rfl
    · have hi : i < 7 := hi
      match i, hi with
      | 0, _ => exact .v (by decide)
      | 1, _ => exact .v (by decide)
      | 2, _ => exact .v (by decide)
      | 3, _ => exact .v (by decide)
      | 4, _ => exact .v (by decide)
      | 5, _ => exact .v (by decide)
      | 6, _ => exact .v (by decide)
theorem names_gv (p : Pl) (W : World) (h : NG p W) (g : Nat) : Rep view (fun b' _ => nMG p b') W b0 (namesGv g) (.pointer (some ⟨g, 0, none⟩)) := by
  obtain ⟨_, ⟨q1, q2, h2⟩, ⟨q3, q4, h4⟩⟩ := h
  unfold namesGv
  cases hb : Nat.beq g 1
  · cases hb2 : Nat.beq g 0
    · exact .opq
    · have hb2 := Nat.eq_of_beq_eq_true hb2
      subst hb2
      exact names_rep p W _ _ _ _ (.inr (.inr (.inl rfl))) (.inr (.inr (.inr rfl))) q3 q4 h4
  · have hb := Nat.eq_of_beq_eq_true hb
    subst hb
    exact names_rep p W _ _ _ _ (.inl rfl) (.inr (.inl rfl)) q1 q2 h2
end rs
namespace sw
open cr se ap so tab mg rs
theorem fdw_le : ∀ l : List Fd, (l.map fdw).sum ≤ (l.map Fd.wt).sum
  | [] => Nat.le_refl _
  | f :: r => by
    have := fdw_le r
    simp only [List.map_cons, List.sum_cons, fdw, Fd.wt] at this ⊢
    omega
section
variable (E : Env)
set_option maxRecDepth 100000
set_option maxHeartbeats 4000000 in
theorem schemaWrites_sp (hML : ∀ w, E.G w → ML w) (E0 : Env) (hg : ∀ w, E0.G w → ∀ g, Rep view E0.MG w b0 (namesGv g) (.pointer (some ⟨g, 0, none⟩))) (hE : E = nEnv E0 hg) (l : List Fd) (b : Bool) (hw : (l.map Fd.wt).sum ≤ 2000000) : Sp (cx Tryz.prog mixed tyT_ok E) 4 [.agg [encFs l, dB b]] (dB true) := by
  have hok : fdOk l := fun f hf => by have := fd_mem l f hf; simp only [Fd.wt] at this; omega
  have hln := fd_len l
  have hdw := fdw_le l
  have h1 := schemaValue_sp E hML E0 hg hE l b hok (by omega) (by omega)
  have h2 := schemaValueOf_sp E hML E0 hg hE l b hok (by omega) (by omega)
  have h3 := ap.sameSelf_sp E (schR l b).1
  generalize schR l b = r at h1 h2 h3
  refine Sp.body Tryz.func4 (by kernel_rfl) rfl (by kernel_rfl) (by kernel_rfl) (by kernel_rfl) ?_
  repeat' first
    | (refine codeW_cond rfl ?_; first | (refine condW_dec ?_ ?_ <;> intro _ <;> try (exfalso; omega)) | refine condW_not ?_ | (refine condW_bool ?_ ?_ <;> intro _ <;> try (exfalso; omega)))
    | (refine facW_intro ?_; intro _)
    | refine Or.inl ?_
    | ((conv => whnf); first | (refine condW_dec ?_ ?_ <;> intro _) | refine condW_not ?_ | (refine condW_bool ?_ ?_ <;> intro _) | (refine nbC_t (fun _ => ?_) ?_) | (refine nbC_f ?_ (fun _ => ?_)))
    | refine And.intro (by first | omega | (simp only [Int.toNat_natCast] at *; omega) | (simp only [Nat.reduceAdd, Int.cast_ofNat_Int, true_and, and_true]; omega)  | (simp only [cx, view, Nat.reduceAdd, Int.toNat_natCast]; omega) | kernel_rfl) ?_
    | refine RegW.run ?_
    | refine ⟨_, h1, ?_⟩
    | refine ⟨_, h2, ?_⟩
    | refine ⟨_, h3, ?_⟩
    | fail
  all_goals first
    | (exfalso; rename_i h; exact h rfl)
    | exact Dle.bo (by simp)
    | trace_state
end
end sw
end Go.Proofs.YtgdoelfajfjopaaGreatDoor
