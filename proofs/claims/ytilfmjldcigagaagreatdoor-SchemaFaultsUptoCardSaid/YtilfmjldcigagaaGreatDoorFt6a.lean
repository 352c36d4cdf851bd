/-
  Faults of a value by a schema: the reference's reach; what a field comes to, as data.
-/
import Derived.Test.YtilfmjldcigagaaGreatDoorFt4
import Derived.Test.YtilfmjldcigagaaGreatDoorM2
namespace Go.Proofs.YtilfmjldcigagaaGreatDoor
open Go.RowKit
set_option linter.unusedVariables false
set_option pp.maxSteps 300
set_option linter.unusedSimpArgs false
namespace ft
def rcell (q : Rch) (j : Nat) : DD := match j with
  | 0 => dS q.1
  | 1 => i64 q.2.1.kind
  | 2 => dB q.2.1.b
  | 3 => i64 q.2.1.i
  | 4 => dS q.2.1.text
  | 5 => .rc (.vals q.2.1.items)
  | 6 => encStrs q.2.1.keys
  | 7 => dB q.2.2
  | _ => .opq
def rowR (a : List Rch) (i j : Nat) : DD := rcell (a.getD i default) j
def encR (l : List Rch) : DD := .sl 8 112 l.length (rowR l)
theorem rowR_app (a b : List Rch) (i j : Nat) : (if i < a.length then rowR a i j else rowR b (i - a.length) j) = rowR (a ++ b) i j := by
  unfold rowR
  split
  · rename_i h; simp [List.getD, List.getElem?_append_left h]
  · rename_i h; simp [List.getD, List.getElem?_append_right (Nat.le_of_not_lt h)]
section
variable (E : Env)
set_option maxRecDepth 100000
theorem row_encR (a b : List Rch) (i j : Nat) : Dle (cx Tryz.prog mixed tyT_ok E) (if i < a.length then rowR a i j else rowR b (i - a.length) j) (rowR (a ++ b) i j) := Dle.of_eq (rowR_app a b i j)
theorem one_rch (r : ByteArray) (v : Vu) (b : Bool) : Dle (cx Tryz.prog mixed tyT_ok E) (.sl 8 112 1 (fun i j => ([dS r, i64 v.kind, dB v.b, i64 v.i, dS v.text, .rc (.vals v.items), encStrs v.keys, dB b] : List DD).getD ((i + 0) * 8 + j) .opq)) (encR [(r, v, b)]) := by
  refine Dle.sl (X := (cx Tryz.prog mixed tyT_ok E)) rfl (fun i j hi hj => ?_)
  obtain rfl : i = 0 := by omega
  match j, hj with
  | 0, _ => exact Dle.refl _ _
  | 1, _ => exact Dle.refl _ _
  | 2, _ => exact Dle.refl _ _
  | 3, _ => exact Dle.refl _ _
  | 4, _ => exact Dle.refl _ _
  | 5, _ => exact Dle.refl _ _
  | 6, _ => exact Dle.refl _ _
  | 7, _ => exact Dle.refl _ _
theorem one_none (r : ByteArray) : Dle (cx Tryz.prog mixed tyT_ok E) (.sl 8 112 1 (fun i j => ([dS r, i64 0, dB false, i64 0, dS ⟨#[]⟩, .v (.slice none 0 0), .v (.slice none 0 0), dB true] : List DD).getD ((i + 0) * 8 + j) .opq)) (encR [(r, .zero, true)]) := by
  refine Dle.sl (X := (cx Tryz.prog mixed tyT_ok E)) rfl (fun i j hi hj => ?_)
  obtain rfl : i = 0 := by omega
  match j, hj with
  | 0, _ => exact Dle.refl _ _
  | 1, _ => exact Dle.refl _ _
  | 2, _ => exact Dle.refl _ _
  | 3, _ => exact Dle.refl _ _
  | 4, _ => exact Dle.refl _ _
  | 5, _ => exact Dle.rc (X := (cx Tryz.prog mixed tyT_ok E)) Dle.nil
  | 6, _ => exact Dle.nil (X := (cx Tryz.prog mixed tyT_ok E))
  | 7, _ => exact Dle.refl _ _
/-- A condition whose datum is told by reckoning (the kernel takes this far more easily than the whole step). -/
theorem codeW_cond {κ : Type} {X : Cx κ} {c : Operand} {t f : Code} {Q : Exit → St κ → Prop} {σ : St κ} {b : Bool} (h : σ.ev c = .v (.bool b)) (g : condW b (codeW X t Q σ) (codeW X f Q σ)) : codeW X (.cond c t f) Q σ := by
  unfold codeW
  rw [h]
  exact g
set_option maxHeartbeats 4000000 in
theorem reach_any (hP : ∀ w, E.G w → P10 w) (ps0 : List ByteArray) : ∀ (v : Vu) (r : ByteArray), (∀ p ∈ ps0, partOk true p = true) → faultE v = 0 → cnt v ≤ 1000 → v.wt ≤ 100000000 → r.size + 100 * v.wt + 50 * ps0.length ≤ 100000000000 →
    Sp (cx Tryz.prog mixed tyT_ok E) 47 [encV v, encStrs ps0, dS r] (encR (rch ps0 v r)) := by
  induction ps0 with
  | nil =>
    intro v r _ hf hc hw hr
    rw [rch_nil]
    refine Sp.body Tryz.func47 (by kernel_rfl) rfl (by kernel_rfl) (by kernel_rfl) (by kernel_rfl) ?_
    repeat' first
      | (refine facW_intro ?_; intro _)
      | refine Or.inl ?_
      | ((conv => whnf); first | (refine condW_dec ?_ ?_ <;> intro _ <;> try (exfalso; omega)) | refine condW_not ?_ | (refine condW_bool ?_ ?_ <;> intro _ <;> try (exfalso; omega)) | (refine nbC_t (fun _ => ?_) ?_) | (refine nbC_f ?_ (fun _ => ?_)))
      | refine And.intro (by first | omega | (simp only [Int.toNat_natCast] at *; omega) | (simp only [Nat.reduceAdd, Int.cast_ofNat_Int, true_and, and_true]; omega) | kernel_rfl) ?_
      | refine RegW.run ?_
      | fail
    all_goals first
      | exact one_rch E r v false
      | trace_state
  | cons p t ih0 =>
    intro v r ho hf hc hw hr
    have ih := fun v r => ih0 v r (fun q hq => ho q (List.mem_cons_of_mem _ hq))
    clear ih0
    have hkl := (fault_keys hf).2
    have hpo := ho p List.mem_cons_self
    have hps := part_size hpo
    have hcv := cnt_eq v
    have hil := len_le_cntL v.items
    have hkw := keys_le_wt v
    simp only [List.length_cons] at hr
    obtain ⟨ps, hpe⟩ : ∃ ps, ps = p :: t := ⟨_, rfl⟩
    have hpl : ps.length = t.length + 1 := by rw [hpe]; rfl
    have hp0 : ps.getD (Int.toNat 0) ⟨#[]⟩ = p := by rw [hpe]; rfl
    have hpi : ∀ i, ps.getD (i + 1) ⟨#[]⟩ = t.getD i ⟨#[]⟩ := fun i => by rw [hpe, List.getD_cons_succ]
    have hsl : ∀ (n : Nat) (g : Nat → Nat → DD), n = t.length → (∀ i j, g i j = dS (ps.getD (i + 1) ⟨#[]⟩)) → Dle (cx Tryz.prog mixed tyT_ok E) (.sl 1 16 n g) (encStrs t) := fun n g hn hg => Dle.sl (X := (cx Tryz.prog mixed tyT_ok E)) hn (fun i j _ _ => Dle.of_eq (by rw [hg, hpi]))
    by_cases hs : p = (⟨#[42]⟩ : ByteArray)
    · have er : rch (p :: t) v r = rchP t v r v.items.length := by rw [hs, rch_star]
      rw [er, ← hpe]
      clear hpe er hpo ho
      have hps0 : ps.getD (Int.toNat 0) ⟨#[]⟩ = (⟨#[42]⟩ : ByteArray) := hp0.trans hs
      refine Sp.body Tryz.func47 (by kernel_rfl) rfl (by kernel_rfl) (by kernel_rfl) (by kernel_rfl) ?_
      repeat' first
        | (refine facW_intro ?_; intro _)
        | refine Or.inl ?_
        | ((conv => whnf); first | (refine condW_dec ?_ ?_ <;> intro _ <;> try (exfalso; omega)) | refine condW_not ?_ | (refine condW_bool ?_ ?_ <;> intro _ <;> try (exfalso; omega)) | (refine nbC_t (fun _ => ?_) ?_) | (refine nbC_f ?_ (fun _ => ?_)))
        | refine And.intro (by first | omega | (simp only [Int.toNat_natCast] at *; omega) | (simp only [Nat.reduceAdd, Int.cast_ofNat_Int, true_and, and_true]; omega) | kernel_rfl) ?_
        | refine RegW.run ?_
        | fail
      all_goals try (exfalso; rename_i h; exact h hps0)
      refine ⟨Nat, fun k => [(26, i64 k), (7, .own 26 8 0 (rchP t v r k).length)], fun k => [], [3], fun k => [(26, 133, (rchP t v r k).length, rowR (rchP t v r k))], fun k => k ≤ v.items.length, fun k => v.items.length - k, ⟨0, by omega, ⟨[(26, none)], ⟨by kernel_rfl, by kernel_rfl, by kernel_rfl, by kernel_rfl, by kernel_rfl, by kernel_rfl, by kernel_rfl⟩, (by repeat' first | exact trivial | exact rfl | kernel_rfl | exact Dle.of_eq rfl | exact MLe.of_eq rfl | exact Dle.i (by omega) | exact Dle.i (by simp only [Int.toNat_natCast] at *; omega) | exact Dle.nil | exact Dle.rc Dle.nil | exact Option.some_ne_none _ | exact Or.inl rfl | exact Or.inr trivial | omega | (simp only [Int.toNat_natCast] at *; omega) | (intro _ _ _ _; exact Dle.of_eq rfl) | refine And.intro ?_ ?_)⟩⟩, fun k hk => ?_⟩
      have hk : k ≤ v.items.length := hk
      by_cases hlt : k < v.items.length
      · have hm := getD_mem v.items .zero k hlt
        have g1 := wt_child hm
        have g2 := cnt_mem v.items _ hm
        have g6 := part_wt (v := v) (i := k) (by omega)
        have g7 := joinR_size r (partK v.kind v.keys k)
        have g8 := rchP_len t v r k hk hf
        have h1 := partOf_sp E hP v k hlt hkl (by omega)
        have h2 := route_sp E r (partK v.kind v.keys k) (by omega)
        have h3 := ih _ (joinR r (partK v.kind v.keys k)) (fault_mem hf hlt) (by omega) (by omega) (by omega)
        have h4 : Sp (cx Tryz.prog mixed tyT_ok E) 47 [encV (v.items.getD k .zero), .sl 1 16 (((ps.length : Int)).toNat - ((1 : Int)).toNat) (fun i _ => dS (ps.getD (i + ((1 : Int)).toNat) ⟨#[]⟩)), dS (joinR r (partK v.kind v.keys k))] (encR (rch t (v.items.getD k .zero) (joinR r (partK v.kind v.keys k)))) := Sp.args h3 ⟨Dle.refl _ _, hsl _ _ (by omega) (fun i j => rfl), Dle.refl _ _, trivial⟩
        have gA := rch_len t (v.items.getD k .zero) (joinR r (partK v.kind v.keys k)) (fault_mem hf hlt)
        have e2 := rchP_succ t v r k
        have e3 : (rchP t v r k).length + (rch t (v.items.getD k .zero) (joinR r (partK v.kind v.keys k))).length = (rchP t v r (k + 1)).length := by rw [e2, List.length_append]
        refine Or.inl ?_
        refine codeW_cond (b := decide ((k : Int) < (v.items.length : Int))) rfl ?_
        refine condW_dec ?_ ?_ <;> intro _ <;> try (exfalso; omega)
        repeat' first
          | (refine facW_intro ?_; intro _)
          | refine Or.inl ?_
          | ((conv => whnf); first | (refine condW_dec ?_ ?_ <;> intro _ <;> try (exfalso; omega)) | refine condW_not ?_ | (refine condW_bool ?_ ?_ <;> intro _ <;> try (exfalso; omega)) | (refine nbC_t (fun _ => ?_) ?_) | (refine nbC_f ?_ (fun _ => ?_)))
          | refine And.intro (by first | omega | (simp only [Int.toNat_natCast] at *; omega) | (simp only [Nat.reduceAdd, Int.cast_ofNat_Int, true_and, and_true]; omega) | kernel_rfl) ?_
          | refine RegW.run ?_
          | refine ⟨_, h1, ?_⟩
          | refine ⟨_, h2, ?_⟩
          | refine ⟨_, h4, ?_⟩
          | fail
        all_goals first
          | exact ⟨k + 1, by omega, ⟨[(26, some 41)], ⟨by kernel_rfl, by kernel_rfl, by kernel_rfl, by kernel_rfl, by kernel_rfl, by kernel_rfl, by kernel_rfl⟩, (by repeat' first | (exact e3) | exact trivial | exact rfl | kernel_rfl | exact Dle.of_eq rfl | exact MLe.of_eq rfl | exact Dle.i (by omega) | exact Dle.i (by simp only [Int.toNat_natCast] at *; omega) | exact Dle.nil | exact Dle.rc Dle.nil | exact Option.some_ne_none _ | exact Or.inl rfl | exact Or.inr trivial | omega | (simp only [Int.toNat_natCast] at *; omega) | (intro _ _ _ _; exact Dle.of_eq rfl) | (intro i j hi hj; (rw [e2]; exact row_encR E _ _ i j)) | refine And.intro ?_ ?_)⟩, by first | omega | (dsimp only; omega)⟩
          | trace_state
      · have hke : k = v.items.length := Nat.le_antisymm hk (Nat.le_of_not_lt hlt)
        refine Or.inl ?_
        refine codeW_cond (b := decide ((k : Int) < (v.items.length : Int))) rfl ?_
        refine condW_dec ?_ ?_ <;> intro _ <;> try (exfalso; omega)
        repeat' first
          | (refine facW_intro ?_; intro _)
          | refine Or.inl ?_
          | ((conv => whnf); first | (refine condW_dec ?_ ?_ <;> intro _ <;> try (exfalso; omega)) | refine condW_not ?_ | (refine condW_bool ?_ ?_ <;> intro _ <;> try (exfalso; omega)) | (refine nbC_t (fun _ => ?_) ?_) | (refine nbC_f ?_ (fun _ => ?_)))
          | refine And.intro (by first | omega | (simp only [Int.toNat_natCast] at *; omega) | (simp only [Nat.reduceAdd, Int.cast_ofNat_Int, true_and, and_true]; omega) | kernel_rfl) ?_
          | refine RegW.run ?_
          | fail
        subst hke
        all_goals first
          | exact Dle.sl (X := (cx Tryz.prog mixed tyT_ok E)) rfl (fun i j hi hj => Dle.refl _ _)
          | trace_state
    · have hpf : partOk false p = true := ((part_star hpo).resolve_left (fun g => hs g.2)).2.2
      have h1 : Sp (cx Tryz.prog mixed tyT_ok E) 100 [dS r, dS (ps.getD (Int.toNat 0) ⟨#[]⟩)] (dS (joinR r p)) := by rw [hp0]; exact route_sp E r p (by omega)
      have h2 : Sp (cx Tryz.prog mixed tyT_ok E) 102 [encV v, dS (ps.getD (Int.toNat 0) ⟨#[]⟩)] (i64 (stepR v p)) := by rw [hp0]; exact step_sp E v p hpf
      have hs0 : ¬ ps.getD (Int.toNat 0) ⟨#[]⟩ = (⟨#[42]⟩ : ByteArray) := fun g => hs (hp0.symm.trans g)
      have hj := joinR_size r p
      rcases step_follow hpf hf with ⟨h3, h4⟩ | ⟨m, h3, hm, h4⟩
      · rw [rch_none hs h4, ← hpe]
        clear hpe
        generalize stepR v p = z at h2 h3
        refine Sp.body Tryz.func47 (by kernel_rfl) rfl (by kernel_rfl) (by kernel_rfl) (by kernel_rfl) ?_
        repeat' first
          | (refine facW_intro ?_; intro _)
          | refine Or.inl ?_
          | ((conv => whnf); first | (refine condW_dec ?_ ?_ <;> intro _ <;> try (exfalso; omega)) | refine condW_not ?_ | (refine condW_bool ?_ ?_ <;> intro _ <;> try (exfalso; omega)) | (refine nbC_t (fun _ => ?_) ?_) | (refine nbC_f ?_ (fun _ => ?_)))
          | refine And.intro (by first | omega | (simp only [Int.toNat_natCast] at *; omega) | (simp only [Nat.reduceAdd, Int.cast_ofNat_Int, true_and, and_true]; omega) | kernel_rfl) ?_
          | refine RegW.run ?_
          | refine ⟨_, h1, ?_⟩
          | refine ⟨_, h2, ?_⟩
          | fail
        all_goals first
          | (exfalso; exact hs0 (by assumption))
          | exact one_none E _
          | trace_state
      · rw [rch_some hs h4, ← hpe]
        clear hpe
        rw [h3] at h2
        have hx := getD_mem v.items .zero m hm
        have g1 := wt_child hx
        have g2 := cnt_mem v.items _ hx
        have h5 := ih _ (joinR r p) (fault_mem hf hm) (by omega) (by omega) (by omega)
        have h6 : Sp (cx Tryz.prog mixed tyT_ok E) 47 [encV (v.items.getD m .zero), .sl 1 16 (((ps.length : Int)).toNat - ((1 : Int)).toNat) (fun i _ => dS (ps.getD (i + ((1 : Int)).toNat) ⟨#[]⟩)), dS (joinR r p)] (encR (rch t (v.items.getD m .zero) (joinR r p))) := Sp.args h5 ⟨Dle.refl _ _, hsl _ _ (by omega) (fun i j => rfl), Dle.refl _ _, trivial⟩
        refine Sp.body Tryz.func47 (by kernel_rfl) rfl (by kernel_rfl) (by kernel_rfl) (by kernel_rfl) ?_
        repeat' first
          | (refine facW_intro ?_; intro _)
          | refine Or.inl ?_
          | ((conv => whnf); first | (refine condW_dec ?_ ?_ <;> intro _ <;> try (exfalso; omega)) | refine condW_not ?_ | (refine condW_bool ?_ ?_ <;> intro _ <;> try (exfalso; omega)) | (refine nbC_t (fun _ => ?_) ?_) | (refine nbC_f ?_ (fun _ => ?_)))
          | refine And.intro (by first | omega | (simp only [Int.toNat_natCast] at *; omega) | (simp only [Nat.reduceAdd, Int.cast_ofNat_Int, true_and, and_true]; omega) | kernel_rfl) ?_
          | refine RegW.run ?_
          | refine ⟨_, h1, ?_⟩
          | refine ⟨_, h2, ?_⟩
          | refine ⟨_, h6, ?_⟩
          | fail
        all_goals first
          | (exfalso; exact hs0 (by assumption))
          | exact Dle.refl _ _
          | trace_state
end
end ft
end Go.Proofs.YtilfmjldcigagaaGreatDoor
