/-
  conf.CheckSchema, the reference's SchemaFault, the law.
-/
import Derived.Test.YtgdoelfajfjopaaGreatDoorK1
namespace Go.Proofs.YtgdoelfajfjopaaGreatDoor
open Go.RowKit
set_option linter.unusedVariables false
set_option linter.unusedSimpArgs false
theorem dup_drop {l : List Fd} {s : ByteArray} {k : Nat} (h : k < l.length) : (l.drop k).any (fun g => decide (g.route = s)) = (decide ((l.getD k default).route = s) || (l.drop (k + 1)).any (fun g => decide (g.route = s))) := by
  rw [drop_cons l default k h, List.any_cons]
theorem fd_take {l : List Fd} {i k : Nat} (h : k < i) : (l.take i).getD k default = l.getD k default := by simp [List.getD, List.getElem?_take, h]
def fdOk (l : List Fd) : Prop := ∀ f ∈ l, f.dflt.wt ≤ 100000000 ∧ f.route.size ≤ 1000000000
section
variable (E : Env)
set_option maxRecDepth 100000
theorem fieldFault_l (hML : ∀ w, E.G w → ML w) (L : Nat) (f : Fd) (es : List (Value × DD)) (dup : Bool) (hw : f.dflt.wt ≤ 100000000) (hs : f.route.size ≤ 1000000000) (hl : Look es (.string f.route) (dB false) (dup, dB dup)) :
    SpH (cx Tryz.prog mixed tyT_ok E) 83 [encF f, .mp L] [(L, .map 198 es)] (i64 (fieldE f dup)) [(L, .map 198 es)] := by
  have h := (fieldFault_at E hML f es dup hw hs hl).swap 1000000 L
  simpa only [D.renL, D.ren, renH, Ob.ren, swp_l, encF, encStrs] using h
theorem checkSchema_sp (hML : ∀ w, E.G w → ML w) (l : List Fd) (b : Bool) (hl : fdOk l) (hlen : l.length ≤ 1000000000) : Sp (cx Tryz.prog mixed tyT_ok E) 32 [.agg [encFs l, dB b]] (i64 (schemaE l)) := by
  obtain ⟨r, hr⟩ : ∃ r, r = schemaE l := ⟨_, rfl⟩
  rw [← hr]
  unfold schemaE at hr
  by_cases hn : 100 < l.length
  · rw [if_pos hn] at hr
    refine Sp.body Tryz.func32 (by kernel_rfl) rfl (by kernel_rfl) (by kernel_rfl) (by kernel_rfl) ?_
    repeat' first
      | (refine facW_intro ?_; intro _)
      | refine Or.inl ?_
      | ((conv => whnf); first | (refine condW_dec ?_ ?_ <;> intro _ <;> try (exfalso; omega)) | refine condW_not ?_ | (refine condW_bool ?_ ?_ <;> intro _ <;> try (exfalso; omega)) | (refine nbC_t (fun _ => ?_) ?_) | (refine nbC_f ?_ (fun _ => ?_)))
      | refine And.intro (by first | omega | (simp only [Int.toNat_natCast] at *; omega) | (simp only [Nat.reduceAdd, Int.cast_ofNat_Int, true_and, and_true]; omega)  | kernel_rfl) ?_
      | refine RegW.run ?_
      | fail
    all_goals exact Dle.i (by rw [hr])
  · rw [if_neg hn] at hr
    refine Sp.body Tryz.func32 (by kernel_rfl) rfl (by kernel_rfl) (by kernel_rfl) (by kernel_rfl) ?_
    repeat' first
      | (refine facW_intro ?_; intro _)
      | refine Or.inl ?_
      | ((conv => whnf); first | (refine condW_dec ?_ ?_ <;> intro _ <;> try (exfalso; omega)) | refine condW_not ?_ | (refine condW_bool ?_ ?_ <;> intro _ <;> try (exfalso; omega)) | (refine nbC_t (fun _ => ?_) ?_) | (refine nbC_f ?_ (fun _ => ?_)))
      | refine And.intro (by first | omega | (simp only [Int.toNat_natCast] at *; omega) | (simp only [Nat.reduceAdd, Int.cast_ofNat_Int, true_and, and_true]; omega)  | kernel_rfl) ?_
      | refine RegW.run ?_
      | fail
    refine ⟨Nat, fun k => [(15, i64 k)], fun k => [(11, .map 198 (routesM l k))], [1], fun k => [], fun k => k ≤ l.length ∧ r = schemaF l k, fun k => l.length - k, ⟨0, ⟨by omega, hr⟩, ⟨[], ⟨by kernel_rfl, by kernel_rfl, by kernel_rfl, by kernel_rfl, by kernel_rfl, by kernel_rfl, by kernel_rfl⟩, (by repeat' first | exact trivial | exact rfl | kernel_rfl | exact Dle.of_eq rfl | exact MLe.of_eq rfl | exact Dle.i (by omega) | exact Dle.i (by simp only [Int.toNat_natCast] at *; omega) | exact Dle.nil | exact Dle.rc Dle.nil | exact Option.some_ne_none _ | exact Or.inl rfl | exact Or.inr trivial | omega | (simp only [Int.toNat_natCast] at *; omega) | (intro _ _ _ _; exact Dle.of_eq rfl) | refine And.intro ?_ ?_)⟩⟩, fun k hk => ?_⟩
    obtain ⟨hk, hK⟩ := hk
    by_cases hlt : k < l.length
    · rw [schemaF_at hlt] at hK
      obtain ⟨g1, g2⟩ := hl _ (getD_mem l default k hlt)
      have h1 := fieldFault_l E hML 11 (l.getD k default) (routesM l k) (dupB l (l.getD k default).route k) g1 g2 (look_routes k (by omega))
      generalize fieldE (l.getD k default) (dupB l (l.getD k default).route k) = e at hK h1
      repeat' first
        | refine Or.inr ⟨_, _, _, h1, by kernel_rfl, (by repeat' first | exact trivial | exact rfl | kernel_rfl | exact Dle.of_eq rfl | exact MLe.of_eq rfl | exact Dle.i (by omega) | exact Dle.i (by simp only [Int.toNat_natCast] at *; omega) | exact Dle.nil | exact Dle.rc Dle.nil | exact Option.some_ne_none _ | exact Or.inl rfl | exact Or.inr trivial | omega | (simp only [Int.toNat_natCast] at *; omega) | (intro _ _ _ _; exact Dle.of_eq rfl) | refine And.intro ?_ ?_), ?_⟩
        | (refine facW_intro ?_; intro _)
        | refine Or.inl ?_
        | ((conv => whnf); first | (refine condW_dec ?_ ?_ <;> intro _ <;> try (exfalso; omega)) | refine condW_not ?_ | (refine condW_bool ?_ ?_ <;> intro _ <;> try (exfalso; omega)) | (refine nbC_t (fun _ => ?_) ?_) | (refine nbC_f ?_ (fun _ => ?_)))
        | refine And.intro (by first | omega | (simp only [Int.toNat_natCast] at *; omega) | (simp only [Nat.reduceAdd, Int.cast_ofNat_Int, true_and, and_true]; omega)  | kernel_rfl) ?_
        | refine RegW.run ?_
        | fail
      all_goals first
        | exact Dle.i (by rw [hK, if_neg (by assumption)])
        | exact ⟨k + 1, ⟨by omega, by rw [hK]; grind⟩, ⟨[], ⟨by kernel_rfl, by kernel_rfl, by kernel_rfl, by kernel_rfl, by kernel_rfl, by kernel_rfl, by kernel_rfl⟩, (by repeat' first | exact trivial | exact rfl | kernel_rfl | exact Dle.of_eq rfl | exact MLe.of_eq rfl | exact Dle.i (by omega) | exact Dle.i (by simp only [Int.toNat_natCast] at *; omega) | exact Dle.nil | exact Dle.rc Dle.nil | exact Option.some_ne_none _ | exact Or.inl rfl | exact Or.inr trivial | omega | (simp only [Int.toNat_natCast] at *; omega) | (intro _ _ _ _; exact Dle.of_eq rfl) | refine And.intro ?_ ?_)⟩, by first | omega | (dsimp only; omega)⟩
        | trace_state
    · repeat' first
        | (refine facW_intro ?_; intro _)
        | refine Or.inl ?_
        | ((conv => whnf); first | (refine condW_dec ?_ ?_ <;> intro _ <;> try (exfalso; omega)) | refine condW_not ?_ | (refine condW_bool ?_ ?_ <;> intro _ <;> try (exfalso; omega)) | (refine nbC_t (fun _ => ?_) ?_) | (refine nbC_f ?_ (fun _ => ?_)))
        | refine And.intro (by first | omega | (simp only [Int.toNat_natCast] at *; omega) | (simp only [Nat.reduceAdd, Int.cast_ofNat_Int, true_and, and_true]; omega)  | kernel_rfl) ?_
        | refine RegW.run ?_
        | fail
      exact Dle.i (by rw [hK, schemaF_end hlt])
theorem containsStar_sp (s : ByteArray) : Sp (cx Tryz.prog mixed tyT_ok E) 106 [dS s, dS ⟨#[42]⟩] (dB (starB s)) :=
  Sp.of_v (vs := [.string s, .string ⟨#[42]⟩]) ⟨_, _, Tryz.func106, by kernel_rfl, rfl⟩ rfl (fun w hG => (Tryz.strings_Contains_one s 42 w).mono fun e w' ⟨he, hb⟩ => ⟨he, hb ▸ Below.refl _ _⟩)
set_option maxHeartbeats 4000000 in
theorem refFieldFault_sp (hML : ∀ w, E.G w → ML w) (l : List Fd) (n : Int) (h00 : 0 ≤ n) (hi : n.toNat < l.length) (hw : (l.getD n.toNat default).dflt.wt ≤ 100000000) (hs : (l.getD n.toNat default).route.size ≤ 1000000000) :
    Sp (cx Tryz.prog mixed tyT_ok E) 84 [encFs l, i64 n] (i64 (fieldE (l.getD n.toNat default) (dupB l (l.getD n.toNat default).route n.toNat))) := by
  obtain ⟨f, hf⟩ : ∃ f, f = l.getD n.toNat default := ⟨_, rfl⟩
  have hd : dupB l f.route n.toNat = ((l.take n.toNat).drop 0).any (fun g => decide (g.route = f.route)) := rfl
  have hti : (l.take n.toNat).length = n.toNat := by rw [List.length_take]; omega
  rw [← hf] at hw hs ⊢
  obtain ⟨r, hr⟩ : ∃ r, r = fieldE f (dupB l f.route n.toNat) := ⟨_, rfl⟩
  rw [← hr]
  rw [hd] at hr
  have h1 := routeParts_sp E hML f.route true hs
  have h2 := confCheck_sp E f.dflt (by have := cnt_le_wt f.dflt; omega)
  have h3 := containsStar_sp E f.route
  unfold fieldE at hr
  generalize routeOk true f.route = ok at hr h1
  generalize starB f.route = st at hr h3
  generalize checkE f.dflt = ce at hr h2
  have hcell : ∀ j, (l.getD n.toNat default).cell j = f.cell j := fun j => by rw [hf]
  by_cases h0 : ok = false ∨ f.route = ⟨#[]⟩
  · have hr : r = 3 := by
      have e : ∀ d, fieldA f ok d = 3 := fun d => by unfold fieldA; rw [if_pos h0]
      rw [e] at hr
      exact hr
    rw [hf] at *
    refine Sp.body Tryz.func84 (by kernel_rfl) rfl (by kernel_rfl) (by kernel_rfl) (by kernel_rfl) ?_
    repeat' first
      | (refine facW_intro ?_; intro _)
      | refine Or.inl ?_
      | ((conv => whnf); first | (refine condW_dec ?_ ?_ <;> intro _ <;> try (exfalso; omega)) | refine condW_not ?_ | (refine condW_bool ?_ ?_ <;> intro _ <;> try (exfalso; omega)) | (refine nbC_t (fun _ => ?_) ?_) | (refine nbC_f ?_ (fun _ => ?_)))
      | refine And.intro (by first | omega | (simp only [Int.toNat_natCast] at *; omega) | (simp only [Nat.reduceAdd, Int.cast_ofNat_Int, true_and, and_true]; omega)  | kernel_rfl) ?_
      | refine RegW.run ?_
      | refine ⟨_, h1, ?_⟩
      | fail
    all_goals first
      | exact Dle.i (by rw [hr])
      | (exfalso; clear hr h1 h2 h3; grind)
      | trace_state
  · rw [hf] at *
    refine Sp.body Tryz.func84 (by kernel_rfl) rfl (by kernel_rfl) (by kernel_rfl) (by kernel_rfl) ?_
    repeat' first
      | (refine facW_intro ?_; intro _)
      | refine Or.inl ?_
      | ((conv => whnf); first | (refine condW_dec ?_ ?_ <;> intro _ <;> try (exfalso; omega)) | refine condW_not ?_ | (refine condW_bool ?_ ?_ <;> intro _ <;> try (exfalso; omega)) | (refine nbC_t (fun _ => ?_) ?_) | (refine nbC_f ?_ (fun _ => ?_)))
      | refine And.intro (by first | omega | (simp only [Int.toNat_natCast] at *; omega) | (simp only [Nat.reduceAdd, Int.cast_ofNat_Int, true_and, and_true]; omega)  | kernel_rfl) ?_
      | refine RegW.run ?_
      | refine ⟨_, h1, ?_⟩
      | fail
    all_goals first
      | (exfalso; clear hr h1 h2 h3; grind)
      | skip
    refine ⟨Nat, fun k => [(34, i64 k)], fun k => [], [5], fun k => [], fun k => k ≤ n.toNat ∧ r = (if fieldA (l.getD n.toNat default) ok (((l.take n.toNat).drop k).any (fun g => decide (g.route = (l.getD n.toNat default).route))) ≠ 0 then fieldA (l.getD n.toNat default) ok (((l.take n.toNat).drop k).any (fun g => decide (g.route = (l.getD n.toNat default).route))) else if oneE (l.getD n.toNat default).oneOf 0 ≠ 0 then oneE (l.getD n.toNat default).oneOf 0 else fieldT (l.getD n.toNat default) ce st), fun k => n.toNat - k, ⟨0, ⟨by omega, hr⟩, ⟨[], ⟨by kernel_rfl, by kernel_rfl, by kernel_rfl, by kernel_rfl, by kernel_rfl, by kernel_rfl, by kernel_rfl⟩, (by repeat' first | exact trivial | exact rfl | kernel_rfl | exact Dle.of_eq rfl | exact MLe.of_eq rfl | exact Dle.i (by omega) | exact Dle.i (by simp only [Int.toNat_natCast] at *; omega) | exact Dle.nil | exact Dle.rc Dle.nil | exact Option.some_ne_none _ | exact Or.inl rfl | exact Or.inr trivial | omega | (simp only [Int.toNat_natCast] at *; omega) | (intro _ _ _ _; exact Dle.of_eq rfl) | refine And.intro ?_ ?_)⟩⟩, fun k hk => ?_⟩
    obtain ⟨hk, hK⟩ := hk
    by_cases hlt : k < n.toNat
    · rw [dup_drop (l := l.take n.toNat) (by omega), fd_take hlt] at hK
      repeat' first
        | (refine facW_intro ?_; intro _)
        | refine Or.inl ?_
        | ((conv => whnf); first | (refine condW_dec ?_ ?_ <;> intro _ <;> try (exfalso; omega)) | refine condW_not ?_ | (refine condW_bool ?_ ?_ <;> intro _ <;> try (exfalso; omega)) | (refine nbC_t (fun _ => ?_) ?_) | (refine nbC_f ?_ (fun _ => ?_)))
        | refine And.intro (by first | omega | (simp only [Int.toNat_natCast] at *; omega) | (simp only [Nat.reduceAdd, Int.cast_ofNat_Int, true_and, and_true]; omega)  | kernel_rfl) ?_
        | refine RegW.run ?_
        | fail
      all_goals first
        | (rename_i h
           have h : (l.getD k default).route = (l.getD n.toNat default).route := h
           rw [decide_eq_true h, Bool.true_or] at hK
           have e : fieldA (l.getD n.toNat default) ok true = 6 := by unfold fieldA; rw [if_neg h0, if_pos rfl]
           rw [e] at hK
           exact Dle.i (by rw [hK]; rfl))
        | (rename_i h
           have h : ¬ (l.getD k default).route = (l.getD n.toNat default).route := h
           rw [decide_eq_false h, Bool.false_or] at hK
           exact ⟨k + 1, ⟨by omega, hK⟩, ⟨[], ⟨by kernel_rfl, by kernel_rfl, by kernel_rfl, by kernel_rfl, by kernel_rfl, by kernel_rfl, by kernel_rfl⟩, (by repeat' first | exact trivial | exact rfl | kernel_rfl | exact Dle.of_eq rfl | exact MLe.of_eq rfl | exact Dle.i (by omega) | exact Dle.i (by simp only [Int.toNat_natCast] at *; omega) | exact Dle.nil | exact Dle.rc Dle.nil | exact Option.some_ne_none _ | exact Or.inl rfl | exact Or.inr trivial | omega | (simp only [Int.toNat_natCast] at *; omega) | (intro _ _ _ _; exact Dle.of_eq rfl) | refine And.intro ?_ ?_)⟩, by first | omega | (dsimp only; omega)⟩)
        | trace_state
    · rw [List.drop_of_length_le (by omega), List.any_nil] at hK
      clear hr
      by_cases hA : fieldA (l.getD n.toNat default) ok false = 0
      · rw [if_neg (by rw [hA]; decide)] at hK
        unfold fieldA at hA
        repeat' first
          | (refine facW_intro ?_; intro _)
          | refine Or.inl ?_
          | ((conv => whnf); first | (refine condW_dec ?_ ?_ <;> intro _ <;> try (exfalso; omega)) | refine condW_not ?_ | (refine condW_bool ?_ ?_ <;> intro _ <;> try (exfalso; omega)) | (refine nbC_t (fun _ => ?_) ?_) | (refine nbC_f ?_ (fun _ => ?_)))
          | refine And.intro (by first | omega | (simp only [Int.toNat_natCast] at *; omega) | (simp only [Nat.reduceAdd, Int.cast_ofNat_Int, true_and, and_true]; omega)  | kernel_rfl) ?_
          | refine RegW.run ?_
          | fail
        all_goals first
          | (exfalso; clear hK h1 h2 h3; grind)
          | skip
        all_goals
          refine ⟨Nat, fun q => [(87, i64 q)], fun q => [], [5], fun q => [], fun q => q ≤ (l.getD n.toNat default).oneOf.length ∧ r = if oneE (l.getD n.toNat default).oneOf q ≠ 0 then oneE (l.getD n.toNat default).oneOf q else fieldT (l.getD n.toNat default) ce st, fun q => (l.getD n.toNat default).oneOf.length - q, ⟨0, ⟨by omega, hK⟩, ⟨[], ⟨by kernel_rfl, by kernel_rfl, by kernel_rfl, by kernel_rfl, by kernel_rfl, by kernel_rfl, by kernel_rfl⟩, (by repeat' first | exact trivial | exact rfl | kernel_rfl | exact Dle.of_eq rfl | exact MLe.of_eq rfl | exact Dle.i (by omega) | exact Dle.i (by simp only [Int.toNat_natCast] at *; omega) | exact Dle.nil | exact Dle.rc Dle.nil | exact Option.some_ne_none _ | exact Or.inl rfl | exact Or.inr trivial | omega | (simp only [Int.toNat_natCast] at *; omega) | (intro _ _ _ _; exact Dle.of_eq rfl) | refine And.intro ?_ ?_)⟩⟩, fun q hq => ?_⟩
          obtain ⟨hq, hQ⟩ := hq
          by_cases hlq : q < (l.getD n.toNat default).oneOf.length
          · rw [oneE_at hlq] at hQ
            have h5 := refBadByte_sp E ((l.getD n.toNat default).oneOf.getD q ⟨#[]⟩)
            generalize badStr ((l.getD n.toNat default).oneOf.getD q ⟨#[]⟩) = bs at h5 hQ
            repeat' first
              | (refine facW_intro ?_; intro _)
              | refine Or.inl ?_
              | ((conv => whnf); first | (refine condW_dec ?_ ?_ <;> intro _ <;> try (exfalso; omega)) | refine condW_not ?_ | (refine condW_bool ?_ ?_ <;> intro _ <;> try (exfalso; omega)) | (refine nbC_t (fun _ => ?_) ?_) | (refine nbC_f ?_ (fun _ => ?_)))
              | refine And.intro (by first | omega | (simp only [Int.toNat_natCast] at *; omega) | (simp only [Nat.reduceAdd, Int.cast_ofNat_Int, true_and, and_true]; omega)  | kernel_rfl) ?_
              | refine RegW.run ?_
              | refine ⟨_, h5, ?_⟩
              | fail
            all_goals first
              | exact Dle.i (by rw [hQ]; simp only [Int.toNat_natCast] at *; grind)
              | exact ⟨q + 1, ⟨by omega, by rw [hQ]; simp only [Int.toNat_natCast] at *; grind⟩, ⟨[], ⟨by kernel_rfl, by kernel_rfl, by kernel_rfl, by kernel_rfl, by kernel_rfl, by kernel_rfl, by kernel_rfl⟩, (by repeat' first | exact trivial | exact rfl | kernel_rfl | exact Dle.of_eq rfl | exact MLe.of_eq rfl | exact Dle.i (by omega) | exact Dle.i (by simp only [Int.toNat_natCast] at *; omega) | exact Dle.nil | exact Dle.rc Dle.nil | exact Option.some_ne_none _ | exact Or.inl rfl | exact Or.inr trivial | omega | (simp only [Int.toNat_natCast] at *; omega) | (intro _ _ _ _; exact Dle.of_eq rfl) | refine And.intro ?_ ?_)⟩, by first | omega | (dsimp only; omega)⟩
              | trace_state
          · rw [oneE_end hlq] at hQ
            unfold fieldT at hQ
            repeat' first
              | (refine facW_intro ?_; intro _)
              | refine Or.inl ?_
              | ((conv => whnf); first | (refine condW_dec ?_ ?_ <;> intro _ <;> try (exfalso; omega)) | refine condW_not ?_ | (refine condW_bool ?_ ?_ <;> intro _ <;> try (exfalso; omega)) | (refine nbC_t (fun _ => ?_) ?_) | (refine nbC_f ?_ (fun _ => ?_)))
              | refine And.intro (by first | omega | (simp only [Int.toNat_natCast] at *; omega) | (simp only [Nat.reduceAdd, Int.cast_ofNat_Int, true_and, and_true]; omega)  | kernel_rfl) ?_
              | refine RegW.run ?_
              | refine ⟨_, h2, ?_⟩
              | refine ⟨_, h3, ?_⟩
              | fail
            all_goals first
              | exact Dle.i (by rw [hQ]; grind)
              | trace_state
      · rw [if_pos hA] at hK
        have hA' := hA
        rw [← hK] at hA'
        unfold fieldA at hK hA
        repeat' first
          | (refine facW_intro ?_; intro _)
          | refine Or.inl ?_
          | ((conv => whnf); first | (refine condW_dec ?_ ?_ <;> intro _ <;> try (exfalso; omega)) | refine condW_not ?_ | (refine condW_bool ?_ ?_ <;> intro _ <;> try (exfalso; omega)) | (refine nbC_t (fun _ => ?_) ?_) | (refine nbC_f ?_ (fun _ => ?_)))
          | refine And.intro (by first | omega | (simp only [Int.toNat_natCast] at *; omega) | (simp only [Nat.reduceAdd, Int.cast_ofNat_Int, true_and, and_true]; omega)  | kernel_rfl) ?_
          | refine RegW.run ?_
          | fail
        all_goals first
          | exact Dle.i (by rw [hK]; grind)
          | (exfalso; clear h1 h2 h3; grind)
          | trace_state
theorem schemaFault_sp (hML : ∀ w, E.G w → ML w) (l : List Fd) (b : Bool) (hl : fdOk l) (hlen : l.length ≤ 1000000000) : Sp (cx Tryz.prog mixed tyT_ok E) 39 [.agg [encFs l, dB b]] (i64 (schemaE l)) := by
  obtain ⟨r, hr⟩ : ∃ r, r = schemaE l := ⟨_, rfl⟩
  rw [← hr]
  unfold schemaE at hr
  by_cases hn : 100 < l.length
  · rw [if_pos hn] at hr
    refine Sp.body Tryz.func39 (by kernel_rfl) rfl (by kernel_rfl) (by kernel_rfl) (by kernel_rfl) ?_
    repeat' first
      | (refine facW_intro ?_; intro _)
      | refine Or.inl ?_
      | ((conv => whnf); first | (refine condW_dec ?_ ?_ <;> intro _ <;> try (exfalso; omega)) | refine condW_not ?_ | (refine condW_bool ?_ ?_ <;> intro _ <;> try (exfalso; omega)) | (refine nbC_t (fun _ => ?_) ?_) | (refine nbC_f ?_ (fun _ => ?_)))
      | refine And.intro (by first | omega | (simp only [Int.toNat_natCast] at *; omega) | (simp only [Nat.reduceAdd, Int.cast_ofNat_Int, true_and, and_true]; omega)  | kernel_rfl) ?_
      | refine RegW.run ?_
      | fail
    all_goals exact Dle.i (by rw [hr])
  · rw [if_neg hn] at hr
    refine Sp.body Tryz.func39 (by kernel_rfl) rfl (by kernel_rfl) (by kernel_rfl) (by kernel_rfl) ?_
    repeat' first
      | (refine facW_intro ?_; intro _)
      | refine Or.inl ?_
      | ((conv => whnf); first | (refine condW_dec ?_ ?_ <;> intro _ <;> try (exfalso; omega)) | refine condW_not ?_ | (refine condW_bool ?_ ?_ <;> intro _ <;> try (exfalso; omega)) | (refine nbC_t (fun _ => ?_) ?_) | (refine nbC_f ?_ (fun _ => ?_)))
      | refine And.intro (by first | omega | (simp only [Int.toNat_natCast] at *; omega) | (simp only [Nat.reduceAdd, Int.cast_ofNat_Int, true_and, and_true]; omega)  | kernel_rfl) ?_
      | refine RegW.run ?_
      | fail
    refine ⟨Nat, fun k => [(12, i64 k)], fun k => [], [1], fun k => [], fun k => k ≤ l.length ∧ r = schemaF l k, fun k => l.length - k, ⟨0, ⟨by omega, hr⟩, ⟨[], ⟨by kernel_rfl, by kernel_rfl, by kernel_rfl, by kernel_rfl, by kernel_rfl, by kernel_rfl, by kernel_rfl⟩, (by repeat' first | exact trivial | exact rfl | kernel_rfl | exact Dle.of_eq rfl | exact MLe.of_eq rfl | exact Dle.i (by omega) | exact Dle.i (by simp only [Int.toNat_natCast] at *; omega) | exact Dle.nil | exact Dle.rc Dle.nil | exact Option.some_ne_none _ | exact Or.inl rfl | exact Or.inr trivial | omega | (simp only [Int.toNat_natCast] at *; omega) | (intro _ _ _ _; exact Dle.of_eq rfl) | refine And.intro ?_ ?_)⟩⟩, fun k hk => ?_⟩
    obtain ⟨hk, hK⟩ := hk
    by_cases hlt : k < l.length
    · rw [schemaF_at hlt] at hK
      obtain ⟨g1, g2⟩ := hl _ (getD_mem l default k hlt)
      have h1 := refFieldFault_sp E hML l (k : Int) (by omega) hlt g1 g2
      rw [Int.toNat_natCast] at h1
      generalize fieldE (l.getD k default) (dupB l (l.getD k default).route k) = e at hK h1
      repeat' first
        | (refine facW_intro ?_; intro _)
        | refine Or.inl ?_
        | ((conv => whnf); first | (refine condW_dec ?_ ?_ <;> intro _ <;> try (exfalso; omega)) | refine condW_not ?_ | (refine condW_bool ?_ ?_ <;> intro _ <;> try (exfalso; omega)) | (refine nbC_t (fun _ => ?_) ?_) | (refine nbC_f ?_ (fun _ => ?_)))
        | refine And.intro (by first | omega | (simp only [Int.toNat_natCast] at *; omega) | (simp only [Nat.reduceAdd, Int.cast_ofNat_Int, true_and, and_true]; omega)  | kernel_rfl) ?_
        | refine RegW.run ?_
        | refine ⟨_, h1, ?_⟩
        | fail
      all_goals first
        | exact Dle.i (by rw [hK, if_neg (by assumption)])
        | exact ⟨k + 1, ⟨by omega, by rw [hK]; grind⟩, ⟨[], ⟨by kernel_rfl, by kernel_rfl, by kernel_rfl, by kernel_rfl, by kernel_rfl, by kernel_rfl, by kernel_rfl⟩, (by repeat' first | exact trivial | exact rfl | kernel_rfl | exact Dle.of_eq rfl | exact MLe.of_eq rfl | exact Dle.i (by omega) | exact Dle.i (by simp only [Int.toNat_natCast] at *; omega) | exact Dle.nil | exact Dle.rc Dle.nil | exact Option.some_ne_none _ | exact Or.inl rfl | exact Or.inr trivial | omega | (simp only [Int.toNat_natCast] at *; omega) | (intro _ _ _ _; exact Dle.of_eq rfl) | refine And.intro ?_ ?_)⟩, by first | omega | (dsimp only; omega)⟩
        | trace_state
    · repeat' first
        | (refine facW_intro ?_; intro _)
        | refine Or.inl ?_
        | ((conv => whnf); first | (refine condW_dec ?_ ?_ <;> intro _ <;> try (exfalso; omega)) | refine condW_not ?_ | (refine condW_bool ?_ ?_ <;> intro _ <;> try (exfalso; omega)) | (refine nbC_t (fun _ => ?_) ?_) | (refine nbC_f ?_ (fun _ => ?_)))
        | refine And.intro (by first | omega | (simp only [Int.toNat_natCast] at *; omega) | (simp only [Nat.reduceAdd, Int.cast_ofNat_Int, true_and, and_true]; omega)  | kernel_rfl) ?_
        | refine RegW.run ?_
        | fail
      exact Dle.i (by rw [hK, schemaF_end hlt])
end
end Go.Proofs.YtgdoelfajfjopaaGreatDoor
