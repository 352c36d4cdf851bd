/-
  conf.set. What Set answers; the program's Set and the reference's.
-/
import Derived.Test.YtjbgafbijamckaaGreatDoorSe1
import Derived.Test.YtjbgafbijamckaaGreatDoorSe6
namespace Go.Proofs.YtjbgafbijamckaaGreatDoor
open Go.RowKit
set_option linter.unusedVariables false
set_option linter.unusedSimpArgs false
namespace se
open cr
section
variable (E : Env)
set_option maxRecDepth 100000
theorem row_app (l : List Vu) (y : Vu) (n : Nat) (g : Nat → Nat → DD) (hn : n = l.length + 1) (hg : ∀ i j, i < n → j < 6 → g i j = if i < l.length then (l.getD i .zero).cell j else y.cell j) : Dle (cx Tryz.prog mixed tyT_ok E) (.sl 6 88 n g) (.rc (.vals (l ++ [y]))) :=
  Dle.rc (X := (cx Tryz.prog mixed tyT_ok E)) (Dle.sl (X := (cx Tryz.prog mixed tyT_ok E)) (by have e : (l ++ [y]).length = l.length + 1 := List.length_append; rw [hn]; exact e.symm) (fun i j hi hj => Dle.of_eq (by
    rw [hg i j hi hj]
    show _ = ((l ++ [y]).getD i .zero).cell j
    by_cases h : i < l.length
    · rw [if_pos h, List.getD_eq_getElem?_getD, List.getD_eq_getElem?_getD, List.getElem?_append_left h]
    · rw [if_neg h, List.getD_eq_getElem?_getD, List.getElem?_append_right (by omega), show i - l.length = 0 by omega]
      rfl)))
set_option maxHeartbeats 8000000 in
theorem set_sp : ∀ (L : List Stp) (v x : Vu), (∀ s ∈ L, s.ok) → faultE v = 0 → v.wt ≤ 100000000000 → Sp (cx Tryz.prog mixed tyT_ok E) 15 [encV v, encSteps L, encV x] (.tup [encV (setS L v x).1, i64 (setS L v x).2])
  | [], v, x, _, _, _ => by
    have hl0 : ([] : List Stp).length = 0 := rfl
    refine Sp.body Tryz.func15 (by kernel_rfl) rfl (by kernel_rfl) (by kernel_rfl) (by kernel_rfl) ?_
    repeat' first
      | (refine codeW_cond rfl ?_; first | (refine condW_dec ?_ ?_ <;> intro _ <;> try (exfalso; omega)) | refine condW_not ?_ | (refine condW_bool ?_ ?_ <;> intro _ <;> try (exfalso; omega)))
      | (refine facW_intro ?_; intro _)
      | refine Or.inl ?_
      | ((conv => whnf); first | (refine condW_dec ?_ ?_ <;> intro _ <;> try (exfalso; omega)) | refine condW_not ?_ | (refine condW_bool ?_ ?_ <;> intro _ <;> try (exfalso; omega)) | (refine nbC_t (fun _ => ?_) ?_) | (refine nbC_f ?_ (fun _ => ?_)))
      | refine And.intro (by first | omega | (simp only [Int.toNat_natCast] at *; omega) | (simp only [Nat.reduceAdd, Int.cast_ofNat_Int, true_and, and_true]; omega)  | (simp only [cx, view, Nat.reduceAdd, Int.toNat_natCast]; omega) | kernel_rfl) ?_
      | refine RegW.run ?_
      | fail
    all_goals first
      | (exfalso; rename_i h; exact h rfl)
      | exact Dle.refl _ _
      | trace_state
  | s :: t, v, x, hs, hf, hw => by
    have hs0 : s.ok := hs s List.mem_cons_self
    have hl0 : (s :: t).length = t.length + 1 := rfl
    have hkw := keys_le_wt v
    have hiw : v.items.length ≤ v.wt := by have := wtL_le_wt v; have := len_le_wtL v.items; omega
    have hby : v.items.length * (87 + 1) ≤ 140737488355328 := by omega
    have hsl : ∀ (n : Nat) (g : Nat → Nat → DD), n = t.length → (∀ i j, g i j = ((s :: t).getD (i + 1) default).cell j) → Dle (cx Tryz.prog mixed tyT_ok E) (.sl 3 32 n g) (encSteps t) := fun n g hn hg => Dle.sl (X := (cx Tryz.prog mixed tyT_ok E)) hn (fun i j _ _ => Dle.of_eq (hg i j))
    have hn2 : ((s :: t).length : Int).toNat - 1 = t.length := by
      show ((t.length + 1 : Nat) : Int).toNat - 1 = t.length
      omega
    by_cases h0 : v.kind = 0
    · have hz := fault_nil v hf h0
      subst hz
      have hz0 : Vu.zero.kind = 0 := rfl
      have hzi : Vu.zero.items.length = 0 := rfl
      have hu : asK Vu.zero (kindS s) = .mk (kindS s) false 0 ⟨#[]⟩ [] [] := by unfold asK; exact if_pos rfl
      have zk : ∀ k : Int, Dle (cx Tryz.prog mixed tyT_ok E) (.agg [i64 k, dB false, i64 0, dS ⟨#[]⟩, .v (.slice none 0 0), .v (.slice none 0 0)]) (encV (.mk k false 0 ⟨#[]⟩ [] [])) := fun k => Dle.agg (X := (cx Tryz.prog mixed tyT_ok E)) ⟨Dle.refl _ _, Dle.refl _ _, Dle.refl _ _, Dle.refl _ _, Dle.rc (X := (cx Tryz.prog mixed tyT_ok E)) (Dle.nil (X := (cx Tryz.prog mixed tyT_ok E))), Dle.nil (X := (cx Tryz.prog mixed tyT_ok E)), trivial⟩
      have hFn : followS (.mk (kindS s) false 0 ⟨#[]⟩ [] []) s = none := by
        unfold followS
        unfold Stp.ok at hs0
        by_cases hk : s.key = ⟨#[]⟩
        · rw [if_pos hk, if_neg (fun h => by have h2 : s.number < ((0 : Nat) : Int) := h.2; omega)]
        · rw [if_neg hk, if_neg (fun h => absurd (has_lt h.2) (Nat.not_lt_zero _))]
      have c0 := follow_sp E (.mk (kindS s) false 0 ⟨#[]⟩ [] []) s hs0 (fun _ => rfl) (Nat.zero_le _)
      rw [hFn] at c0
      have c1 := c0.args (ds := [.agg [i64 (kindS s), dB false, i64 0, dS ⟨#[]⟩, .v (.slice none 0 0), .v (.slice none 0 0)], encStep s]) ⟨zk _, Dle.refl _ _, trivial⟩
      have ih := set_sp t .zero x (fun q hq => hs q (List.mem_cons_of_mem _ hq)) (fault_empty 0 (.inl rfl)) (by decide)
      unfold setS
      rw [hu, hFn, if_neg (fun h => h rfl)]
      show Sp (cx Tryz.prog mixed tyT_ok E) _ _ (.tup [encV (if s.key = ⟨#[]⟩ ∧ ((0 : Nat) : Int) < s.number then (Vu.zero, (2 : Int)) else if (setS t .zero x).2 ≠ 0 then (.zero, (setS t .zero x).2) else (putAt (.mk (kindS s) false 0 ⟨#[]⟩ [] []) s (setS t .zero x).1, 0)).1, i64 (if s.key = ⟨#[]⟩ ∧ ((0 : Nat) : Int) < s.number then (Vu.zero, (2 : Int)) else if (setS t .zero x).2 ≠ 0 then (.zero, (setS t .zero x).2) else (putAt (.mk (kindS s) false 0 ⟨#[]⟩ [] []) s (setS t .zero x).1, 0)).2])
      generalize hR : setS t .zero x = R at ih ⊢
      obtain ⟨y, e⟩ := R
      unfold Stp.ok at hs0
      by_cases hk : s.key = ⟨#[]⟩
      · have hks : kindS s = 5 := by unfold kindS; rw [if_pos hk]
        rw [hks] at c1 ⊢
        by_cases hr : ((0 : Nat) : Int) < s.number
        · rw [if_pos ⟨hk, hr⟩]
          refine Sp.body Tryz.func15 (by kernel_rfl) rfl (by kernel_rfl) (by kernel_rfl) (by kernel_rfl) ?_
          have hn0 : 0 < ((s :: t).getD (Int.toNat 0) default).number := by show 0 < s.number; omega
          repeat' first
            | (refine codeW_cond rfl ?_; first | (refine condW_dec ?_ ?_ <;> intro _ <;> try (exfalso; first | omega | rename_i h; exact h hk)) | refine condW_not ?_ | (refine condW_bool ?_ ?_ <;> intro _ <;> try (exfalso; first | omega | rename_i h; exact h hk)))
            | (refine facW_intro ?_; intro _)
            | refine Or.inl ?_
            | ((conv => whnf); first | (refine condW_dec ?_ ?_ <;> intro _ <;> try (exfalso; first | omega | rename_i h; exact h hk)) | refine condW_not ?_ | (refine condW_bool ?_ ?_ <;> intro _ <;> try (exfalso; first | omega | rename_i h; exact h hk)) | (refine nbC_t (fun _ => ?_) ?_) | (refine nbC_f ?_ (fun _ => ?_)))
            | refine And.intro (by first | omega | (simp only [Int.toNat_natCast] at *; omega) | (simp only [Nat.reduceAdd, Int.cast_ofNat_Int, true_and, and_true]; omega)  | (simp only [cx, view, Nat.reduceAdd, Int.toNat_natCast]; omega) | kernel_rfl) ?_
            | refine RegW.run ?_
            | refine ⟨_, c1, ?_⟩
            | fail
          all_goals first
            | (exfalso; omega)
            | exact Dle.tup (X := (cx Tryz.prog mixed tyT_ok E)) ⟨zeroC E, Dle.refl _ _, trivial⟩
            | trace_state
        · rw [if_neg (fun h => hr h.2)]
          have hn0 : ((s :: t).getD (Int.toNat 0) default).number = 0 := by show s.number = 0; omega
          by_cases he : e = 0
          · subst he
            rw [if_neg (fun h => h rfl)]
            have hpa : putAt (.mk 5 false 0 ⟨#[]⟩ [] []) s y = .mk 5 false 0 ⟨#[]⟩ [y] [] := by
              unfold putAt
              rw [if_pos hk]
              have hq : s.number = ((Vu.mk 5 false 0 ⟨#[]⟩ [] []).items.length : Int) := by show s.number = ((0 : Nat) : Int); omega
              rw [if_pos hq]
              rfl
            rw [hpa]
            refine Sp.body Tryz.func15 (by kernel_rfl) rfl (by kernel_rfl) (by kernel_rfl) (by kernel_rfl) ?_
            repeat' first
              | (refine codeW_cond rfl ?_; first | (refine condW_dec ?_ ?_ <;> intro _ <;> try (exfalso; first | omega | rename_i h; exact h hk)) | refine condW_not ?_ | (refine condW_bool ?_ ?_ <;> intro _ <;> try (exfalso; first | omega | rename_i h; exact h hk)))
              | (refine facW_intro ?_; intro _)
              | refine Or.inl ?_
              | ((conv => whnf); first | (refine condW_dec ?_ ?_ <;> intro _ <;> try (exfalso; first | omega | rename_i h; exact h hk)) | refine condW_not ?_ | (refine condW_bool ?_ ?_ <;> intro _ <;> try (exfalso; first | omega | rename_i h; exact h hk)) | (refine nbC_t (fun _ => ?_) ?_) | (refine nbC_f ?_ (fun _ => ?_)))
              | refine And.intro (by first | omega | (simp only [Int.toNat_natCast] at *; omega) | (simp only [Nat.reduceAdd, Int.cast_ofNat_Int, true_and, and_true]; omega)  | (simp only [cx, view, Nat.reduceAdd, Int.toNat_natCast]; omega) | kernel_rfl) ?_
              | refine RegW.run ?_
              | refine ⟨_, c1, ?_⟩
              | refine ⟨_, ih.args ⟨Dle.refl _ _, hsl _ _ hn2 (fun _ _ => rfl), Dle.refl _ _, trivial⟩, ?_⟩
              | fail
            all_goals first
              | (exfalso; omega)
              | (refine Dle.tup (X := (cx Tryz.prog mixed tyT_ok E)) ⟨Dle.agg (X := (cx Tryz.prog mixed tyT_ok E)) ⟨Dle.refl _ _, Dle.refl _ _, Dle.refl _ _, Dle.refl _ _, row_app E [] y 1 _ rfl (fun i j hi hj => ?_), Dle.nil (X := (cx Tryz.prog mixed tyT_ok E)), trivial⟩, Dle.refl _ _, trivial⟩
                 show (if i < 0 then D.opq else ([i64 y.kind, dB y.b, i64 y.i, dS y.text, .rc (.vals y.items), encStrs y.keys] : List DD).getD ((i - 0) * 6 + j) .opq) = if i < 0 then _ else y.cell j
                 rw [if_neg (Nat.not_lt_zero _), if_neg (Nat.not_lt_zero _), show (i - 0) * 6 + j = j by rw [show i - 0 = 0 by omega]; omega, cell_of y j hj])
              | trace_state
          · rw [if_pos he]
            refine Sp.body Tryz.func15 (by kernel_rfl) rfl (by kernel_rfl) (by kernel_rfl) (by kernel_rfl) ?_
            repeat' first
              | (refine codeW_cond rfl ?_; first | (refine condW_dec ?_ ?_ <;> intro _ <;> try (exfalso; first | omega | rename_i h; exact h hk)) | refine condW_not ?_ | (refine condW_bool ?_ ?_ <;> intro _ <;> try (exfalso; first | omega | rename_i h; exact h hk)))
              | (refine facW_intro ?_; intro _)
              | refine Or.inl ?_
              | ((conv => whnf); first | (refine condW_dec ?_ ?_ <;> intro _ <;> try (exfalso; first | omega | rename_i h; exact h hk)) | refine condW_not ?_ | (refine condW_bool ?_ ?_ <;> intro _ <;> try (exfalso; first | omega | rename_i h; exact h hk)) | (refine nbC_t (fun _ => ?_) ?_) | (refine nbC_f ?_ (fun _ => ?_)))
              | refine And.intro (by first | omega | (simp only [Int.toNat_natCast] at *; omega) | (simp only [Nat.reduceAdd, Int.cast_ofNat_Int, true_and, and_true]; omega)  | (simp only [cx, view, Nat.reduceAdd, Int.toNat_natCast]; omega) | kernel_rfl) ?_
              | refine RegW.run ?_
              | refine ⟨_, c1, ?_⟩
              | refine ⟨_, ih.args ⟨Dle.refl _ _, hsl _ _ hn2 (fun _ _ => rfl), Dle.refl _ _, trivial⟩, ?_⟩
              | fail
            all_goals first
              | (exfalso; omega)
              | exact Dle.tup (X := (cx Tryz.prog mixed tyT_ok E)) ⟨zeroC E, Dle.refl _ _, trivial⟩
              | trace_state
      · have hks : kindS s = 6 := by unfold kindS; rw [if_neg hk]
        rw [hks] at c1 ⊢
        rw [if_neg (fun h => hk h.1)]
        by_cases he : e = 0
        · subst he
          rw [if_neg (fun h => h rfl)]
          have hp0 := put_sp E (.mk 6 false 0 ⟨#[]⟩ [] []) s.key y (Nat.zero_le _) rfl
          have hp := hp0.args (ds := [.agg [i64 6, dB false, i64 0, dS ⟨#[]⟩, .v (.slice none 0 0), .v (.slice none 0 0)], dS s.key, encV y]) ⟨zk 6, Dle.refl _ _, Dle.refl _ _, trivial⟩
          have hpa : putAt (.mk 6 false 0 ⟨#[]⟩ [] []) s y = putK (.mk 6 false 0 ⟨#[]⟩ [] []) s.key y := by unfold putAt; rw [if_neg hk]
          rw [hpa]
          refine Sp.body Tryz.func15 (by kernel_rfl) rfl (by kernel_rfl) (by kernel_rfl) (by kernel_rfl) ?_
          repeat' first
            | (refine codeW_cond rfl ?_; first | (refine condW_dec ?_ ?_ <;> intro _ <;> try (exfalso; first | omega | rename_i h; exact hk h)) | refine condW_not ?_ | (refine condW_bool ?_ ?_ <;> intro _ <;> try (exfalso; first | omega | rename_i h; exact hk h)))
            | (refine facW_intro ?_; intro _)
            | refine Or.inl ?_
            | ((conv => whnf); first | (refine condW_dec ?_ ?_ <;> intro _ <;> try (exfalso; first | omega | rename_i h; exact hk h)) | refine condW_not ?_ | (refine condW_bool ?_ ?_ <;> intro _ <;> try (exfalso; first | omega | rename_i h; exact hk h)) | (refine nbC_t (fun _ => ?_) ?_) | (refine nbC_f ?_ (fun _ => ?_)))
            | refine And.intro (by first | omega | (simp only [Int.toNat_natCast] at *; omega) | (simp only [Nat.reduceAdd, Int.cast_ofNat_Int, true_and, and_true]; omega)  | (simp only [cx, view, Nat.reduceAdd, Int.toNat_natCast]; omega) | kernel_rfl) ?_
            | refine RegW.run ?_
            | refine ⟨_, c1, ?_⟩
            | refine ⟨_, ih.args ⟨Dle.refl _ _, hsl _ _ hn2 (fun _ _ => rfl), Dle.refl _ _, trivial⟩, ?_⟩
            | refine ⟨_, hp, ?_⟩
            | fail
          all_goals first
            | (exfalso; omega)
            | exact Dle.refl _ _
            | trace_state
        · rw [if_pos he]
          refine Sp.body Tryz.func15 (by kernel_rfl) rfl (by kernel_rfl) (by kernel_rfl) (by kernel_rfl) ?_
          repeat' first
            | (refine codeW_cond rfl ?_; first | (refine condW_dec ?_ ?_ <;> intro _ <;> try (exfalso; first | omega | rename_i h; exact hk h)) | refine condW_not ?_ | (refine condW_bool ?_ ?_ <;> intro _ <;> try (exfalso; first | omega | rename_i h; exact hk h)))
            | (refine facW_intro ?_; intro _)
            | refine Or.inl ?_
            | ((conv => whnf); first | (refine condW_dec ?_ ?_ <;> intro _ <;> try (exfalso; first | omega | rename_i h; exact hk h)) | refine condW_not ?_ | (refine condW_bool ?_ ?_ <;> intro _ <;> try (exfalso; first | omega | rename_i h; exact hk h)) | (refine nbC_t (fun _ => ?_) ?_) | (refine nbC_f ?_ (fun _ => ?_)))
            | refine And.intro (by first | omega | (simp only [Int.toNat_natCast] at *; omega) | (simp only [Nat.reduceAdd, Int.cast_ofNat_Int, true_and, and_true]; omega)  | (simp only [cx, view, Nat.reduceAdd, Int.toNat_natCast]; omega) | kernel_rfl) ?_
            | refine RegW.run ?_
            | refine ⟨_, c1, ?_⟩
            | refine ⟨_, ih.args ⟨Dle.refl _ _, hsl _ _ hn2 (fun _ _ => rfl), Dle.refl _ _, trivial⟩, ?_⟩
            | fail
          all_goals first
            | (exfalso; omega)
            | exact Dle.tup (X := (cx Tryz.prog mixed tyT_ok E)) ⟨zeroC E, Dle.refl _ _, trivial⟩
            | trace_state
    · have hA : asK v (kindS s) = v := by unfold asK; rw [if_neg h0]
      unfold setS
      rw [hA]
      by_cases hkd : v.kind = kindS s
      · have c1 := follow_sp E v s hs0 (fault_keys hf).2 (by omega)
        have hold : faultE ((followS v s).getD .zero) = 0 ∧ ((followS v s).getD .zero).wt ≤ 100000000000 := by
          cases hF : followS v s with
          | none => exact ⟨fault_empty 0 (.inl rfl), by decide⟩
          | some y =>
            obtain ⟨hfx, hwx⟩ := follow_mem hs0 hf hF
            exact ⟨hfx, by show y.wt ≤ _; omega⟩
        rw [if_neg (fun h => h hkd)]
        have ih := set_sp t ((followS v s).getD .zero) x (fun q hq => hs q (List.mem_cons_of_mem _ hq)) hold.1 hold.2
        generalize (followS v s).getD .zero = old at c1 ih ⊢
        generalize (followS v s).isSome = isS at c1
        generalize hR : setS t old x = R at ih ⊢
        obtain ⟨y, e⟩ := R
        unfold Stp.ok at hs0
        by_cases hk : s.key = ⟨#[]⟩
        · have h5 : v.kind = 5 := by unfold kindS at hkd; rw [if_pos hk] at hkd; exact hkd
          have hnz : ((s :: t).getD (Int.toNat 0) default).number = s.number := rfl
          by_cases hr : (v.items.length : Int) < s.number
          · rw [if_pos ⟨hk, hr⟩]
            refine Sp.body Tryz.func15 (by kernel_rfl) rfl (by kernel_rfl) (by kernel_rfl) (by kernel_rfl) ?_
            repeat' first
              | (refine codeW_cond rfl ?_; first | (refine condW_dec ?_ ?_ <;> intro _ <;> try (exfalso; first | omega | rename_i h; exact h hk)) | refine condW_not ?_ | (refine condW_bool ?_ ?_ <;> intro _ <;> try (exfalso; first | omega | rename_i h; exact h hk)))
              | (refine facW_intro ?_; intro _)
              | refine Or.inl ?_
              | ((conv => whnf); first | (refine condW_dec ?_ ?_ <;> intro _ <;> try (exfalso; first | omega | rename_i h; exact h hk)) | refine condW_not ?_ | (refine condW_bool ?_ ?_ <;> intro _ <;> try (exfalso; first | omega | rename_i h; exact h hk)) | (refine nbC_t (fun _ => ?_) ?_) | (refine nbC_f ?_ (fun _ => ?_)))
              | refine And.intro (by first | omega | (simp only [Int.toNat_natCast] at *; omega) | (simp only [Nat.reduceAdd, Int.cast_ofNat_Int, true_and, and_true]; omega)  | (simp only [cx, view, Nat.reduceAdd, Int.toNat_natCast]; omega) | kernel_rfl) ?_
              | refine RegW.run ?_
              | fail
            all_goals first
              | (exfalso; omega)
              | exact Dle.tup (X := (cx Tryz.prog mixed tyT_ok E)) ⟨zeroC E, Dle.refl _ _, trivial⟩
              | trace_state
          · rw [if_neg (fun h => hr h.2)]
            by_cases he : e = 0
            · subst he
              rw [if_neg (fun h => h rfl)]
              have hpa : putAt v s y = .mk 5 false 0 ⟨#[]⟩ (if s.number = (v.items.length : Int) then v.items ++ [y] else v.items.set s.number.toNat y) [] := by unfold putAt; rw [if_pos hk]
              show Sp (cx Tryz.prog mixed tyT_ok E) _ _ (.tup [encV (putAt v s y), i64 0])
              rw [hpa]
              by_cases hq : s.number = (v.items.length : Int)
              · rw [if_pos hq]
                refine Sp.body Tryz.func15 (by kernel_rfl) rfl (by kernel_rfl) (by kernel_rfl) (by kernel_rfl) ?_
                repeat' first
                  | (refine codeW_cond rfl ?_; first | (refine condW_dec ?_ ?_ <;> intro _ <;> try (exfalso; first | omega | (rename_i h; exact h hk) | (rename_i h; exact h hq))) | refine condW_not ?_ | (refine condW_bool ?_ ?_ <;> intro _ <;> try (exfalso; first | omega | (rename_i h; exact h hk) | (rename_i h; exact h hq))))
                  | (refine facW_intro ?_; intro _)
                  | refine Or.inl ?_
                  | ((conv => whnf); first | (refine condW_dec ?_ ?_ <;> intro _ <;> try (exfalso; first | omega | (rename_i h; exact h hk) | (rename_i h; exact h hq))) | refine condW_not ?_ | (refine condW_bool ?_ ?_ <;> intro _ <;> try (exfalso; first | omega | (rename_i h; exact h hk) | (rename_i h; exact h hq))) | (refine nbC_t (fun _ => ?_) ?_) | (refine nbC_f ?_ (fun _ => ?_)))
                  | refine And.intro (by first | omega | (simp only [Int.toNat_natCast] at *; omega) | (simp only [Nat.reduceAdd, Int.cast_ofNat_Int, true_and, and_true]; omega)  | (simp only [cx, view, Nat.reduceAdd, Int.toNat_natCast]; omega) | kernel_rfl) ?_
                  | refine RegW.run ?_
                  | refine ⟨_, c1, ?_⟩
                  | refine ⟨_, ih.args ⟨Dle.refl _ _, hsl _ _ hn2 (fun _ _ => rfl), Dle.refl _ _, trivial⟩, ?_⟩
                  | fail
                all_goals first
                  | (exfalso; omega)
                  | (refine Dle.tup (X := (cx Tryz.prog mixed tyT_ok E)) ⟨Dle.agg (X := (cx Tryz.prog mixed tyT_ok E)) ⟨Dle.refl _ _, Dle.refl _ _, Dle.refl _ _, Dle.refl _ _, row_app E v.items y _ _ rfl (fun i j hi hj => ?_), Dle.nil (X := (cx Tryz.prog mixed tyT_ok E)), trivial⟩, Dle.refl _ _, trivial⟩
                     show (if i < v.items.length then (v.items.getD i .zero).cell j else ([i64 y.kind, dB y.b, i64 y.i, dS y.text, .rc (.vals y.items), encStrs y.keys] : List DD).getD ((i - v.items.length) * 6 + j) .opq) = _
                     by_cases h2 : i < v.items.length
                     · rw [if_pos h2, if_pos h2]
                     · rw [if_neg h2, if_neg h2, show (i - v.items.length) * 6 + j = j by rw [show i - v.items.length = 0 by omega]; omega, cell_of y j hj])
                  | trace_state
              · rw [if_neg hq]
                refine Sp.body Tryz.func15 (by kernel_rfl) rfl (by kernel_rfl) (by kernel_rfl) (by kernel_rfl) ?_
                have hn0 : 0 ≤ ((s :: t).getD (Int.toNat 0) default).number := hs0
                have hn1 : ((s :: t).getD (Int.toNat 0) default).number < (v.items.length : Int) := by show s.number < _; omega
                have hm2 : s.number.toNat < v.items.length := by omega
                repeat' first
                  | (refine codeW_cond rfl ?_; first | (refine condW_dec ?_ ?_ <;> intro _ <;> try (exfalso; first | omega | (rename_i h; exact h hk) | (rename_i h; exact hq h))) | refine condW_not ?_ | (refine condW_bool ?_ ?_ <;> intro _ <;> try (exfalso; first | omega | (rename_i h; exact h hk) | (rename_i h; exact hq h))))
                  | (refine facW_intro ?_; intro _)
                  | refine Or.inl ?_
                  | ((conv => whnf); first | (refine condW_dec ?_ ?_ <;> intro _ <;> try (exfalso; first | omega | (rename_i h; exact h hk) | (rename_i h; exact hq h))) | refine condW_not ?_ | (refine condW_bool ?_ ?_ <;> intro _ <;> try (exfalso; first | omega | (rename_i h; exact h hk) | (rename_i h; exact hq h))) | (refine nbC_t (fun _ => ?_) ?_) | (refine nbC_f ?_ (fun _ => ?_)))
                  | refine And.intro (by first | omega | (simp only [Int.toNat_natCast] at *; omega) | (simp only [Nat.reduceAdd, Int.cast_ofNat_Int, true_and, and_true]; omega)  | (simp only [cx, view, Nat.reduceAdd, Int.toNat_natCast]; omega) | kernel_rfl) ?_
                  | refine RegW.run ?_
                  | refine ⟨_, c1, ?_⟩
                  | refine ⟨_, ih.args ⟨Dle.refl _ _, hsl _ _ hn2 (fun _ _ => rfl), Dle.refl _ _, trivial⟩, ?_⟩
                  | fail
                all_goals first
                  | (exfalso; omega)
                  | (refine Dle.tup (X := (cx Tryz.prog mixed tyT_ok E)) ⟨Dle.agg (X := (cx Tryz.prog mixed tyT_ok E)) ⟨Dle.refl _ _, Dle.refl _ _, Dle.refl _ _, Dle.refl _ _, row_set E v.items y s.number.toNat _ _ hm2 rfl (fun i j hi hj => ?_), Dle.nil (X := (cx Tryz.prog mixed tyT_ok E)), trivial⟩, Dle.refl _ _, trivial⟩
                     show rowSet (fun i j => (v.items.getD i .zero).cell j) (0 + s.number.toNat) 0 [i64 y.kind, dB y.b, i64 y.i, dS y.text, .rc (.vals y.items), encStrs y.keys] i j = _
                     rw [set_cell _ _ _ _ _ hj, show 0 + s.number.toNat = s.number.toNat by omega])
                  | trace_state
            · rw [if_pos he]
              refine Sp.body Tryz.func15 (by kernel_rfl) rfl (by kernel_rfl) (by kernel_rfl) (by kernel_rfl) ?_
              repeat' first
                | (refine codeW_cond rfl ?_; first | (refine condW_dec ?_ ?_ <;> intro _ <;> try (exfalso; first | omega | rename_i h; exact h hk)) | refine condW_not ?_ | (refine condW_bool ?_ ?_ <;> intro _ <;> try (exfalso; first | omega | rename_i h; exact h hk)))
                | (refine facW_intro ?_; intro _)
                | refine Or.inl ?_
                | ((conv => whnf); first | (refine condW_dec ?_ ?_ <;> intro _ <;> try (exfalso; first | omega | rename_i h; exact h hk)) | refine condW_not ?_ | (refine condW_bool ?_ ?_ <;> intro _ <;> try (exfalso; first | omega | rename_i h; exact h hk)) | (refine nbC_t (fun _ => ?_) ?_) | (refine nbC_f ?_ (fun _ => ?_)))
                | refine And.intro (by first | omega | (simp only [Int.toNat_natCast] at *; omega) | (simp only [Nat.reduceAdd, Int.cast_ofNat_Int, true_and, and_true]; omega)  | (simp only [cx, view, Nat.reduceAdd, Int.toNat_natCast]; omega) | kernel_rfl) ?_
                | refine RegW.run ?_
                | refine ⟨_, c1, ?_⟩
                | refine ⟨_, ih.args ⟨Dle.refl _ _, hsl _ _ hn2 (fun _ _ => rfl), Dle.refl _ _, trivial⟩, ?_⟩
                | fail
              all_goals first
                | (exfalso; omega)
                | exact Dle.tup (X := (cx Tryz.prog mixed tyT_ok E)) ⟨zeroC E, Dle.refl _ _, trivial⟩
                | trace_state
        · have h6 : v.kind = 6 := by unfold kindS at hkd; rw [if_neg hk] at hkd; exact hkd
          rw [if_neg (fun h => hk h.1)]
          by_cases he : e = 0
          · subst he
            rw [if_neg (fun h => h rfl)]
            have hp := put_sp E v s.key y (by omega) ((fault_keys hf).2 h6)
            have hpa : putAt v s y = putK v s.key y := by unfold putAt; rw [if_neg hk]
            show Sp (cx Tryz.prog mixed tyT_ok E) _ _ (.tup [encV (putAt v s y), i64 0])
            rw [hpa]
            refine Sp.body Tryz.func15 (by kernel_rfl) rfl (by kernel_rfl) (by kernel_rfl) (by kernel_rfl) ?_
            repeat' first
              | (refine codeW_cond rfl ?_; first | (refine condW_dec ?_ ?_ <;> intro _ <;> try (exfalso; first | omega | rename_i h; exact hk h)) | refine condW_not ?_ | (refine condW_bool ?_ ?_ <;> intro _ <;> try (exfalso; first | omega | rename_i h; exact hk h)))
              | (refine facW_intro ?_; intro _)
              | refine Or.inl ?_
              | ((conv => whnf); first | (refine condW_dec ?_ ?_ <;> intro _ <;> try (exfalso; first | omega | rename_i h; exact hk h)) | refine condW_not ?_ | (refine condW_bool ?_ ?_ <;> intro _ <;> try (exfalso; first | omega | rename_i h; exact hk h)) | (refine nbC_t (fun _ => ?_) ?_) | (refine nbC_f ?_ (fun _ => ?_)))
              | refine And.intro (by first | omega | (simp only [Int.toNat_natCast] at *; omega) | (simp only [Nat.reduceAdd, Int.cast_ofNat_Int, true_and, and_true]; omega)  | (simp only [cx, view, Nat.reduceAdd, Int.toNat_natCast]; omega) | kernel_rfl) ?_
              | refine RegW.run ?_
              | refine ⟨_, c1, ?_⟩
              | refine ⟨_, ih.args ⟨Dle.refl _ _, hsl _ _ hn2 (fun _ _ => rfl), Dle.refl _ _, trivial⟩, ?_⟩
              | refine ⟨_, hp, ?_⟩
              | fail
            all_goals first
              | (exfalso; omega)
              | exact Dle.refl _ _
              | trace_state
          · rw [if_pos he]
            refine Sp.body Tryz.func15 (by kernel_rfl) rfl (by kernel_rfl) (by kernel_rfl) (by kernel_rfl) ?_
            repeat' first
              | (refine codeW_cond rfl ?_; first | (refine condW_dec ?_ ?_ <;> intro _ <;> try (exfalso; first | omega | rename_i h; exact hk h)) | refine condW_not ?_ | (refine condW_bool ?_ ?_ <;> intro _ <;> try (exfalso; first | omega | rename_i h; exact hk h)))
              | (refine facW_intro ?_; intro _)
              | refine Or.inl ?_
              | ((conv => whnf); first | (refine condW_dec ?_ ?_ <;> intro _ <;> try (exfalso; first | omega | rename_i h; exact hk h)) | refine condW_not ?_ | (refine condW_bool ?_ ?_ <;> intro _ <;> try (exfalso; first | omega | rename_i h; exact hk h)) | (refine nbC_t (fun _ => ?_) ?_) | (refine nbC_f ?_ (fun _ => ?_)))
              | refine And.intro (by first | omega | (simp only [Int.toNat_natCast] at *; omega) | (simp only [Nat.reduceAdd, Int.cast_ofNat_Int, true_and, and_true]; omega)  | (simp only [cx, view, Nat.reduceAdd, Int.toNat_natCast]; omega) | kernel_rfl) ?_
              | refine RegW.run ?_
              | refine ⟨_, c1, ?_⟩
              | refine ⟨_, ih.args ⟨Dle.refl _ _, hsl _ _ hn2 (fun _ _ => rfl), Dle.refl _ _, trivial⟩, ?_⟩
              | fail
            all_goals first
              | (exfalso; omega)
              | exact Dle.tup (X := (cx Tryz.prog mixed tyT_ok E)) ⟨zeroC E, Dle.refl _ _, trivial⟩
              | trace_state
      · rw [if_pos hkd]
        unfold Stp.ok at hs0
        by_cases hk : s.key = ⟨#[]⟩
        · have h5 : v.kind ≠ 5 := fun h => hkd (by unfold kindS; rw [if_pos hk]; exact h)
          refine Sp.body Tryz.func15 (by kernel_rfl) rfl (by kernel_rfl) (by kernel_rfl) (by kernel_rfl) ?_
          repeat' first
            | (refine codeW_cond rfl ?_; first | (refine condW_dec ?_ ?_ <;> intro _ <;> try (exfalso; first | omega | rename_i h; exact h hk)) | refine condW_not ?_ | (refine condW_bool ?_ ?_ <;> intro _ <;> try (exfalso; first | omega | rename_i h; exact h hk)))
            | (refine facW_intro ?_; intro _)
            | refine Or.inl ?_
            | ((conv => whnf); first | (refine condW_dec ?_ ?_ <;> intro _ <;> try (exfalso; first | omega | rename_i h; exact h hk)) | refine condW_not ?_ | (refine condW_bool ?_ ?_ <;> intro _ <;> try (exfalso; first | omega | rename_i h; exact h hk)) | (refine nbC_t (fun _ => ?_) ?_) | (refine nbC_f ?_ (fun _ => ?_)))
            | refine And.intro (by first | omega | (simp only [Int.toNat_natCast] at *; omega) | (simp only [Nat.reduceAdd, Int.cast_ofNat_Int, true_and, and_true]; omega)  | (simp only [cx, view, Nat.reduceAdd, Int.toNat_natCast]; omega) | kernel_rfl) ?_
            | refine RegW.run ?_
            | fail
          all_goals first
            | (exfalso; omega)
            | (exfalso; rename_i h; exact h hk)
            | exact Dle.tup (X := (cx Tryz.prog mixed tyT_ok E)) ⟨zeroC E, Dle.refl _ _, trivial⟩
            | trace_state
        · have h6 : v.kind ≠ 6 := fun h => hkd (by unfold kindS; rw [if_neg hk]; exact h)
          refine Sp.body Tryz.func15 (by kernel_rfl) rfl (by kernel_rfl) (by kernel_rfl) (by kernel_rfl) ?_
          repeat' first
            | (refine codeW_cond rfl ?_; first | (refine condW_dec ?_ ?_ <;> intro _ <;> try (exfalso; first | omega | rename_i h; exact hk h)) | refine condW_not ?_ | (refine condW_bool ?_ ?_ <;> intro _ <;> try (exfalso; first | omega | rename_i h; exact hk h)))
            | (refine facW_intro ?_; intro _)
            | refine Or.inl ?_
            | ((conv => whnf); first | (refine condW_dec ?_ ?_ <;> intro _ <;> try (exfalso; first | omega | rename_i h; exact hk h)) | refine condW_not ?_ | (refine condW_bool ?_ ?_ <;> intro _ <;> try (exfalso; first | omega | rename_i h; exact hk h)) | (refine nbC_t (fun _ => ?_) ?_) | (refine nbC_f ?_ (fun _ => ?_)))
            | refine And.intro (by first | omega | (simp only [Int.toNat_natCast] at *; omega) | (simp only [Nat.reduceAdd, Int.cast_ofNat_Int, true_and, and_true]; omega)  | (simp only [cx, view, Nat.reduceAdd, Int.toNat_natCast]; omega) | kernel_rfl) ?_
            | refine RegW.run ?_
            | fail
          all_goals first
            | (exfalso; omega)
            | (exfalso; rename_i h; exact hk h)
            | exact Dle.tup (X := (cx Tryz.prog mixed tyT_ok E)) ⟨zeroC E, Dle.refl _ _, trivial⟩
            | trace_state
end
end se
end Go.Proofs.YtjbgafbijamckaaGreatDoor
namespace Go.Proofs.YtjbgafbijamckaaGreatDoor
open Go.RowKit
set_option linter.unusedVariables false
set_option linter.unusedSimpArgs false
namespace se
open cr
/-- What Set answers. -/
def setR (v : Vu) (s : ByteArray) (x : Vu) : Vu × Int :=
  if checkE v ≠ 0 then (.zero, checkE v) else if checkE x ≠ 0 then (.zero, checkE x) else if routeOk false s = false then (.zero, 3)
  else if (setS ((partsR s).map stepOf) v x).2 ≠ 0 then (.zero, (setS ((partsR s).map stepOf) v x).2)
  else if checkE (setS ((partsR s).map stepOf) v x).1 ≠ 0 then (.zero, checkE (setS ((partsR s).map stepOf) v x).1)
  else ((setS ((partsR s).map stepOf) v x).1, 0)
/-- The weight that a route's steps may add. -/
theorem stW_le (P : List ByteArray) (h : ∀ p ∈ P, partOk false p = true) : stW (P.map stepOf) ≤ P.length * 42 := by
  induction P with
  | nil => exact Nat.le_refl _
  | cons p t ih =>
    have ih := ih (fun q hq => h q (List.mem_cons_of_mem _ hq))
    have h0 := h p List.mem_cons_self
    have hk : (stepOf p).key.size ≤ 40 := by
      rcases (part_cases h0).2 with ⟨h1, _⟩ | ⟨h1, h2, _⟩
      · have e : stepOf p = ⟨p, 0, false⟩ := by unfold stepOf; rw [if_pos h1]
        rw [e]
        unfold keyOkB at h1
        simp only [Bool.and_eq_true, decide_eq_true_eq] at h1
        exact h1.1.1.2
      · rw [step_idx h1 h2]
        exact Nat.zero_le _
    unfold stW at ih ⊢
    simp only [List.map_cons, List.sum_cons, List.length_cons]
    omega
theorem route_W {s : ByteArray} (h : routeOk false s = true) : stW ((partsR s).map stepOf) ≤ 20000 := by
  have h1 := stW_le (partsR s) (parts_ok h)
  have h2 : (partsR s).length ≤ 401 := by
    have hs : ¬ (400 : Int) < s.size := fun h2 => by rw [routeOk_long h2] at h; cases h
    by_cases h0 : s = ⟨#[]⟩
    · rw [(routeOk_nil (stars := false) h0).2]
      exact Nat.zero_le _
    · rw [(routeOk_all (stars := false) hs h0).2]
      have := pcs_len_le s
      omega
  omega
theorem setR_wt (v : Vu) (s : ByteArray) (x : Vu) : (setR v s x).1.wt ≤ v.wt + x.wt + 20000 := by
  have hz := zero_wt
  unfold setR
  split
  · show (Vu.zero).wt ≤ _; omega
  · split
    · show (Vu.zero).wt ≤ _; omega
    · split
      · show (Vu.zero).wt ≤ _; omega
      · rename_i h
        split
        · show (Vu.zero).wt ≤ _; omega
        · split
          · show (Vu.zero).wt ≤ _; omega
          · have h1 := route_W (s := s) (by simpa using h)
            have h2 := setS_wt ((partsR s).map stepOf) v x (steps_ok _)
            show (setS _ _ _).1.wt ≤ _
            omega
section
variable (E : Env)
set_option maxRecDepth 100000
end
end se
end Go.Proofs.YtjbgafbijamckaaGreatDoor
