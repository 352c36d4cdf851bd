/-
  Texts of rules: the reference's side; the whole; the law.
-/
import Derived.Test.YtagggnjcpjodjaaDoorZ4
namespace Go.Proofs.YtagggnjcpjodjaaDoor
open Go.RowKit
set_option linter.unusedVariables false
set_option linter.unusedSimpArgs false
namespace rule
section
variable (E : Env)
set_option maxRecDepth 100000
set_option maxHeartbeats 4000000 in
theorem kidsText2_sp (t : Ts) (sep : ByteArray) (br : Bool) (hbr : br = !decide (t.op = 3)) (hs : sep.size = 3) (hok : okT t) (ih : ∀ x ∈ t.kids, Sp (cx Tryd.prog mixed tyT_ok E) 51 [encT x] (dS (txt x))) : Sp (cx Tryd.prog mixed tyT_ok E) 62 [dS sep, dB br, refT t] (dS (joinS (t.kids.map (txtK t.op)) sep)) := by
  have hj0 := join_kids (t := t) hs hok.1 hok.2.1
  have hcn := hok.2.2
  rw [tcnt_eq] at hcn
  have hkl : t.kids.length ≤ tcntL t.kids := by
    have : ∀ l : List Ts, l.length ≤ tcntL l := fun l => by
      induction l with
      | nil => simp
      | cons a l ih => have := tcnt_eq a; simp only [List.length_cons, tcntL]; omega
    exact this _
  have hj := join_sp E (t.kids.map (txtK t.op)) sep (by rw [List.length_map]; omega) (by omega)
  rw [← txs_all] at hj ⊢
  have hbr2 : br = true ↔ ¬ t.op = 3 := by rw [hbr]; simp
  have hz : (txs t.op t.kids 0).length = 0 := rfl
  refine Sp.body Tryd.func62 (by kernel_rfl) rfl (by kernel_rfl) (by kernel_rfl) (by kernel_rfl) ?_
  repeat' first
    | (refine facW_intro ?_; intro _)
    | refine Or.inl ?_
    | ((conv => whnf); first | (refine condW_dec ?_ ?_ <;> intro _ <;> try (exfalso; omega)) | refine condW_not ?_ | (refine condW_bool ?_ ?_ <;> intro _ <;> try (exfalso; omega)) | (refine nbC_t (fun _ => ?_) ?_) | (refine nbC_f ?_ (fun _ => ?_)))
    | refine And.intro (by first | omega | (simp only [Int.toNat_natCast] at *; omega) | (simp only [Nat.reduceAdd, Int.cast_ofNat_Int, true_and, and_true]; omega) | kernel_rfl) ?_
    | refine RegW.run ?_
    | fail
  refine ⟨Nat, fun k => [(13, i64 k), (6, .own 13 1 0 (txs t.op t.kids k).length)], fun k => [], [], fun k => [(13, 9, (txs t.op t.kids k).length, rowS (txs t.op t.kids k))], fun k => k ≤ t.kids.length, fun k => t.kids.length - k, ⟨0, by omega, ⟨[(13, none)], ⟨by kernel_rfl, by kernel_rfl, by kernel_rfl, by kernel_rfl, by kernel_rfl, by kernel_rfl, by kernel_rfl⟩, (by repeat' first | exact trivial | exact rfl | kernel_rfl | exact Dle.of_eq rfl | exact MLe.of_eq rfl | exact Dle.i (by omega) | exact Dle.i (by simp only [Int.toNat_natCast] at *; omega) | exact Dle.nil | exact Dle.rc Dle.nil | exact Option.some_ne_none _ | exact Or.inl rfl | exact Or.inr trivial | omega | (simp only [Int.toNat_natCast] at *; omega) | (intro _ _ _ _; exact Dle.of_eq rfl) | refine And.intro ?_ ?_)⟩⟩, fun k hk => ?_⟩
  have hk : k ≤ t.kids.length := hk
  by_cases hlt : k < t.kids.length
  · have hm := getD_mem t.kids .zero k hlt
    have hc := ih _ hm
    have hok2 := okT_kid hok hm
    have hsz := txt_size _ (t.kids.getD k .zero) (Nat.lt_succ_self _) hok2.1 hok2.2.1
    have hcn2 := hok2.2.2
    have hln := txs_len t.op t.kids k hk
    have c1 : (⟨#[40]⟩ : ByteArray).size = 1 := rfl
    have c2 : (⟨#[41]⟩ : ByteArray).size = 1 := rfl
    have c3 : (⟨#[40]⟩ ++ txt (t.kids.getD k .zero)).size = 1 + (txt (t.kids.getD k .zero)).size := by rw [ByteArray.size_append]; rfl
    have e1 := txs_next (o := t.op) hlt
    have e3 := (congrArg List.length e1).symm
    have e4 : txtK t.op (t.kids.getD k .zero) = par (decide ((t.kids.getD k .zero).op = 3) && !decide (t.op = 3)) (txt (t.kids.getD k .zero)) := rfl
    by_cases hp : (t.kids.getD k .zero).op = 3 ∧ ¬ t.op = 3
    · rw [decide_eq_true hp.1, decide_eq_false hp.2] at e4
      rw [show (true && !false) = true from rfl, par_yes] at e4
      rw [e4] at e1 e3
      have hp1 : (t.kids.getD ((k : Int)).toNat .zero).op = 3 := hp.1
      obtain rfl : br = true := hbr2.2 hp.2
      generalize txt (t.kids.getD k .zero) = s at hc hsz c3 e1 e3
      repeat' first
        | (refine facW_intro ?_; intro _)
        | refine Or.inl ?_
        | ((conv => whnf); first | (refine condW_dec ?_ ?_ <;> intro _ <;> try (exfalso; omega)) | refine condW_not ?_ | (refine condW_bool ?_ ?_ <;> intro _ <;> try (exfalso; omega)) | (refine nbC_t (fun _ => ?_) ?_) | (refine nbC_f ?_ (fun _ => ?_)))
        | refine And.intro (by first | omega | (simp only [Int.toNat_natCast] at *; omega) | (simp only [Nat.reduceAdd, Int.cast_ofNat_Int, true_and, and_true]; omega) | kernel_rfl) ?_
        | refine RegW.run ?_
        | refine ⟨_, hc, ?_⟩
        | fail
      all_goals first
        | (exfalso; rename_i h; exact h hp1)
        | exact ⟨k + 1, by omega, ⟨[(13, some 31)], ⟨by kernel_rfl, by kernel_rfl, by kernel_rfl, by kernel_rfl, by kernel_rfl, by kernel_rfl, by kernel_rfl⟩, (by repeat' first | ((first | exact e3 | (rw [List.length_append] at e3; exact e3))) | exact trivial | exact rfl | kernel_rfl | exact Dle.of_eq rfl | exact MLe.of_eq rfl | exact Dle.i (by omega) | exact Dle.i (by simp only [Int.toNat_natCast] at *; omega) | exact Dle.nil | exact Dle.rc Dle.nil | exact Option.some_ne_none _ | exact Or.inl rfl | exact Or.inr trivial | omega | (simp only [Int.toNat_natCast] at *; omega) | (intro _ _ _ _; exact Dle.of_eq rfl) | (intro i j hi hj; (rw [e1]; exact row_strA E _ _ i j hi hj)) | refine And.intro ?_ ?_)⟩, by first | omega | (dsimp only; omega)⟩
        | trace_state
    · rw [show (decide ((t.kids.getD k .zero).op = 3) && !decide (t.op = 3)) = false by rw [Bool.eq_false_iff]; intro h; simp at h; exact hp h, par_no] at e4
      rw [e4] at e1 e3
      generalize txt (t.kids.getD k .zero) = s at hc hsz c3 e1 e3
      cases br
      · repeat' first
          | (refine facW_intro ?_; intro _)
          | refine Or.inl ?_
          | ((conv => whnf); first | (refine condW_dec ?_ ?_ <;> intro _ <;> try (exfalso; omega)) | refine condW_not ?_ | (refine condW_bool ?_ ?_ <;> intro _ <;> try (exfalso; omega)) | (refine nbC_t (fun _ => ?_) ?_) | (refine nbC_f ?_ (fun _ => ?_)))
          | refine And.intro (by first | omega | (simp only [Int.toNat_natCast] at *; omega) | (simp only [Nat.reduceAdd, Int.cast_ofNat_Int, true_and, and_true]; omega) | kernel_rfl) ?_
          | refine RegW.run ?_
          | refine ⟨_, hc, ?_⟩
          | fail
        all_goals first
          | exact ⟨k + 1, by omega, ⟨[(13, some 31)], ⟨by kernel_rfl, by kernel_rfl, by kernel_rfl, by kernel_rfl, by kernel_rfl, by kernel_rfl, by kernel_rfl⟩, (by repeat' first | ((first | exact e3 | (rw [List.length_append] at e3; exact e3))) | exact trivial | exact rfl | kernel_rfl | exact Dle.of_eq rfl | exact MLe.of_eq rfl | exact Dle.i (by omega) | exact Dle.i (by simp only [Int.toNat_natCast] at *; omega) | exact Dle.nil | exact Dle.rc Dle.nil | exact Option.some_ne_none _ | exact Or.inl rfl | exact Or.inr trivial | omega | (simp only [Int.toNat_natCast] at *; omega) | (intro _ _ _ _; exact Dle.of_eq rfl) | (intro i j hi hj; (rw [e1]; exact row_strA E _ _ i j hi hj)) | refine And.intro ?_ ?_)⟩, by first | omega | (dsimp only; omega)⟩
          | trace_state
      · have hp1 : ¬ (t.kids.getD ((k : Int)).toNat .zero).op = 3 := fun h => hp ⟨h, hbr2.1 rfl⟩
        repeat' first
          | (refine facW_intro ?_; intro _)
          | refine Or.inl ?_
          | ((conv => whnf); first | (refine condW_dec ?_ ?_ <;> intro _ <;> try (exfalso; omega)) | refine condW_not ?_ | (refine condW_bool ?_ ?_ <;> intro _ <;> try (exfalso; omega)) | (refine nbC_t (fun _ => ?_) ?_) | (refine nbC_f ?_ (fun _ => ?_)))
          | refine And.intro (by first | omega | (simp only [Int.toNat_natCast] at *; omega) | (simp only [Nat.reduceAdd, Int.cast_ofNat_Int, true_and, and_true]; omega) | kernel_rfl) ?_
          | refine RegW.run ?_
          | refine ⟨_, hc, ?_⟩
          | fail
        all_goals first
          | (exfalso; rename_i h; exact hp1 h)
          | exact ⟨k + 1, by omega, ⟨[(13, some 31)], ⟨by kernel_rfl, by kernel_rfl, by kernel_rfl, by kernel_rfl, by kernel_rfl, by kernel_rfl, by kernel_rfl⟩, (by repeat' first | ((first | exact e3 | (rw [List.length_append] at e3; exact e3))) | exact trivial | exact rfl | kernel_rfl | exact Dle.of_eq rfl | exact MLe.of_eq rfl | exact Dle.i (by omega) | exact Dle.i (by simp only [Int.toNat_natCast] at *; omega) | exact Dle.nil | exact Dle.rc Dle.nil | exact Option.some_ne_none _ | exact Or.inl rfl | exact Or.inr trivial | omega | (simp only [Int.toNat_natCast] at *; omega) | (intro _ _ _ _; exact Dle.of_eq rfl) | (intro i j hi hj; (rw [e1]; exact row_strA E _ _ i j hi hj)) | refine And.intro ?_ ?_)⟩, by first | omega | (dsimp only; omega)⟩
          | trace_state
  · obtain rfl : k = t.kids.length := by omega
    repeat' first
      | (refine facW_intro ?_; intro _)
      | refine Or.inl ?_
      | ((conv => whnf); first | (refine condW_dec ?_ ?_ <;> intro _ <;> try (exfalso; omega)) | refine condW_not ?_ | (refine condW_bool ?_ ?_ <;> intro _ <;> try (exfalso; omega)) | (refine nbC_t (fun _ => ?_) ?_) | (refine nbC_f ?_ (fun _ => ?_)))
      | refine And.intro (by first | omega | (simp only [Int.toNat_natCast] at *; omega) | (simp only [Nat.reduceAdd, Int.cast_ofNat_Int, true_and, and_true]; omega) | kernel_rfl) ?_
      | refine RegW.run ?_
      | refine ⟨_, hj, ?_⟩
      | fail
    all_goals first
      | exact Dle.refl _ _
      | trace_state
set_option maxHeartbeats 4000000 in
theorem text2_sp (hP : ∀ w, E.G w → P10 w) : ∀ (N : Nat) (t : Ts), SizeOf.sizeOf t < N → okT t → Sp (cx Tryd.prog mixed tyT_ok E) 51 [encT t] (dS (txt t))
  | 0, t, h, _ => by omega
  | N + 1, t, h, hok => by
    have ih := fun x (hx : x ∈ t.kids) => text2_sp hP N x (by have := tkids_lt t x hx; omega) (okT_kid hok hx)
    have hcn := hok.2.2
    rw [tcnt_eq] at hcn
    have hj := fun sep hs => join_kids (t := t) (sep := sep) hs hok.1 hok.2.1
    have hj1 := hj ⟨#[32, 38, 32]⟩ rfl
    have hj2 := hj ⟨#[32, 124, 32]⟩ rfl
    have k1 := kidsText2_sp E t ⟨#[32, 38, 32]⟩ (!decide (t.op = 3)) rfl rfl hok ih
    have k2 := kidsText2_sp E t ⟨#[32, 124, 32]⟩ (!decide (t.op = 3)) rfl rfl hok ih
    have et := txt_eq t
    have c1 : (⟨#[33, 40]⟩ : ByteArray).size = 2 := rfl
    have c2 : (⟨#[41]⟩ : ByteArray).size = 1 := rfl
    have c3 : (⟨#[33, 40]⟩ ++ joinS (t.kids.map (txtK t.op)) ⟨#[32, 124, 32]⟩).size = 2 + (joinS (t.kids.map (txtK t.op)) ⟨#[32, 124, 32]⟩).size := by rw [ByteArray.size_append]; rfl
    generalize joinS (t.kids.map (txtK t.op)) ⟨#[32, 38, 32]⟩ = j1 at hj1 k1 et
    generalize joinS (t.kids.map (txtK t.op)) ⟨#[32, 124, 32]⟩ = j2 at hj2 k2 et c3
    by_cases h1 : t.op = 1
    · rw [if_neg (by omega), if_neg (by omega), if_neg (by omega)] at et
      have hw := w_iff.1 (show wOk t.md t.lo t.hi = true by rw [← rng1 h1]; exact hok.2.1)
      have i1 := (itoa_sp E hP t.md).resolve_right (fun h => h (by omega))
      have i2 := (itoa_sp E hP t.lo).resolve_right (fun h => h (by omega))
      have i3 := (itoa_sp E hP t.hi).resolve_right (fun h => h (by omega))
      have s0 := leaf0_size hw.1
      have s1 := leaf1_size (m := t.md) (l := t.lo) hw.1 hw.2.1 (by omega)
      have d1 := decS_size t.md (by omega) (by omega)
      have d2 := decS_size t.lo (by omega) (by omega)
      have d3 := decS_size t.hi (by omega) (by omega)
      have z1 : (⟨#[37]⟩ : ByteArray).size = 1 := rfl
      have z2 : (⟨#[61]⟩ : ByteArray).size = 1 := rfl
      have z3 : (⟨#[46, 46]⟩ : ByteArray).size = 2 := rfl
      have z4 : (⟨#[110]⟩ : ByteArray).size = 1 := rfl
      have z5 : (⟨#[37]⟩ ++ decS t.md).size = 1 + (decS t.md).size := by rw [ByteArray.size_append]; rfl
      have z6 : (⟨#[61]⟩ ++ decS t.lo).size = 1 + (decS t.lo).size := by rw [ByteArray.size_append]; rfl
      have z7 : (⟨#[46, 46]⟩ ++ decS t.hi).size = 2 + (decS t.hi).size := by rw [ByteArray.size_append]; rfl
      have z8 : (⟨#[110]⟩ ++ (⟨#[61]⟩ ++ decS t.lo)).size = 1 + (1 + (decS t.lo).size) := by rw [ByteArray.size_append, z6]; rfl
      have z9 : (⟨#[110]⟩ ++ (⟨#[37]⟩ ++ decS t.md)).size = 1 + (1 + (decS t.md).size) := by rw [ByteArray.size_append, z5]; rfl
      have z10 : (⟨#[110]⟩ ++ (⟨#[37]⟩ ++ decS t.md) ++ (⟨#[61]⟩ ++ decS t.lo)).size = 1 + (1 + (decS t.md).size) + (1 + (decS t.lo).size) := by rw [ByteArray.size_append, z9, z6]
      rw [et]
      by_cases m0 : t.md = 0
      · refine Sp.body Tryd.func51 (by kernel_rfl) rfl (by kernel_rfl) (by kernel_rfl) (by kernel_rfl) ?_
        repeat' first
          | (refine facW_intro ?_; intro _)
          | refine Or.inl ?_
          | ((conv => whnf); first | (refine condW_dec ?_ ?_ <;> intro _ <;> try (exfalso; omega)) | refine condW_not ?_ | (refine condW_bool ?_ ?_ <;> intro _ <;> try (exfalso; omega)) | (refine nbC_t (fun _ => ?_) ?_) | (refine nbC_f ?_ (fun _ => ?_)))
          | refine And.intro (by first | omega | (simp only [Int.toNat_natCast] at *; omega) | (simp only [Nat.reduceAdd, Int.cast_ofNat_Int, true_and, and_true]; omega) | kernel_rfl) ?_
          | refine RegW.run ?_
          | refine ⟨_, i1, ?_⟩
          | refine ⟨_, i2, ?_⟩
          | refine ⟨_, i3, ?_⟩
          | fail
        all_goals first
          | exact Dle.s (by unfold leafT leaf1 leaf0; rw [if_pos m0]; simp [*])
          | trace_state
      · refine Sp.body Tryd.func51 (by kernel_rfl) rfl (by kernel_rfl) (by kernel_rfl) (by kernel_rfl) ?_
        repeat' first
          | (refine facW_intro ?_; intro _)
          | refine Or.inl ?_
          | ((conv => whnf); first | (refine condW_dec ?_ ?_ <;> intro _ <;> try (exfalso; omega)) | refine condW_not ?_ | (refine condW_bool ?_ ?_ <;> intro _ <;> try (exfalso; omega)) | (refine nbC_t (fun _ => ?_) ?_) | (refine nbC_f ?_ (fun _ => ?_)))
          | refine And.intro (by first | omega | (simp only [Int.toNat_natCast] at *; omega) | (simp only [Nat.reduceAdd, Int.cast_ofNat_Int, true_and, and_true]; omega) | kernel_rfl) ?_
          | refine RegW.run ?_
          | refine ⟨_, i1, ?_⟩
          | refine ⟨_, i2, ?_⟩
          | refine ⟨_, i3, ?_⟩
          | fail
        all_goals first
          | exact Dle.s (by unfold leafT leaf1 leaf0; rw [if_neg m0]; simp [*])
          | trace_state
    · by_cases h3 : t.op = 3
      · rw [decide_eq_true h3] at k1 k2
        rw [et]
        refine Sp.body Tryd.func51 (by kernel_rfl) rfl (by kernel_rfl) (by kernel_rfl) (by kernel_rfl) ?_
        repeat' first
          | (refine facW_intro ?_; intro _)
          | refine Or.inl ?_
          | ((conv => whnf); first | (refine condW_dec ?_ ?_ <;> intro _ <;> try (exfalso; omega)) | refine condW_not ?_ | (refine condW_bool ?_ ?_ <;> intro _ <;> try (exfalso; omega)) | (refine nbC_t (fun _ => ?_) ?_) | (refine nbC_f ?_ (fun _ => ?_)))
          | refine And.intro (by first | omega | (simp only [Int.toNat_natCast] at *; omega) | (simp only [Nat.reduceAdd, Int.cast_ofNat_Int, true_and, and_true]; omega) | kernel_rfl) ?_
          | refine RegW.run ?_
          | refine ⟨_, k1, ?_⟩
          | refine ⟨_, k2, ?_⟩
          | fail
        all_goals first
          | exact Dle.s (by simp [*])
          | trace_state
      · have hop := op_of hok.1 h1
        rw [decide_eq_false h3] at k1 k2
        rw [et]
        refine Sp.body Tryd.func51 (by kernel_rfl) rfl (by kernel_rfl) (by kernel_rfl) (by kernel_rfl) ?_
        repeat' first
          | (refine facW_intro ?_; intro _)
          | refine Or.inl ?_
          | ((conv => whnf); first | (refine condW_dec ?_ ?_ <;> intro _ <;> try (exfalso; omega)) | refine condW_not ?_ | (refine condW_bool ?_ ?_ <;> intro _ <;> try (exfalso; omega)) | (refine nbC_t (fun _ => ?_) ?_) | (refine nbC_f ?_ (fun _ => ?_)))
          | refine And.intro (by first | omega | (simp only [Int.toNat_natCast] at *; omega) | (simp only [Nat.reduceAdd, Int.cast_ofNat_Int, true_and, and_true]; omega) | kernel_rfl) ?_
          | refine RegW.run ?_
          | refine ⟨_, k1, ?_⟩
          | refine ⟨_, k2, ?_⟩
          | fail
        all_goals first
          | (rename_i hq2 _; exact Dle.s (by rw [if_neg hq2, if_neg h3, if_pos (show t.op = 4 by omega)]))
          | exact Dle.s (by simp [*])
          | trace_state
set_option maxHeartbeats 2000000 in
theorem ruleString_sp (hP : ∀ w, E.G w → P10 w) (fs : List Ts) (hw : tcntL fs ≤ 100000000) : Sp (cx Tryd.prog mixed tyT_ok E) 8 [encR fs] (encO (ruleT fs)) := by
  have h1 := ruleFault_sp E fs hw
  obtain ⟨r, hr⟩ : ∃ r, r = ruleT fs := ⟨_, rfl⟩
  rw [← hr]
  unfold ruleT at hr
  have hend : ∀ (e : Res) (c : Int), e = errR c → Dle (cx Tryd.prog mixed tyT_ok E) (.tup [dS ⟨#[]⟩, i64 c]) (encO e) := fun e c h => by rw [h]; exact Dle.refl _ _
  by_cases h0 : ruleE fs = 0
  · rw [if_pos h0] at hr
    rw [h0] at h1
    obtain ⟨hl6, hall⟩ := rule_ok h0
    have hts := texts_size h0
    have hj := join_sp E (fs.map txt) ⟨#[59, 32]⟩ (by rw [List.length_map]; omega) (by unfold texts at hts; omega)
    rw [← fts_all] at hj
    have hz : (fts fs 0).length = 0 := rfl
    have ett : texts fs = joinS (fts fs fs.length) ⟨#[59, 32]⟩ := by rw [fts_all]; rfl
    rw [ett] at hr hts
    refine Sp.body Tryd.func8 (by kernel_rfl) rfl (by kernel_rfl) (by kernel_rfl) (by kernel_rfl) ?_
    repeat' first
      | (refine facW_intro ?_; intro _)
      | refine Or.inl ?_
      | ((conv => whnf); first | (refine condW_dec ?_ ?_ <;> intro _ <;> try (exfalso; omega)) | refine condW_not ?_ | (refine condW_bool ?_ ?_ <;> intro _ <;> try (exfalso; omega)) | (refine nbC_t (fun _ => ?_) ?_) | (refine nbC_f ?_ (fun _ => ?_)))
      | refine And.intro (by first | omega | (simp only [Int.toNat_natCast] at *; omega) | (simp only [Nat.reduceAdd, Int.cast_ofNat_Int, true_and, and_true]; omega) | kernel_rfl) ?_
      | refine RegW.run ?_
      | refine ⟨_, h1, ?_⟩
      | fail
    all_goals try (exfalso; rename_i h; exact h rfl)
    refine ⟨Nat, fun k => [(17, i64 k), (5, .own 17 1 0 (fts fs k).length)], fun k => [], [], fun k => [(17, 9, (fts fs k).length, rowS (fts fs k))], fun k => k ≤ fs.length, fun k => fs.length - k, ⟨0, by omega, ⟨[(17, none)], ⟨by kernel_rfl, by kernel_rfl, by kernel_rfl, by kernel_rfl, by kernel_rfl, by kernel_rfl, by kernel_rfl⟩, (by repeat' first | exact trivial | exact rfl | kernel_rfl | exact Dle.of_eq rfl | exact MLe.of_eq rfl | exact Dle.i (by omega) | exact Dle.i (by simp only [Int.toNat_natCast] at *; omega) | exact Dle.nil | exact Dle.rc Dle.nil | exact Option.some_ne_none _ | exact Or.inl rfl | exact Or.inr trivial | omega | (simp only [Int.toNat_natCast] at *; omega) | (intro _ _ _ _; exact Dle.of_eq rfl) | refine And.intro ?_ ?_)⟩⟩, fun k hk => ?_⟩
    have hk : k ≤ fs.length := hk
    by_cases hlt : k < fs.length
    · obtain ⟨g1, g2, g3⟩ := hall _ (getD_mem fs .zero k hlt)
      have hc := text_sp E hP _ (fs.getD k .zero) (Nat.lt_succ_self _) ⟨g2, g3, by omega⟩
      have hln := fts_len fs k hk
      have e1 := fts_next hlt
      have e3 := (congrArg List.length e1).symm
      generalize txt (fs.getD k .zero) = s at hc e1 e3
      repeat' first
        | (refine facW_intro ?_; intro _)
        | refine Or.inl ?_
        | ((conv => whnf); first | (refine condW_dec ?_ ?_ <;> intro _ <;> try (exfalso; omega)) | refine condW_not ?_ | (refine condW_bool ?_ ?_ <;> intro _ <;> try (exfalso; omega)) | (refine nbC_t (fun _ => ?_) ?_) | (refine nbC_f ?_ (fun _ => ?_)))
        | refine And.intro (by first | omega | (simp only [Int.toNat_natCast] at *; omega) | (simp only [Nat.reduceAdd, Int.cast_ofNat_Int, true_and, and_true]; omega) | kernel_rfl) ?_
        | refine RegW.run ?_
        | refine ⟨_, hc, ?_⟩
        | fail
      all_goals first
        | exact ⟨k + 1, by omega, ⟨[(17, some 25)], ⟨by kernel_rfl, by kernel_rfl, by kernel_rfl, by kernel_rfl, by kernel_rfl, by kernel_rfl, by kernel_rfl⟩, (by repeat' first | ((first | exact e3 | (rw [List.length_append] at e3; exact e3))) | exact trivial | exact rfl | kernel_rfl | exact Dle.of_eq rfl | exact MLe.of_eq rfl | exact Dle.i (by omega) | exact Dle.i (by simp only [Int.toNat_natCast] at *; omega) | exact Dle.nil | exact Dle.rc Dle.nil | exact Option.some_ne_none _ | exact Or.inl rfl | exact Or.inr trivial | omega | (simp only [Int.toNat_natCast] at *; omega) | (intro _ _ _ _; exact Dle.of_eq rfl) | (intro i j hi hj; (rw [e1]; exact row_strA E _ _ i j hi hj)) | refine And.intro ?_ ?_)⟩, by first | omega | (dsimp only; omega)⟩
        | trace_state
    · obtain rfl : k = fs.length := by omega
      generalize joinS (fts fs fs.length) ⟨#[59, 32]⟩ = s at hj hr hts
      by_cases h2 : 2000 < s.size
      · rw [if_pos h2] at hr
        repeat' first
          | (refine facW_intro ?_; intro _)
          | refine Or.inl ?_
          | ((conv => whnf); first | (refine condW_dec ?_ ?_ <;> intro _ <;> try (exfalso; omega)) | refine condW_not ?_ | (refine condW_bool ?_ ?_ <;> intro _ <;> try (exfalso; omega)) | (refine nbC_t (fun _ => ?_) ?_) | (refine nbC_f ?_ (fun _ => ?_)))
          | refine And.intro (by first | omega | (simp only [Int.toNat_natCast] at *; omega) | (simp only [Nat.reduceAdd, Int.cast_ofNat_Int, true_and, and_true]; omega) | kernel_rfl) ?_
          | refine RegW.run ?_
          | refine ⟨_, hj, ?_⟩
          | fail
        all_goals first
          | exact hend _ _ hr
          | trace_state
      · rw [if_neg h2] at hr
        subst hr
        repeat' first
          | (refine facW_intro ?_; intro _)
          | refine Or.inl ?_
          | ((conv => whnf); first | (refine condW_dec ?_ ?_ <;> intro _ <;> try (exfalso; omega)) | refine condW_not ?_ | (refine condW_bool ?_ ?_ <;> intro _ <;> try (exfalso; omega)) | (refine nbC_t (fun _ => ?_) ?_) | (refine nbC_f ?_ (fun _ => ?_)))
          | refine And.intro (by first | omega | (simp only [Int.toNat_natCast] at *; omega) | (simp only [Nat.reduceAdd, Int.cast_ofNat_Int, true_and, and_true]; omega) | kernel_rfl) ?_
          | refine RegW.run ?_
          | refine ⟨_, hj, ?_⟩
          | fail
        all_goals first
          | exact Dle.refl _ _
          | trace_state
  · rw [if_neg h0] at hr
    generalize ruleE fs = c at h0 h1 hr
    refine Sp.body Tryd.func8 (by kernel_rfl) rfl (by kernel_rfl) (by kernel_rfl) (by kernel_rfl) ?_
    repeat' first
      | (refine facW_intro ?_; intro _)
      | refine Or.inl ?_
      | ((conv => whnf); first | (refine condW_dec ?_ ?_ <;> intro _ <;> try (exfalso; omega)) | refine condW_not ?_ | (refine condW_bool ?_ ?_ <;> intro _ <;> try (exfalso; omega)) | (refine nbC_t (fun _ => ?_) ?_) | (refine nbC_f ?_ (fun _ => ?_)))
      | refine And.intro (by first | omega | (simp only [Int.toNat_natCast] at *; omega) | (simp only [Nat.reduceAdd, Int.cast_ofNat_Int, true_and, and_true]; omega) | kernel_rfl) ?_
      | refine RegW.run ?_
      | refine ⟨_, h1, ?_⟩
      | fail
    all_goals first
      | exact hend _ _ hr
      | (exfalso; exact h0 (by assumption))
      | trace_state
theorem ruleText2_sp (hP : ∀ w, E.G w → P10 w) (fs : List Ts) (h0 : ruleE fs = 0) : Sp (cx Tryd.prog mixed tyT_ok E) 24 [encR fs] (dS (texts fs)) := by
  obtain ⟨hl6, hall⟩ := rule_ok h0
  have hts := texts_size h0
  have hj := join_sp E (fs.map txt) ⟨#[59, 32]⟩ (by rw [List.length_map]; omega) (by unfold texts at hts; omega)
  rw [← fts_all] at hj
  have hz : (fts fs 0).length = 0 := rfl
  have ett : texts fs = joinS (fts fs fs.length) ⟨#[59, 32]⟩ := by rw [fts_all]; rfl
  rw [ett]
  refine Sp.body Tryd.func24 (by kernel_rfl) rfl (by kernel_rfl) (by kernel_rfl) (by kernel_rfl) ?_
  repeat' first
    | (refine facW_intro ?_; intro _)
    | refine Or.inl ?_
    | ((conv => whnf); first | (refine condW_dec ?_ ?_ <;> intro _ <;> try (exfalso; omega)) | refine condW_not ?_ | (refine condW_bool ?_ ?_ <;> intro _ <;> try (exfalso; omega)) | (refine nbC_t (fun _ => ?_) ?_) | (refine nbC_f ?_ (fun _ => ?_)))
    | refine And.intro (by first | omega | (simp only [Int.toNat_natCast] at *; omega) | (simp only [Nat.reduceAdd, Int.cast_ofNat_Int, true_and, and_true]; omega) | kernel_rfl) ?_
    | refine RegW.run ?_
    | fail
  refine ⟨Nat, fun k => [(9, i64 k), (3, .own 9 1 0 (fts fs k).length)], fun k => [], [], fun k => [(9, 9, (fts fs k).length, rowS (fts fs k))], fun k => k ≤ fs.length, fun k => fs.length - k, ⟨0, by omega, ⟨[(9, none)], ⟨by kernel_rfl, by kernel_rfl, by kernel_rfl, by kernel_rfl, by kernel_rfl, by kernel_rfl, by kernel_rfl⟩, (by repeat' first | exact trivial | exact rfl | kernel_rfl | exact Dle.of_eq rfl | exact MLe.of_eq rfl | exact Dle.i (by omega) | exact Dle.i (by simp only [Int.toNat_natCast] at *; omega) | exact Dle.nil | exact Dle.rc Dle.nil | exact Option.some_ne_none _ | exact Or.inl rfl | exact Or.inr trivial | omega | (simp only [Int.toNat_natCast] at *; omega) | (intro _ _ _ _; exact Dle.of_eq rfl) | refine And.intro ?_ ?_)⟩⟩, fun k hk => ?_⟩
  have hk : k ≤ fs.length := hk
  by_cases hlt : k < fs.length
  · obtain ⟨g1, g2, g3⟩ := hall _ (getD_mem fs .zero k hlt)
    have hc := text2_sp E hP _ (fs.getD k .zero) (Nat.lt_succ_self _) ⟨g2, g3, by omega⟩
    have hln := fts_len fs k hk
    have e1 := fts_next hlt
    have e3 := (congrArg List.length e1).symm
    generalize txt (fs.getD k .zero) = s at hc e1 e3
    repeat' first
      | (refine facW_intro ?_; intro _)
      | refine Or.inl ?_
      | ((conv => whnf); first | (refine condW_dec ?_ ?_ <;> intro _ <;> try (exfalso; omega)) | refine condW_not ?_ | (refine condW_bool ?_ ?_ <;> intro _ <;> try (exfalso; omega)) | (refine nbC_t (fun _ => ?_) ?_) | (refine nbC_f ?_ (fun _ => ?_)))
      | refine And.intro (by first | omega | (simp only [Int.toNat_natCast] at *; omega) | (simp only [Nat.reduceAdd, Int.cast_ofNat_Int, true_and, and_true]; omega) | kernel_rfl) ?_
      | refine RegW.run ?_
      | refine ⟨_, hc, ?_⟩
      | fail
    all_goals first
      | exact ⟨k + 1, by omega, ⟨[(9, some 17)], ⟨by kernel_rfl, by kernel_rfl, by kernel_rfl, by kernel_rfl, by kernel_rfl, by kernel_rfl, by kernel_rfl⟩, (by repeat' first | ((first | exact e3 | (rw [List.length_append] at e3; exact e3))) | exact trivial | exact rfl | kernel_rfl | exact Dle.of_eq rfl | exact MLe.of_eq rfl | exact Dle.i (by omega) | exact Dle.i (by simp only [Int.toNat_natCast] at *; omega) | exact Dle.nil | exact Dle.rc Dle.nil | exact Option.some_ne_none _ | exact Or.inl rfl | exact Or.inr trivial | omega | (simp only [Int.toNat_natCast] at *; omega) | (intro _ _ _ _; exact Dle.of_eq rfl) | (intro i j hi hj; (rw [e1]; exact row_strA E _ _ i j hi hj)) | refine And.intro ?_ ?_)⟩, by first | omega | (dsimp only; omega)⟩
      | trace_state
  · obtain rfl : k = fs.length := by omega
    repeat' first
      | (refine facW_intro ?_; intro _)
      | refine Or.inl ?_
      | ((conv => whnf); first | (refine condW_dec ?_ ?_ <;> intro _ <;> try (exfalso; omega)) | refine condW_not ?_ | (refine condW_bool ?_ ?_ <;> intro _ <;> try (exfalso; omega)) | (refine nbC_t (fun _ => ?_) ?_) | (refine nbC_f ?_ (fun _ => ?_)))
      | refine And.intro (by first | omega | (simp only [Int.toNat_natCast] at *; omega) | (simp only [Nat.reduceAdd, Int.cast_ofNat_Int, true_and, and_true]; omega) | kernel_rfl) ?_
      | refine RegW.run ?_
      | refine ⟨_, hj, ?_⟩
      | fail
    all_goals first
      | exact Dle.refl _ _
      | trace_state
theorem ruleStringOf_sp (hP : ∀ w, E.G w → P10 w) (fs : List Ts) (hi : opIL fs) (hw : tcntL fs ≤ 100000000) : Sp (cx Tryd.prog mixed tyT_ok E) 9 [encR fs] (encO (ruleT fs)) := by
  have h1 := refRule_sp E fs hi hw
  obtain ⟨r, hr⟩ : ∃ r, r = ruleT fs := ⟨_, rfl⟩
  rw [← hr]
  unfold ruleT at hr
  have hend : ∀ (e : Res) (c : Int), e = errR c → Dle (cx Tryd.prog mixed tyT_ok E) (.tup [dS ⟨#[]⟩, i64 c]) (encO e) := fun e c h => by rw [h]; exact Dle.refl _ _
  by_cases h0 : ruleE fs = 0
  · rw [if_pos h0] at hr
    rw [h0] at h1
    have h2 := ruleText2_sp E hP fs h0
    have hts := texts_size h0
    generalize texts fs = s at h2 hr hts
    by_cases h3 : 2000 < s.size
    · rw [if_pos h3] at hr
      refine Sp.body Tryd.func9 (by kernel_rfl) rfl (by kernel_rfl) (by kernel_rfl) (by kernel_rfl) ?_
      repeat' first
        | (refine facW_intro ?_; intro _)
        | refine Or.inl ?_
        | ((conv => whnf); first | (refine condW_dec ?_ ?_ <;> intro _ <;> try (exfalso; omega)) | refine condW_not ?_ | (refine condW_bool ?_ ?_ <;> intro _ <;> try (exfalso; omega)) | (refine nbC_t (fun _ => ?_) ?_) | (refine nbC_f ?_ (fun _ => ?_)))
        | refine And.intro (by first | omega | (simp only [Int.toNat_natCast] at *; omega) | (simp only [Nat.reduceAdd, Int.cast_ofNat_Int, true_and, and_true]; omega) | kernel_rfl) ?_
        | refine RegW.run ?_
        | refine ⟨_, h1, ?_⟩
        | refine ⟨_, h2, ?_⟩
        | fail
      all_goals first
        | (exfalso; rename_i h; exact h rfl)
        | exact hend _ _ hr
        | trace_state
    · rw [if_neg h3] at hr
      subst hr
      refine Sp.body Tryd.func9 (by kernel_rfl) rfl (by kernel_rfl) (by kernel_rfl) (by kernel_rfl) ?_
      repeat' first
        | (refine facW_intro ?_; intro _)
        | refine Or.inl ?_
        | ((conv => whnf); first | (refine condW_dec ?_ ?_ <;> intro _ <;> try (exfalso; omega)) | refine condW_not ?_ | (refine condW_bool ?_ ?_ <;> intro _ <;> try (exfalso; omega)) | (refine nbC_t (fun _ => ?_) ?_) | (refine nbC_f ?_ (fun _ => ?_)))
        | refine And.intro (by first | omega | (simp only [Int.toNat_natCast] at *; omega) | (simp only [Nat.reduceAdd, Int.cast_ofNat_Int, true_and, and_true]; omega) | kernel_rfl) ?_
        | refine RegW.run ?_
        | refine ⟨_, h1, ?_⟩
        | refine ⟨_, h2, ?_⟩
        | fail
      all_goals first
        | (exfalso; rename_i h; exact h rfl)
        | exact Dle.refl _ _
        | trace_state
  · rw [if_neg h0] at hr
    generalize ruleE fs = c at h0 h1 hr
    refine Sp.body Tryd.func9 (by kernel_rfl) rfl (by kernel_rfl) (by kernel_rfl) (by kernel_rfl) ?_
    repeat' first
      | (refine facW_intro ?_; intro _)
      | refine Or.inl ?_
      | ((conv => whnf); first | (refine condW_dec ?_ ?_ <;> intro _ <;> try (exfalso; omega)) | refine condW_not ?_ | (refine condW_bool ?_ ?_ <;> intro _ <;> try (exfalso; omega)) | (refine nbC_t (fun _ => ?_) ?_) | (refine nbC_f ?_ (fun _ => ?_)))
      | refine And.intro (by first | omega | (simp only [Int.toNat_natCast] at *; omega) | (simp only [Nat.reduceAdd, Int.cast_ofNat_Int, true_and, and_true]; omega) | kernel_rfl) ?_
      | refine RegW.run ?_
      | refine ⟨_, h1, ?_⟩
      | fail
    all_goals first
      | exact hend _ _ hr
      | (exfalso; exact h0 (by assumption))
      | trace_state
theorem ruleWrites_sp (hP : ∀ w, E.G w → P10 w) (fs : List Ts) (hi : opIL fs) (hw : tcntL fs ≤ 100000000) : Sp (cx Tryd.prog mixed tyT_ok E) 4 [encR fs] (dB true) := by
  have h1 := ruleString_sp E hP fs hw
  have h2 := ruleStringOf_sp E hP fs hi hw
  generalize ruleT fs = q at h1 h2
  refine Sp.body Tryd.func4 (by kernel_rfl) rfl (by kernel_rfl) (by kernel_rfl) (by kernel_rfl) ?_
  repeat' first
    | (refine facW_intro ?_; intro _)
    | refine Or.inl ?_
    | ((conv => whnf); first | (refine condW_dec ?_ ?_ <;> intro _ <;> try (exfalso; omega)) | refine condW_not ?_ | (refine condW_bool ?_ ?_ <;> intro _ <;> try (exfalso; omega)) | (refine nbC_t (fun _ => ?_) ?_) | (refine nbC_f ?_ (fun _ => ?_)))
    | refine And.intro (by first | omega | (simp only [Int.toNat_natCast] at *; omega) | (simp only [Nat.reduceAdd, Int.cast_ofNat_Int, true_and, and_true]; omega) | kernel_rfl) ?_
    | refine RegW.run ?_
    | refine ⟨_, h1, ?_⟩
    | refine ⟨_, h2, ?_⟩
    | fail
  all_goals first
    | exact Dle.bo (by simp)
    | (exfalso; rename_i h; exact h rfl)
    | trace_state
end
end rule
end Go.Proofs.YtagggnjcpjodjaaDoor
