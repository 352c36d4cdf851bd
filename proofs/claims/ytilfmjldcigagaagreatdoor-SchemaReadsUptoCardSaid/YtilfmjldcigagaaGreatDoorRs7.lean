/-
  A schema's value, the reference: ReadSchemaOf.
-/
import Derived.Test.YtilfmjldcigagaaGreatDoorRs5
import Derived.Test.YtilfmjldcigagaaGreatDoorRs6
import Derived.Test.YtilfmjldcigagaaGreatDoorRs2b
namespace Go.Proofs.YtilfmjldcigagaaGreatDoor
open Go.RowKit
set_option linter.unusedVariables false
set_option linter.unusedSimpArgs false
namespace rs
section
variable (E : Env)
set_option maxRecDepth 100000
theorem containsN_sp (s : ByteArray) : Sp (cx Tryz.prog mixed tyT_ok E) 21 [encStrs names, dS s] (dB (decide (0 ≤ nameI s))) := by
  have h1 := index_sp E names s
  unfold nameI
  generalize idxS names s 0 = r at h1
  refine Sp.body Tryz.func21 (by kernel_rfl) rfl (by kernel_rfl) (by kernel_rfl) (by kernel_rfl) ?_
  repeat' first
    | (refine facW_intro ?_; intro _)
    | refine Or.inl ?_
    | ((conv => whnf); first | (refine condW_dec ?_ ?_ <;> intro _) | refine condW_not ?_ | (refine condW_bool ?_ ?_ <;> intro _) | (refine nbC_t (fun _ => ?_) ?_) | (refine nbC_f ?_ (fun _ => ?_)))
    | refine And.intro (by first | omega | (simp only [Int.toNat_natCast] at *; omega) | (simp only [Nat.reduceAdd, Int.cast_ofNat_Int, true_and, and_true]; omega) | kernel_rfl) ?_
    | refine RegW.run ?_
    | refine ⟨_, h1, ?_⟩
    | fail
  all_goals exact Dle.refl _ _
set_option maxHeartbeats 32000000 in
theorem readSchemaOf_sp (hML : ∀ w, E.G w → ML w) (E0 : Env) (hg : ∀ w, E0.G w → ∀ g, Rep view E0.MG w b0 (namesGv g) (.pointer (some ⟨g, 0, none⟩))) (hE : E = nEnv E0 hg) (v : Vu) (hw : v.wt ≤ 10000000) : Sp (cx Tryz.prog mixed tyT_ok E) 6 [encV v] (encR (readS schemaE v)) := by
  have hkw := keys_le_wt v
  have h1 := refCheck_sp E v (by have := cnt_le_wt v; omega)
  obtain ⟨q, hq⟩ : ∃ q, q = readS schemaE v := ⟨_, rfl⟩
  rw [← hq]
  unfold readS at hq
  by_cases hc : checkE v = 0
  · have hq := hq.trans (if_neg (fun h => h hc))
    rw [hc] at h1
    have hf := check_ok hc
    by_cases h6 : v.kind = 6
    · have h4 := has_sp E v (⟨#[115, 116, 114, 105, 99, 116]⟩ : ByteArray) hf
      have h5 := has_sp E v (⟨#[102, 105, 101, 108, 100, 115]⟩ : ByteArray) hf
      have h7 := keyFault_l E 38 v topEs topKn topKd look_top (keys_le hf)
      have hF := item_fault hf (⟨#[102, 105, 101, 108, 100, 115]⟩ : ByteArray)
      have hFw := item_wt hf (⟨#[102, 105, 101, 108, 100, 115]⟩ : ByteArray)
      have hTop := top_wrong hf
      have hOdd := top_odd v
      unfold wrongK wrongN flds at hq
      generalize unkN topKn v v.keys.length = u0 at h7 hOdd
      generalize wroN topKn topKd v v.keys.length = w0 at h7 hTop
      generalize itemK v (⟨#[115, 116, 114, 105, 99, 116]⟩ : ByteArray) = S at hq h4
      generalize itemK v (⟨#[102, 105, 101, 108, 100, 115]⟩ : ByteArray) = F at hq h5 hF hFw
      have hFl := len_le_wtL F.items
      have hFl2 := wtL_le_wt F
      have hTw : ∀ k, k < F.items.length → faultE (F.items.getD k .zero) = 0 ∧ (F.items.getD k .zero).wt ≤ 20000000 := fun k h => ⟨fault_mem hF h, by have := wt_mem F.items _ (getD_mem F.items .zero k h); omega⟩
      have hco := fun s => containsN_sp E s
      have hfo := fun t h1 h2 => fieldOf_sp E E0 hg hE t h1 h2
      have hcs := schemaFault_sp E hML (F.items.map readF) S.b (fun f hf2 => by
        obtain ⟨t, ht, rfl⟩ := List.mem_map.1 hf2
        obtain ⟨n, hn1, hn2⟩ := List.mem_iff_getElem.1 ht
        have hn3 : F.items.getD n .zero = t := by simp [List.getD, hn1, hn2]
        obtain ⟨t1, t2⟩ := hTw n hn1
        rw [hn3] at t1 t2
        have := read_ok t1
        omega) (by rw [List.length_map]; omega)
      have hcs := hcs.args (ds := [.agg [.sl 13 160 F.items.length (fun i j => (readF (F.items.getD i .zero)).cell j), dB S.b]]) ⟨Dle.agg ⟨Dle.sl (by simp) (fun i j hi hj => Dle.of_eq (by simp [List.getD, hi])), Dle.refl _ _, trivial⟩, trivial⟩
      have hz := zeroS E
      subst hE
      refine Sp.body Tryz.func6 (by kernel_rfl) rfl (by kernel_rfl) (by kernel_rfl) (by kernel_rfl) ?_
      repeat' first
        | refine Or.inr ⟨_, _, _, h7, by kernel_rfl, (by repeat' first | exact trivial | exact rfl | kernel_rfl | exact Dle.of_eq rfl | exact MLe.of_eq rfl | exact Dle.i (by omega) | exact Dle.i (by simp only [Int.toNat_natCast] at *; omega) | exact Dle.nil | exact Dle.rc Dle.nil | exact Option.some_ne_none _ | exact Or.inl rfl | exact Or.inr trivial | omega | (simp only [Int.toNat_natCast] at *; omega) | (intro _ _ _ _; exact Dle.of_eq rfl) | refine And.intro ?_ ?_), ?_⟩
        | (refine facW_intro ?_; intro _)
        | refine Or.inl ?_
        | ((conv => whnf); first | (refine condW_dec ?_ ?_ <;> intro _ <;> try (exfalso; omega)) | refine condW_not ?_ | (refine condW_bool ?_ ?_ <;> intro _ <;> try (exfalso; omega)) | (refine nbC_t (fun _ => ?_) ?_) | (refine nbC_f ?_ (fun _ => ?_)))
        | refine And.intro (by first | omega | (simp only [Int.toNat_natCast] at *; omega) | (simp only [Nat.reduceAdd, Int.cast_ofNat_Int, true_and, and_true]; omega) | kernel_rfl) ?_
        | refine RegW.run ?_
        | refine ⟨_, h1, ?_⟩
        | refine ⟨_, h5, ?_⟩
        | fail
      refine ⟨Nat, fun k => [(60, i64 k), (9, dB (gat u0 tabU F.items k)), (10, dB (gat w0 tabW F.items k)), (11, dB (gat false lackB F.items k))], fun k => [], [1, 2, 7, 38, 40], fun k => [], fun k => k ≤ F.items.length ∧ ∀ i, i < k → (F.items.getD i .zero).kind = 6, fun k => F.items.length - k, ⟨0, ⟨by omega, fun i hi => by omega⟩, ⟨[], ⟨by kernel_rfl, by kernel_rfl, by kernel_rfl, by kernel_rfl, by kernel_rfl, by kernel_rfl, by kernel_rfl⟩, (by repeat' first | exact trivial | exact rfl | kernel_rfl | exact Dle.of_eq rfl | exact MLe.of_eq rfl | exact Dle.i (by omega) | exact Dle.i (by simp only [Int.toNat_natCast] at *; omega) | exact Dle.nil | exact Dle.rc Dle.nil | exact Option.some_ne_none _ | exact Or.inl rfl | exact Or.inr trivial | omega | (simp only [Int.toNat_natCast] at *; omega) | (intro _ _ _ _; exact Dle.of_eq rfl) | refine And.intro ?_ ?_)⟩⟩, fun k hk => ?_⟩
      obtain ⟨hk9, hK⟩ := hk
      by_cases hlt : k < F.items.length
      · obtain ⟨t1, t2⟩ := hTw k hlt
        by_cases hk6 : (F.items.getD k .zero).kind = 6
        · have hk6' : (F.items.getD ((k : Int)).toNat .zero).kind = 6 := hk6
          have c1 := keyFault_l (nEnv E0 hg) 40 (F.items.getD k .zero) inEs inKn inKd look_in (keys_le t1)
          have c2 := has_sp (nEnv E0 hg) (F.items.getD k .zero) (⟨#[111, 110, 101, 111, 102]⟩ : ByteArray) t1
          have c3 := allStrings_sp (nEnv E0 hg) (itemK (F.items.getD k .zero) (⟨#[111, 110, 101, 111, 102]⟩ : ByteArray))
          have c4 := has_sp (nEnv E0 hg) (F.items.getD k .zero) (⟨#[107, 105, 110, 100]⟩ : ByteArray) t1
          have c5 := hco (itemK (F.items.getD k .zero) (⟨#[107, 105, 110, 100]⟩ : ByteArray)).text
          have c6 := has_sp (nEnv E0 hg) (F.items.getD k .zero) (⟨#[114, 111, 117, 116, 101]⟩ : ByteArray) t1
          have c7 := has_sp (nEnv E0 hg) (F.items.getD k .zero) (⟨#[109, 105, 110]⟩ : ByteArray) t1
          have c8 := has_sp (nEnv E0 hg) (F.items.getD k .zero) (⟨#[109, 97, 120]⟩ : ByteArray) t1
          have gu : gat u0 tabU F.items (k + 1) = (gat u0 tabU F.items k || (unkN inKn (F.items.getD k .zero) (F.items.getD k .zero).keys.length || (hasK (F.items.getD k .zero) (⟨#[107, 105, 110, 100]⟩ : ByteArray) && (!decide ((itemK (F.items.getD k .zero) (⟨#[107, 105, 110, 100]⟩ : ByteArray)).text = (⟨#[97, 110, 121]⟩ : ByteArray)) && !decide (0 ≤ nameI (itemK (F.items.getD k .zero) (⟨#[107, 105, 110, 100]⟩ : ByteArray)).text))))) := rfl
          have gw : gat w0 tabW F.items (k + 1) = (gat w0 tabW F.items k || (wroN inKn inKd (F.items.getD k .zero) (F.items.getD k .zero).keys.length || (hasK (F.items.getD k .zero) (⟨#[111, 110, 101, 111, 102]⟩ : ByteArray) && !strB (itemK (F.items.getD k .zero) (⟨#[111, 110, 101, 111, 102]⟩ : ByteArray))))) := rfl
          have gl : gat false lackB F.items (k + 1) = (gat false lackB F.items k || (!hasK (F.items.getD k .zero) (⟨#[114, 111, 117, 116, 101]⟩ : ByteArray) || !hasK (F.items.getD k .zero) (⟨#[107, 105, 110, 100]⟩ : ByteArray) || (hasK (F.items.getD k .zero) (⟨#[109, 105, 110]⟩ : ByteArray) != hasK (F.items.getD k .zero) (⟨#[109, 97, 120]⟩ : ByteArray)))) := rfl
          generalize unkN inKn (F.items.getD k .zero) (F.items.getD k .zero).keys.length = uu at c1 gu
          generalize wroN inKn inKd (F.items.getD k .zero) (F.items.getD k .zero).keys.length = ww at c1 gw
          generalize itemK (F.items.getD k .zero) (⟨#[111, 110, 101, 111, 102]⟩ : ByteArray) = vo at c2 c3 gw
          generalize itemK (F.items.getD k .zero) (⟨#[107, 105, 110, 100]⟩ : ByteArray) = vk at c4 c5 gu
          generalize itemK (F.items.getD k .zero) (⟨#[114, 111, 117, 116, 101]⟩ : ByteArray) = vr at c6
          generalize itemK (F.items.getD k .zero) (⟨#[109, 105, 110]⟩ : ByteArray) = vmi at c7
          generalize itemK (F.items.getD k .zero) (⟨#[109, 97, 120]⟩ : ByteArray) = vma at c8
          generalize hasK (F.items.getD k .zero) (⟨#[111, 110, 101, 111, 102]⟩ : ByteArray) = ho at c2 gw
          generalize hasK (F.items.getD k .zero) (⟨#[107, 105, 110, 100]⟩ : ByteArray) = hki at c4 gu gl
          generalize hasK (F.items.getD k .zero) (⟨#[114, 111, 117, 116, 101]⟩ : ByteArray) = hro at c6 gl
          generalize hasK (F.items.getD k .zero) (⟨#[109, 105, 110]⟩ : ByteArray) = hmi at c7 gl
          generalize hasK (F.items.getD k .zero) (⟨#[109, 97, 120]⟩ : ByteArray) = hma at c8 gl
          generalize strB vo = so at c3 gw
          generalize decide (0 ≤ nameI vk.text) = co at c5 gu
          obtain ⟨b84, hb84⟩ : ∃ b, b = (ho && !so) := ⟨_, rfl⟩
          obtain ⟨b102, hb102⟩ : ∃ b, b = (hki && (!decide (vk.text = (⟨#[97, 110, 121]⟩ : ByteArray)) && !co)) := ⟨_, rfl⟩
          rw [← hb84] at gw
          rw [← hb102] at gu
          have fu1 : gat u0 tabU F.items k = true → gat u0 tabU F.items (k + 1) = true := fun h => by rw [gu, h]; rfl
          have fu2 : gat u0 tabU F.items k = false → gat u0 tabU F.items (k + 1) = (uu || b102) := fun h => by rw [gu, h]; rfl
          have fw1 : gat w0 tabW F.items k = true → gat w0 tabW F.items (k + 1) = true := fun h => by rw [gw, h]; rfl
          have fw2 : gat w0 tabW F.items k = false → gat w0 tabW F.items (k + 1) = (ww || b84) := fun h => by rw [gw, h]; rfl
          have fl1 : gat false lackB F.items k = true → gat false lackB F.items (k + 1) = true := fun h => by rw [gl, h]; rfl
          have fl2 : gat false lackB F.items k = false → hro = false → gat false lackB F.items (k + 1) = true := fun h h2 => by rw [gl, h, h2]; rfl
          have fl3 : gat false lackB F.items k = false → hro = true → hki = false → gat false lackB F.items (k + 1) = true := fun h h2 h3 => by rw [gl, h, h2, h3]; rfl
          have fl4 : gat false lackB F.items k = false → hro = true → hki = true → gat false lackB F.items (k + 1) = (hmi != hma) := fun h h2 h3 => by rw [gl, h, h2, h3]; rfl
          repeat' first
            | (refine facW_intro ?_; intro _)
            | ((conv => whnf); first | (refine condW_dec ?_ ?_ <;> intro _ <;> try (exfalso; omega)) | refine condW_not ?_ | (refine condW_bool ?_ ?_ <;> intro _ <;> try (exfalso; omega)) | (refine nbC_t (fun _ => ?_) ?_) | (refine nbC_f ?_ (fun _ => ?_)))
            | refine And.intro (by first | omega | (simp only [Int.toNat_natCast] at *; omega) | (simp only [Nat.reduceAdd, Int.cast_ofNat_Int, true_and, and_true]; omega) | kernel_rfl) ?_
            | refine RegW.run ?_
            | fail
          refine Or.inl ?_
          repeat' first
            | refine Or.inr ⟨_, _, _, c1, by kernel_rfl, (by repeat' first | exact trivial | exact rfl | kernel_rfl | exact Dle.of_eq rfl | exact MLe.of_eq rfl | exact Dle.i (by omega) | exact Dle.i (by simp only [Int.toNat_natCast] at *; omega) | exact Dle.nil | exact Dle.rc Dle.nil | exact Option.some_ne_none _ | exact Or.inl rfl | exact Or.inr trivial | omega | (simp only [Int.toNat_natCast] at *; omega) | (intro _ _ _ _; exact Dle.of_eq rfl) | refine And.intro ?_ ?_), ?_⟩
            | (refine facW_intro ?_; intro _)
            | ((conv => whnf); first | (refine condW_dec ?_ ?_ <;> intro _ <;> try (exfalso; omega)) | refine condW_not ?_ | (refine condW_bool ?_ ?_ <;> intro _ <;> try (exfalso; omega)) | (refine nbC_t (fun _ => ?_) ?_) | (refine nbC_f ?_ (fun _ => ?_)))
            | refine And.intro (by first | omega | (simp only [Int.toNat_natCast] at *; omega) | (simp only [Nat.reduceAdd, Int.cast_ofNat_Int, true_and, and_true]; omega) | kernel_rfl) ?_
            | refine RegW.run ?_
            | (refine Or.inl ?_; refine ⟨_, c2, ?_⟩)
            | refine ⟨_, c2, ?_⟩
            | fail
          refine Or.inr ?_
          refine ⟨Unit, fun z => [(84, dB (b84))], fun z => [], [1, 2, 7, 13, 38, 40, 16], fun z => [], fun z => True, ?_, fun z hz => ?_⟩
          · subst hb84; cases ho <;> cases so
            all_goals
              repeat' first
                | (refine facW_intro ?_; intro _)
                | refine Or.inl ?_
                | ((conv => whnf); first | (refine condW_dec ?_ ?_ <;> intro _ <;> try (exfalso; omega)) | refine condW_not ?_ | (refine condW_bool ?_ ?_ <;> intro _ <;> try (exfalso; omega)) | (refine nbC_t (fun _ => ?_) ?_) | (refine nbC_f ?_ (fun _ => ?_)))
                | refine And.intro (by first | omega | (simp only [Int.toNat_natCast] at *; omega) | (simp only [Nat.reduceAdd, Int.cast_ofNat_Int, true_and, and_true]; omega) | kernel_rfl) ?_
                | refine RegW.run ?_
                | refine ⟨_, c3, ?_⟩
                | fail
              all_goals first
                | exact ⟨(), trivial, ⟨[], ⟨by kernel_rfl, by kernel_rfl, by kernel_rfl, by kernel_rfl, by kernel_rfl, by kernel_rfl, by kernel_rfl⟩, (by repeat' first | exact trivial | exact rfl | kernel_rfl | exact Dle.of_eq rfl | exact MLe.of_eq rfl | exact Dle.i (by omega) | exact Dle.i (by simp only [Int.toNat_natCast] at *; omega) | exact Dle.nil | exact Dle.rc Dle.nil | exact Option.some_ne_none _ | exact Or.inl rfl | exact Or.inr trivial | omega | (simp only [Int.toNat_natCast] at *; omega) | (intro _ _ _ _; exact Dle.of_eq rfl) | refine And.intro ?_ ?_)⟩⟩
                | trace_state
          clear hb84
          cases b84
          all_goals
            repeat' first
              | (refine facW_intro ?_; intro _)
              | ((conv => whnf); first | (refine condW_dec ?_ ?_ <;> intro _ <;> try (exfalso; omega)) | refine condW_not ?_ | (refine condW_bool ?_ ?_ <;> intro _ <;> try (exfalso; omega)) | (refine nbC_t (fun _ => ?_) ?_) | (refine nbC_f ?_ (fun _ => ?_)))
              | refine And.intro (by first | omega | (simp only [Int.toNat_natCast] at *; omega) | (simp only [Nat.reduceAdd, Int.cast_ofNat_Int, true_and, and_true]; omega) | kernel_rfl) ?_
              | refine RegW.run ?_
              | (refine Or.inl ?_; refine ⟨_, c4, ?_⟩)
              | refine ⟨_, c4, ?_⟩
              | fail
            refine Or.inr ?_
            refine ⟨Unit, fun z => [(102, dB (b102))], fun z => [], [1, 2, 7, 13, 38, 40, 16, 18], fun z => [], fun z => True, ?_, fun z hz => ?_⟩
            · subst hb102; cases hki <;> cases co
              all_goals
                repeat' first
                  | (refine facW_intro ?_; intro _)
                  | refine Or.inl ?_
                  | ((conv => whnf); first | (refine condW_dec ?_ ?_ <;> intro _ <;> try (exfalso; omega)) | refine condW_not ?_ | (refine condW_bool ?_ ?_ <;> intro _ <;> try (exfalso; omega)) | (refine nbC_t (fun _ => ?_) ?_) | (refine nbC_f ?_ (fun _ => ?_)))
                  | refine And.intro (by first | omega | (simp only [Int.toNat_natCast] at *; omega) | (simp only [Nat.reduceAdd, Int.cast_ofNat_Int, true_and, and_true]; omega) | kernel_rfl) ?_
                  | refine RegW.run ?_
                  | refine ⟨_, c5, ?_⟩
                  | fail
                all_goals first
                  | exact ⟨(), trivial, ⟨[], ⟨by kernel_rfl, by kernel_rfl, by kernel_rfl, by kernel_rfl, by kernel_rfl, by kernel_rfl, by kernel_rfl⟩, (by repeat' first | (exact Dle.bo (by first | (rw [show decide (vk.text = (⟨#[97, 110, 121]⟩ : ByteArray)) = true from decide_eq_true (by assumption)] <;> rfl) | (rw [show decide (vk.text = (⟨#[97, 110, 121]⟩ : ByteArray)) = false from decide_eq_false (by assumption)] <;> rfl))) | exact trivial | exact rfl | kernel_rfl | exact Dle.of_eq rfl | exact MLe.of_eq rfl | exact Dle.i (by omega) | exact Dle.i (by simp only [Int.toNat_natCast] at *; omega) | exact Dle.nil | exact Dle.rc Dle.nil | exact Option.some_ne_none _ | exact Or.inl rfl | exact Or.inr trivial | omega | (simp only [Int.toNat_natCast] at *; omega) | (intro _ _ _ _; exact Dle.of_eq rfl) | refine And.intro ?_ ?_)⟩⟩
                  | trace_state
            clear hb102
            cases b102
            all_goals
              repeat' first
                | (refine facW_intro ?_; intro _)
                | refine Or.inl ?_
                | ((conv => whnf); first | (refine condW_dec ?_ ?_ <;> intro _ <;> try (exfalso; omega)) | refine condW_not ?_ | (refine condW_bool ?_ ?_ <;> intro _ <;> try (exfalso; omega)) | (refine nbC_t (fun _ => ?_) ?_) | (refine nbC_f ?_ (fun _ => ?_)))
                | refine And.intro (by first | omega | (simp only [Int.toNat_natCast] at *; omega) | (simp only [Nat.reduceAdd, Int.cast_ofNat_Int, true_and, and_true]; omega) | kernel_rfl) ?_
                | refine RegW.run ?_
                | refine ⟨_, c6, ?_⟩
                | refine ⟨_, c7, ?_⟩
                | refine ⟨_, c8, ?_⟩
                | fail
              all_goals first
                | exact ⟨k + 1, ⟨by omega, fun i hi => by
                    by_cases e : i = k
                    · rw [e]; exact hk6
                    · exact hK i (by omega)⟩, ⟨[], ⟨by kernel_rfl, by kernel_rfl, by kernel_rfl, by kernel_rfl, by kernel_rfl, by kernel_rfl, by kernel_rfl⟩, (by repeat' first | (first | exact Dle.bo (fu1 (by assumption)).symm | exact Dle.bo ((fu2 (by assumption)).trans (Bool.or_true _)).symm | exact Dle.bo ((fu2 (by assumption)).trans (Bool.or_false _)).symm | exact Dle.bo (fw1 (by assumption)).symm | exact Dle.bo ((fw2 (by assumption)).trans (Bool.or_true _)).symm | exact Dle.bo ((fw2 (by assumption)).trans (Bool.or_false _)).symm | exact Dle.bo (fl1 (by assumption)).symm | exact Dle.bo (fl2 (by assumption) (by assumption)).symm | exact Dle.bo (fl3 (by assumption) (by assumption) (by assumption)).symm | exact Dle.bo (by rw [fl4 (by assumption) (by assumption) (by assumption)]; cases hmi <;> cases hma <;> rfl)) | exact trivial | exact rfl | kernel_rfl | exact Dle.of_eq rfl | exact MLe.of_eq rfl | exact Dle.i (by omega) | exact Dle.i (by simp only [Int.toNat_natCast] at *; omega) | exact Dle.nil | exact Dle.rc Dle.nil | exact Option.some_ne_none _ | exact Or.inl rfl | exact Or.inr trivial | omega | (simp only [Int.toNat_natCast] at *; omega) | (intro _ _ _ _; exact Dle.of_eq rfl) | refine And.intro ?_ ?_)⟩, by first | omega | (dsimp only; omega)⟩
                | trace_state
        · have hk6' : ¬ (F.items.getD ((k : Int)).toNat .zero).kind = 6 := hk6
          have hq := hq.trans (if_pos (.inr (.inr ⟨k, hlt, .inl hk6⟩)))
          subst hq
          repeat' first
            | (refine facW_intro ?_; intro _)
            | refine Or.inl ?_
            | ((conv => whnf); first | (refine condW_dec ?_ ?_ <;> intro _ <;> try (exfalso; omega)) | refine condW_not ?_ | (refine condW_bool ?_ ?_ <;> intro _ <;> try (exfalso; omega)) | (refine nbC_t (fun _ => ?_) ?_) | (refine nbC_f ?_ (fun _ => ?_)))
            | refine And.intro (by first | omega | (simp only [Int.toNat_natCast] at *; omega) | (simp only [Nat.reduceAdd, Int.cast_ofNat_Int, true_and, and_true]; omega) | kernel_rfl) ?_
            | refine RegW.run ?_
            | fail
          all_goals first
            | (exfalso; exact hk6' (by assumption))
            | exact Dle.tup ⟨hz, Dle.refl _ _, trivial⟩
            | trace_state
      · obtain rfl : k = F.items.length := by omega
        have hW : gat w0 tabW F.items F.items.length = true ↔ (badTop v ∨ ∃ i, i < F.items.length ∧ badTab (F.items.getD i .zero)) := by
          rw [gat_iff, hTop]
          constructor
          · rintro (h | ⟨i, h1, h2⟩)
            · exact .inl h
            · exact .inr ⟨i, h1, (tab_wrong (hTw i h1).1 (hK i h1)).1 h2⟩
          · rintro (h | ⟨i, h1, h2⟩)
            · exact .inl h
            · exact .inr ⟨i, h1, (tab_wrong (hTw i h1).1 (hK i h1)).2 h2⟩
        have hU : gat u0 tabU F.items F.items.length = true ↔ (oddTop v ∨ ∃ i, i < F.items.length ∧ oddTab (F.items.getD i .zero)) := by
          rw [gat_iff, hOdd]
          constructor
          · rintro (h | ⟨i, h1, h2⟩)
            · exact .inl h
            · exact .inr ⟨i, h1, (tab_odd (hTw i h1).1).1 h2⟩
          · rintro (h | ⟨i, h1, h2⟩)
            · exact .inl h
            · exact .inr ⟨i, h1, (tab_odd (hTw i h1).1).2 h2⟩
        have hL : gat false lackB F.items F.items.length = true ↔ ∃ i, i < F.items.length ∧ lackB (F.items.getD i .zero) = true := by
          rw [gat_iff]
          exact ⟨fun h => h.resolve_left (by decide), .inr⟩
        cases hWv : gat w0 tabW F.items F.items.length
        · have hq := hq.trans (if_neg (by
            rintro (h | h)
            · exact h h6
            · rw [hW.2 h] at hWv; cases hWv))
          cases hUv : gat u0 tabU F.items F.items.length
          · have hno : ¬ (oddTop v ∨ ∃ i, i < F.items.length ∧ oddTab (F.items.getD i .zero)) := fun h => by rw [hU.2 h] at hUv; cases hUv
            have hq := hq.trans (if_neg hno)
            cases hLv : gat false lackB F.items F.items.length
            · have hnl : ¬ ∃ i, i < F.items.length ∧ lackB (F.items.getD i .zero) = true := fun h => by rw [hL.2 h] at hLv; cases hLv
              have hq := hq.trans (if_neg hnl)
              repeat' first
                | (refine facW_intro ?_; intro _)
                | refine Or.inl ?_
                | ((conv => whnf); first | (refine condW_dec ?_ ?_ <;> intro _ <;> try (exfalso; omega)) | refine condW_not ?_ | (refine condW_bool ?_ ?_ <;> intro _ <;> try (exfalso; omega)) | (refine nbC_t (fun _ => ?_) ?_) | (refine nbC_f ?_ (fun _ => ?_)))
                | refine And.intro (by first | omega | (simp only [Int.toNat_natCast] at *; omega) | (simp only [Nat.reduceAdd, Int.cast_ofNat_Int, true_and, and_true]; omega) | kernel_rfl) ?_
                | refine RegW.run ?_
                | refine ⟨_, h4, ?_⟩
                | fail
              all_goals try (exfalso; exact absurd (hWv.symm.trans (by assumption)) (by decide))
              all_goals try (exfalso; exact absurd (hUv.symm.trans (by assumption)) (by decide))
              all_goals try (exfalso; exact absurd (hLv.symm.trans (by assumption)) (by decide))
              refine ⟨Nat, fun n => [(161, i64 n)], fun n => [(26, .cells [.own 161 13 0 n, dB S.b])], [1, 2], fun n => [(161, 42, n, fun i j => (readF (F.items.getD i .zero)).cell j)], fun n => n ≤ F.items.length, fun n => F.items.length - n, ⟨0, by omega, ⟨[(161, none)], ⟨by kernel_rfl, by kernel_rfl, by kernel_rfl, by kernel_rfl, by kernel_rfl, by kernel_rfl, by kernel_rfl⟩, (by repeat' first | exact trivial | exact rfl | kernel_rfl | exact Dle.of_eq rfl | exact MLe.of_eq rfl | exact Dle.i (by omega) | exact Dle.i (by simp only [Int.toNat_natCast] at *; omega) | exact Dle.nil | exact Dle.rc Dle.nil | exact Option.some_ne_none _ | exact Or.inl rfl | exact Or.inr trivial | omega | (simp only [Int.toNat_natCast] at *; omega) | (intro _ _ _ _; exact Dle.of_eq rfl) | refine And.intro ?_ ?_)⟩⟩, fun n hn => ?_⟩
              have hn : n ≤ F.items.length := hn
              by_cases hnl2 : n < F.items.length
              · obtain ⟨t1, t2⟩ := hTw n hnl2
                have hlk : lackB (F.items.getD n .zero) = false := by
                  cases h : lackB (F.items.getD n .zero)
                  · rfl
                  · exact absurd ⟨n, hnl2, h⟩ hnl
                have hkw2 : known (itemK (F.items.getD n .zero) (⟨#[107, 105, 110, 100]⟩ : ByteArray)).text = true := by
                  have hhk : hasK (F.items.getD n .zero) (⟨#[107, 105, 110, 100]⟩ : ByteArray) = true := by
                    unfold lackB at hlk
                    simp only [Bool.or_eq_false_iff, Bool.not_eq_false'] at hlk
                    exact hlk.1.2
                  obtain ⟨i, hi, g1, g2⟩ := item_of hhk
                  rw [g2]
                  refine Classical.byContradiction fun h => hno (.inr ⟨n, hnl2, i, hi, .inr ⟨g1, ?_⟩⟩)
                  simpa using h
                have c1 := hfo _ t1 (by omega)
                rw [← readF_eq (fault_keys t1).1 hlk hkw2] at c1
                repeat' first
                  | (refine facW_intro ?_; intro _)
                  | refine Or.inl ?_
                  | ((conv => whnf); first | (refine condW_dec ?_ ?_ <;> intro _ <;> try (exfalso; omega)) | refine condW_not ?_ | (refine condW_bool ?_ ?_ <;> intro _ <;> try (exfalso; omega)) | (refine nbC_t (fun _ => ?_) ?_) | (refine nbC_f ?_ (fun _ => ?_)))
                  | refine And.intro (by first | omega | (simp only [Int.toNat_natCast] at *; omega) | (simp only [Nat.reduceAdd, Int.cast_ofNat_Int, true_and, and_true]; omega) | kernel_rfl) ?_
                  | refine RegW.run ?_
                  | refine ⟨_, c1, ?_⟩
                  | fail
                all_goals first
                  | exact ⟨n + 1, by omega, ⟨[(161, some 170)], ⟨by kernel_rfl, by kernel_rfl, by kernel_rfl, by kernel_rfl, by kernel_rfl, by kernel_rfl, by kernel_rfl⟩, (by repeat' first | exact trivial | exact rfl | kernel_rfl | exact Dle.of_eq rfl | exact MLe.of_eq rfl | exact Dle.i (by omega) | exact Dle.i (by simp only [Int.toNat_natCast] at *; omega) | exact Dle.nil | exact Dle.rc Dle.nil | exact Option.some_ne_none _ | exact Or.inl rfl | exact Or.inr trivial | omega | (simp only [Int.toNat_natCast] at *; omega) | (intro _ _ _ _; exact Dle.of_eq rfl) | (intro i j hi hj; exact row_fd (nEnv E0 hg) (fun i => readF (F.items.getD i .zero)) n i j _ rfl hi hj) | refine And.intro ?_ ?_)⟩, by first | omega | (dsimp only; omega)⟩
                  | trace_state
              · obtain rfl : n = F.items.length := by omega
                generalize hm : F.items.map readF = L at hq hcs
                generalize schemaE L = e at hq hcs
                by_cases he : e = 0
                · have hq := hq.trans (if_neg (fun h => h he))
                  subst he
                  subst hq
                  repeat' first
                    | (refine facW_intro ?_; intro _)
                    | refine Or.inl ?_
                    | ((conv => whnf); first | (refine condW_dec ?_ ?_ <;> intro _ <;> try (exfalso; omega)) | refine condW_not ?_ | (refine condW_bool ?_ ?_ <;> intro _ <;> try (exfalso; omega)) | (refine nbC_t (fun _ => ?_) ?_) | (refine nbC_f ?_ (fun _ => ?_)))
                    | refine And.intro (by first | omega | (simp only [Int.toNat_natCast] at *; omega) | (simp only [Nat.reduceAdd, Int.cast_ofNat_Int, true_and, and_true]; omega) | kernel_rfl) ?_
                    | refine RegW.run ?_
                    | refine ⟨_, hcs, ?_⟩
                    | fail
                  all_goals first
                    | exact Dle.tup ⟨Dle.agg ⟨Dle.sl (by rw [← hm]; simp) (fun i j hi hj => Dle.of_eq (by rw [← hm]; simp [List.getD, hi])), Dle.refl _ _, trivial⟩, Dle.refl _ _, trivial⟩
                    | trace_state
                · have hq := hq.trans (if_pos he)
                  subst hq
                  repeat' first
                    | (refine facW_intro ?_; intro _)
                    | refine Or.inl ?_
                    | ((conv => whnf); first | (refine condW_dec ?_ ?_ <;> intro _ <;> try (exfalso; omega)) | refine condW_not ?_ | (refine condW_bool ?_ ?_ <;> intro _ <;> try (exfalso; omega)) | (refine nbC_t (fun _ => ?_) ?_) | (refine nbC_f ?_ (fun _ => ?_)))
                    | refine And.intro (by first | omega | (simp only [Int.toNat_natCast] at *; omega) | (simp only [Nat.reduceAdd, Int.cast_ofNat_Int, true_and, and_true]; omega) | kernel_rfl) ?_
                    | refine RegW.run ?_
                    | refine ⟨_, hcs, ?_⟩
                    | fail
                  all_goals first
                    | exact Dle.tup ⟨hz, Dle.refl _ _, trivial⟩
                    | trace_state
            · have hq := hq.trans (if_pos (hL.1 hLv))
              subst hq
              repeat' first
                | (refine facW_intro ?_; intro _)
                | refine Or.inl ?_
                | ((conv => whnf); first | (refine condW_dec ?_ ?_ <;> intro _ <;> try (exfalso; omega)) | refine condW_not ?_ | (refine condW_bool ?_ ?_ <;> intro _ <;> try (exfalso; omega)) | (refine nbC_t (fun _ => ?_) ?_) | (refine nbC_f ?_ (fun _ => ?_)))
                | refine And.intro (by first | omega | (simp only [Int.toNat_natCast] at *; omega) | (simp only [Nat.reduceAdd, Int.cast_ofNat_Int, true_and, and_true]; omega) | kernel_rfl) ?_
                | refine RegW.run ?_
                | fail
              all_goals first
                | (exfalso; exact absurd (hWv.symm.trans (by assumption)) (by decide))
                | (exfalso; exact absurd (hUv.symm.trans (by assumption)) (by decide))
                | (exfalso; exact absurd (hLv.symm.trans (by assumption)) (by decide))
                | exact Dle.tup ⟨hz, Dle.refl _ _, trivial⟩
                | trace_state
          · have hq := hq.trans (if_pos (hU.1 hUv))
            subst hq
            repeat' first
              | (refine facW_intro ?_; intro _)
              | refine Or.inl ?_
              | ((conv => whnf); first | (refine condW_dec ?_ ?_ <;> intro _ <;> try (exfalso; omega)) | refine condW_not ?_ | (refine condW_bool ?_ ?_ <;> intro _ <;> try (exfalso; omega)) | (refine nbC_t (fun _ => ?_) ?_) | (refine nbC_f ?_ (fun _ => ?_)))
              | refine And.intro (by first | omega | (simp only [Int.toNat_natCast] at *; omega) | (simp only [Nat.reduceAdd, Int.cast_ofNat_Int, true_and, and_true]; omega) | kernel_rfl) ?_
              | refine RegW.run ?_
              | fail
            all_goals first
              | (exfalso; exact absurd (hWv.symm.trans (by assumption)) (by decide))
              | (exfalso; exact absurd (hUv.symm.trans (by assumption)) (by decide))
              | exact Dle.tup ⟨hz, Dle.refl _ _, trivial⟩
              | trace_state
        · have hq := hq.trans (if_pos (.inr (hW.1 hWv)))
          subst hq
          repeat' first
            | (refine facW_intro ?_; intro _)
            | refine Or.inl ?_
            | ((conv => whnf); first | (refine condW_dec ?_ ?_ <;> intro _ <;> try (exfalso; omega)) | refine condW_not ?_ | (refine condW_bool ?_ ?_ <;> intro _ <;> try (exfalso; omega)) | (refine nbC_t (fun _ => ?_) ?_) | (refine nbC_f ?_ (fun _ => ?_)))
            | refine And.intro (by first | omega | (simp only [Int.toNat_natCast] at *; omega) | (simp only [Nat.reduceAdd, Int.cast_ofNat_Int, true_and, and_true]; omega) | kernel_rfl) ?_
            | refine RegW.run ?_
            | fail
          all_goals first
            | (exfalso; exact absurd (hWv.symm.trans (by assumption)) (by decide))
            | exact Dle.tup ⟨hz, Dle.refl _ _, trivial⟩
            | trace_state
    · have hq := hq.trans (if_pos (.inl h6))
      have hz := zeroS E
      subst hq
      refine Sp.body Tryz.func6 (by kernel_rfl) rfl (by kernel_rfl) (by kernel_rfl) (by kernel_rfl) ?_
      repeat' first
        | (refine facW_intro ?_; intro _)
        | refine Or.inl ?_
        | ((conv => whnf); first | (refine condW_dec ?_ ?_ <;> intro _ <;> try (exfalso; omega)) | refine condW_not ?_ | (refine condW_bool ?_ ?_ <;> intro _ <;> try (exfalso; omega)) | (refine nbC_t (fun _ => ?_) ?_) | (refine nbC_f ?_ (fun _ => ?_)))
        | refine And.intro (by first | omega | (simp only [Int.toNat_natCast] at *; omega) | (simp only [Nat.reduceAdd, Int.cast_ofNat_Int, true_and, and_true]; omega) | kernel_rfl) ?_
        | refine RegW.run ?_
        | refine ⟨_, h1, ?_⟩
        | fail
      all_goals first
        | exact Dle.tup ⟨hz, Dle.refl _ _, trivial⟩
        | trace_state
  · have hq := hq.trans (if_pos hc)
    generalize checkE v = e at hq h1 hc
    subst hq
    refine Sp.body Tryz.func6 (by kernel_rfl) rfl (by kernel_rfl) (by kernel_rfl) (by kernel_rfl) ?_
    repeat' first
      | (refine facW_intro ?_; intro _)
      | refine Or.inl ?_
      | ((conv => whnf); first | (refine condW_dec ?_ ?_ <;> intro _ <;> try (exfalso; omega)) | refine condW_not ?_ | (refine condW_bool ?_ ?_ <;> intro _ <;> try (exfalso; omega)) | (refine nbC_t (fun _ => ?_) ?_) | (refine nbC_f ?_ (fun _ => ?_)))
      | refine And.intro (by first | omega | (simp only [Int.toNat_natCast] at *; omega) | (simp only [Nat.reduceAdd, Int.cast_ofNat_Int, true_and, and_true]; omega) | kernel_rfl) ?_
      | refine RegW.run ?_
      | refine ⟨_, h1, ?_⟩
      | fail
    all_goals first
      | exact Dle.tup ⟨zeroS E, Dle.refl _ _, trivial⟩
      | trace_state
end
end rs
end Go.Proofs.YtilfmjldcigagaaGreatDoor
