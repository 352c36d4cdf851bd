/-
  A schema's value, the program: ReadSchema.
-/
import Derived.Test.YtilfmjldcigagaaGreatDoorRs4
import Derived.Test.YtilfmjldcigagaaGreatDoorRs1b
import Derived.Test.YtilfmjldcigagaaGreatDoorK2
namespace Go.Proofs.YtilfmjldcigagaaGreatDoor
open Go.RowKit
set_option linter.unusedVariables false
set_option linter.unusedSimpArgs false
namespace rs
theorem read_ok {t : Vu} (hf : faultE t = 0) : (readF t).dflt.wt ≤ t.wt + 1 ∧ (readF t).route.size ≤ t.wt + 1 := by
  unfold readF
  rw [rdN_eq (fault_keys hf).1 _ (Nat.le_refl _)]
  unfold fieldN
  simp only [itN_all]
  have h1 := item_wt hf (⟨#[100, 101, 102, 97, 117, 108, 116]⟩ : ByteArray)
  have h2 := item_wt hf (⟨#[114, 111, 117, 116, 101]⟩ : ByteArray)
  have h3 : (itemK t (⟨#[114, 111, 117, 116, 101]⟩ : ByteArray)).text.size ≤ (itemK t (⟨#[114, 111, 117, 116, 101]⟩ : ByteArray)).wt := by
    cases itemK t (⟨#[114, 111, 117, 116, 101]⟩ : ByteArray)
    simp only [Vu.wt, Vu.text]
    omega
  exact ⟨h1, by omega⟩
def encR (q : List Fd × Bool × Int) : DD := .tup [.agg [encFs q.1, dB q.2.1], i64 q.2.2]
theorem map_take {l : List Vu} {k : Nat} (h : k < l.length) : (l.take (k + 1)).map readF = (l.take k).map readF ++ [readF (l.getD k .zero)] := by
  rw [take_snoc l .zero k h, List.map_append]
  rfl
section
variable (E : Env)
set_option maxRecDepth 100000
theorem row_fd (f : Nat → Fd) (k i j : Nat) (c : Fd) (hc : f k = c) (hi : i < k + 1) (hj : j < 13) : Dle (cx Tryz.prog mixed tyT_ok E) (if i < k then (f i).cell j else (encF c).cells.getD ((i - k + 0) * 13 + j) .opq) ((f i).cell j) := by
  by_cases h : i < k
  · rw [if_pos h]; exact Dle.refl _ _
  · rw [if_neg h]
    obtain rfl : i = k := by omega
    rw [show (i - i + 0) * 13 + j = j by omega, hc]
    match j, hj with
    | 0, _ => exact Dle.refl _ _
    | 1, _ => exact Dle.refl _ _
    | 2, _ => exact Dle.refl _ _
    | 3, _ => exact Dle.refl _ _
    | 4, _ => exact Dle.refl _ _
    | 5, _ => exact Dle.refl _ _
    | 6, _ => exact Dle.refl _ _
    | 7, _ => exact Dle.refl _ _
    | 8, _ => exact Dle.refl _ _
    | 9, _ => exact Dle.refl _ _
    | 10, _ => exact Dle.refl _ _
    | 11, _ => exact Dle.refl _ _
    | 12, _ => exact Dle.refl _ _
theorem zeroS : Dle (cx Tryz.prog mixed tyT_ok E) (.agg [.v (.slice none 0 0), dB false]) (.agg [encFs [], dB false]) := Dle.agg ⟨Dle.nil, Dle.refl _ _, trivial⟩
set_option maxHeartbeats 16000000 in
theorem readSchema_sp (hML : ∀ w, E.G w → ML w) (E0 : Env) (hg : ∀ w, E0.G w → ∀ g, Rep view E0.MG w b0 (namesGv g) (.pointer (some ⟨g, 0, none⟩))) (hE : E = nEnv E0 hg) (v : Vu) (hw : v.wt ≤ 10000000) : Sp (cx Tryz.prog mixed tyT_ok E) 5 [encV v] (encR (readS schemaE v)) := by
  have hkw := keys_le_wt v
  have h1 := check_sp E v (by have := cnt_le_wt v; omega)
  obtain ⟨q, hq⟩ : ∃ q, q = readS schemaE v := ⟨_, rfl⟩
  rw [← hq]
  unfold readS at hq
  by_cases hc : checkE v = 0
  · have hq := hq.trans (if_neg (fun h => h hc))
    rw [hc] at h1
    have hf := check_ok hc
    by_cases hk : wrongK v
    · have hq := hq.trans (if_pos hk)
      have h2 := wrongKinds_sp E v hf (by omega) true ⟨fun _ => hk, fun _ => rfl⟩
      subst hq
      refine Sp.body Tryz.func5 (by kernel_rfl) rfl (by kernel_rfl) (by kernel_rfl) (by kernel_rfl) ?_
      repeat' first
        | (refine facW_intro ?_; intro _)
        | refine Or.inl ?_
        | ((conv => whnf); first | (refine condW_dec ?_ ?_ <;> intro _ <;> try (exfalso; omega)) | refine condW_not ?_ | (refine condW_bool ?_ ?_ <;> intro _ <;> try (exfalso; omega)) | (refine nbC_t (fun _ => ?_) ?_) | (refine nbC_f ?_ (fun _ => ?_)))
        | refine And.intro (by first | omega | (simp only [Int.toNat_natCast] at *; omega) | (simp only [Nat.reduceAdd, Int.cast_ofNat_Int, true_and, and_true]; omega) | kernel_rfl) ?_
        | refine RegW.run ?_
        | refine ⟨_, h1, ?_⟩
        | refine ⟨_, h2, ?_⟩
        | fail
      all_goals first
        | exact Dle.tup ⟨zeroS E, Dle.refl _ _, trivial⟩
        | trace_state
    · have hq := hq.trans (if_neg hk)
      have h2 := wrongKinds_sp E v hf (by omega) false ⟨fun h => (by cases h), fun h => absurd h hk⟩
      by_cases hn : wrongN v
      · have hq := hq.trans (if_pos hn)
        have h3 := wrongNames_sp E E0 hg hE v hf (by omega) true ⟨fun _ => hn, fun _ => rfl⟩
        subst hq
        refine Sp.body Tryz.func5 (by kernel_rfl) rfl (by kernel_rfl) (by kernel_rfl) (by kernel_rfl) ?_
        repeat' first
          | (refine facW_intro ?_; intro _)
          | refine Or.inl ?_
          | ((conv => whnf); first | (refine condW_dec ?_ ?_ <;> intro _ <;> try (exfalso; omega)) | refine condW_not ?_ | (refine condW_bool ?_ ?_ <;> intro _ <;> try (exfalso; omega)) | (refine nbC_t (fun _ => ?_) ?_) | (refine nbC_f ?_ (fun _ => ?_)))
          | refine And.intro (by first | omega | (simp only [Int.toNat_natCast] at *; omega) | (simp only [Nat.reduceAdd, Int.cast_ofNat_Int, true_and, and_true]; omega) | kernel_rfl) ?_
          | refine RegW.run ?_
          | refine ⟨_, h1, ?_⟩
          | refine ⟨_, h2, ?_⟩
          | refine ⟨_, h3, ?_⟩
          | fail
        all_goals first
          | exact Dle.tup ⟨zeroS E, Dle.refl _ _, trivial⟩
          | trace_state
      · have hq := hq.trans (if_neg hn)
        have h3 := wrongNames_sp E E0 hg hE v hf (by omega) false ⟨fun h => (by cases h), fun h => absurd h hn⟩
        have h4 := item_sp E v (⟨#[115, 116, 114, 105, 99, 116]⟩ : ByteArray) hf (by omega)
        have h5 := item_sp E v (⟨#[102, 105, 101, 108, 100, 115]⟩ : ByteArray) hf (by omega)
        have hF := item_fault hf (⟨#[102, 105, 101, 108, 100, 115]⟩ : ByteArray)
        have hFw := item_wt hf (⟨#[102, 105, 101, 108, 100, 115]⟩ : ByteArray)
        unfold flds at hq
        generalize itemK v (⟨#[115, 116, 114, 105, 99, 116]⟩ : ByteArray) = S at hq h4
        generalize itemK v (⟨#[102, 105, 101, 108, 100, 115]⟩ : ByteArray) = F at hq h5 hF hFw
        have hFl := len_le_wtL F.items
        have hFl2 := wtL_le_wt F
        have hTw : ∀ k, k < F.items.length → faultE (F.items.getD k .zero) = 0 ∧ (F.items.getD k .zero).wt ≤ 20000000 := fun k h => ⟨fault_mem hF h, by have := wt_mem F.items _ (getD_mem F.items .zero k h); omega⟩
        refine Sp.body Tryz.func5 (by kernel_rfl) rfl (by kernel_rfl) (by kernel_rfl) (by kernel_rfl) ?_
        repeat' first
          | (refine facW_intro ?_; intro _)
          | refine Or.inl ?_
          | ((conv => whnf); first | (refine condW_dec ?_ ?_ <;> intro _ <;> try (exfalso; omega)) | refine condW_not ?_ | (refine condW_bool ?_ ?_ <;> intro _ <;> try (exfalso; omega)) | (refine nbC_t (fun _ => ?_) ?_) | (refine nbC_f ?_ (fun _ => ?_)))
          | refine And.intro (by first | omega | (simp only [Int.toNat_natCast] at *; omega) | (simp only [Nat.reduceAdd, Int.cast_ofNat_Int, true_and, and_true]; omega) | kernel_rfl) ?_
          | refine RegW.run ?_
          | refine ⟨_, h1, ?_⟩
          | refine ⟨_, h2, ?_⟩
          | refine ⟨_, h3, ?_⟩
          | refine ⟨_, h4, ?_⟩
          | refine ⟨_, h5, ?_⟩
          | fail
        refine ⟨Nat, fun k => [(41, i64 k)], fun k => [(9, .cells [.own 41 13 0 k, dB S.b])], [1, 2], fun k => [(41, 42, k, fun i j => (readF (F.items.getD i .zero)).cell j)], fun k => k ≤ F.items.length ∧ ∀ i, i < k → lackB (F.items.getD i .zero) = false, fun k => F.items.length - k, ⟨0, ⟨by omega, fun i hi => by omega⟩, ⟨[(41, none)], ⟨by kernel_rfl, by kernel_rfl, by kernel_rfl, by kernel_rfl, by kernel_rfl, by kernel_rfl, by kernel_rfl⟩, (by repeat' first | exact trivial | exact rfl | kernel_rfl | exact Dle.of_eq rfl | exact MLe.of_eq rfl | exact Dle.i (by omega) | exact Dle.i (by simp only [Int.toNat_natCast] at *; omega) | exact Dle.nil | exact Dle.rc Dle.nil | exact Option.some_ne_none _ | exact Or.inl rfl | exact Or.inr trivial | omega | (simp only [Int.toNat_natCast] at *; omega) | (intro _ _ _ _; exact Dle.of_eq rfl) | refine And.intro ?_ ?_)⟩⟩, fun k hk => ?_⟩
        obtain ⟨hk9, hK⟩ := hk
        by_cases hlt : k < F.items.length
        · obtain ⟨t1, t2⟩ := hTw k hlt
          have h6 := lacking_sp E (F.items.getD k .zero) t1 (by omega)
          have h7 := readField_sp E E0 hg hE (F.items.getD k .zero) t1 (by omega)
          cases hL : lackB (F.items.getD k .zero)
          · rw [hL] at h6
            repeat' first
              | (refine facW_intro ?_; intro _)
              | refine Or.inl ?_
              | ((conv => whnf); first | (refine condW_dec ?_ ?_ <;> intro _ <;> try (exfalso; omega)) | refine condW_not ?_ | (refine condW_bool ?_ ?_ <;> intro _ <;> try (exfalso; omega)) | (refine nbC_t (fun _ => ?_) ?_) | (refine nbC_f ?_ (fun _ => ?_)))
              | refine And.intro (by first | omega | (simp only [Int.toNat_natCast] at *; omega) | (simp only [Nat.reduceAdd, Int.cast_ofNat_Int, true_and, and_true]; omega) | kernel_rfl) ?_
              | refine RegW.run ?_
              | refine ⟨_, h6, ?_⟩
              | refine ⟨_, h7, ?_⟩
              | fail
            all_goals first
              | exact ⟨k + 1, ⟨by omega, fun i hi => by
                  by_cases e : i = k
                  · rw [e]; exact hL
                  · exact hK i (by omega)⟩, ⟨[(41, some 53)], ⟨by kernel_rfl, by kernel_rfl, by kernel_rfl, by kernel_rfl, by kernel_rfl, by kernel_rfl, by kernel_rfl⟩, (by repeat' first | exact trivial | exact rfl | kernel_rfl | exact Dle.of_eq rfl | exact MLe.of_eq rfl | exact Dle.i (by omega) | exact Dle.i (by simp only [Int.toNat_natCast] at *; omega) | exact Dle.nil | exact Dle.rc Dle.nil | exact Option.some_ne_none _ | exact Or.inl rfl | exact Or.inr trivial | omega | (simp only [Int.toNat_natCast] at *; omega) | (intro _ _ _ _; exact Dle.of_eq rfl) | (intro i j hi hj; exact row_fd E (fun i => readF (F.items.getD i .zero)) k i j _ rfl hi hj) | refine And.intro ?_ ?_)⟩, by first | omega | (dsimp only; omega)⟩
              | trace_state
          · rw [hL] at h6
            have hq := hq.trans (if_pos ⟨k, hlt, hL⟩)
            subst hq
            repeat' first
              | (refine facW_intro ?_; intro _)
              | refine Or.inl ?_
              | ((conv => whnf); first | (refine condW_dec ?_ ?_ <;> intro _ <;> try (exfalso; omega)) | refine condW_not ?_ | (refine condW_bool ?_ ?_ <;> intro _ <;> try (exfalso; omega)) | (refine nbC_t (fun _ => ?_) ?_) | (refine nbC_f ?_ (fun _ => ?_)))
              | refine And.intro (by first | omega | (simp only [Int.toNat_natCast] at *; omega) | (simp only [Nat.reduceAdd, Int.cast_ofNat_Int, true_and, and_true]; omega) | kernel_rfl) ?_
              | refine RegW.run ?_
              | refine ⟨_, h6, ?_⟩
              | refine ⟨_, h7, ?_⟩
              | fail
            all_goals first
              | exact Dle.tup ⟨zeroS E, Dle.refl _ _, trivial⟩
              | trace_state
        · obtain rfl : k = F.items.length := by omega
          have hq := hq.trans (if_neg (fun ⟨i, h1, h2⟩ => by rw [hK i h1] at h2; cases h2))
          have h8 := checkSchema_sp E hML (F.items.map readF) S.b (fun f hf2 => by
            obtain ⟨t, ht, rfl⟩ := List.mem_map.1 hf2
            obtain ⟨n, hn1, hn2⟩ := List.mem_iff_getElem.1 ht
            have hn3 : F.items.getD n .zero = t := by simp [List.getD, hn1, hn2]
            obtain ⟨t1, t2⟩ := hTw n hn1
            rw [hn3] at t1 t2
            have := read_ok t1
            omega) (by rw [List.length_map]; omega)
          have h8 := h8.args (ds := [.agg [.sl 13 160 F.items.length (fun i j => (readF (F.items.getD i .zero)).cell j), dB S.b]]) ⟨Dle.agg ⟨Dle.sl (by simp) (fun i j hi hj => Dle.of_eq (by simp [List.getD, hi])), Dle.refl _ _, trivial⟩, trivial⟩
          generalize hm : F.items.map readF = L at hq h8
          generalize schemaE L = e at hq h8
          by_cases he : e = 0
          · have hq := hq.trans (if_neg (fun h => h he))
            subst he
            subst hq
            repeat' first
              | (refine facW_intro ?_; intro _)
              | refine Or.inl ?_
              | ((conv => whnf); first | (refine condW_dec ?_ ?_ <;> intro _ <;> try (exfalso; omega)) | refine condW_not ?_ | (refine condW_bool ?_ ?_ <;> intro _ <;> try (exfalso; omega)) | (refine nbC_t (fun _ => ?_) ?_) | (refine nbC_f ?_ (fun _ => ?_)))
              | refine And.intro (by first | omega | (simp only [Int.toNat_natCast] at *; omega) | (simp only [Nat.reduceAdd, Int.cast_ofNat_Int, true_and, and_true]; omega) | kernel_rfl) ?_
              | refine RegW.run ?_
              | refine ⟨_, h8, ?_⟩
              | fail
            all_goals first
              | exact Dle.tup ⟨Dle.agg ⟨Dle.sl (by rw [← hm]; simp) (fun i j hi hj => Dle.of_eq (by rw [← hm]; simp [List.getD, hi])), Dle.refl _ _, trivial⟩, Dle.refl _ _, trivial⟩
              | trace_state
          · have hq := hq.trans (if_pos he)
            subst hq
            repeat' first
              | (refine facW_intro ?_; intro _)
              | refine Or.inl ?_
              | ((conv => whnf); first | (refine condW_dec ?_ ?_ <;> intro _ <;> try (exfalso; omega)) | refine condW_not ?_ | (refine condW_bool ?_ ?_ <;> intro _ <;> try (exfalso; omega)) | (refine nbC_t (fun _ => ?_) ?_) | (refine nbC_f ?_ (fun _ => ?_)))
              | refine And.intro (by first | omega | (simp only [Int.toNat_natCast] at *; omega) | (simp only [Nat.reduceAdd, Int.cast_ofNat_Int, true_and, and_true]; omega) | kernel_rfl) ?_
              | refine RegW.run ?_
              | refine ⟨_, h8, ?_⟩
              | fail
            all_goals first
              | exact Dle.tup ⟨zeroS E, Dle.refl _ _, trivial⟩
              | trace_state
  · have hq := hq.trans (if_pos hc)
    generalize checkE v = e at hq h1 hc
    subst hq
    refine Sp.body Tryz.func5 (by kernel_rfl) rfl (by kernel_rfl) (by kernel_rfl) (by kernel_rfl) ?_
    repeat' first
      | (refine facW_intro ?_; intro _)
      | refine Or.inl ?_
      | ((conv => whnf); first | (refine condW_dec ?_ ?_ <;> intro _ <;> try (exfalso; omega)) | refine condW_not ?_ | (refine condW_bool ?_ ?_ <;> intro _ <;> try (exfalso; omega)) | (refine nbC_t (fun _ => ?_) ?_) | (refine nbC_f ?_ (fun _ => ?_)))
      | refine And.intro (by first | omega | (simp only [Int.toNat_natCast] at *; omega) | (simp only [Nat.reduceAdd, Int.cast_ofNat_Int, true_and, and_true]; omega) | kernel_rfl) ?_
      | refine RegW.run ?_
      | refine ⟨_, h1, ?_⟩
      | fail
    all_goals first
      | exact Dle.tup ⟨zeroS E, Dle.refl _ _, trivial⟩
      | trace_state
end
end rs
end Go.Proofs.YtilfmjldcigagaaGreatDoor
