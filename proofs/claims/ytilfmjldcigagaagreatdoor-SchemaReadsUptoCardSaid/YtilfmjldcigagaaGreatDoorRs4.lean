/-
  A schema's value, the program: readField.
-/
import Derived.Test.YtilfmjldcigagaaGreatDoorRs1c
namespace Go.Proofs.YtilfmjldcigagaaGreatDoor
open Go.RowKit
set_option linter.unusedVariables false
set_option linter.unusedSimpArgs false
namespace rs
theorem one_len {t : Vu} (hf : faultE t = 0) {n : Nat} (hn : n ≤ t.keys.length) : (rdN t n).oneOf.length ≤ t.wt := by
  rw [rdN_eq (fault_keys hf).1 n hn]
  show ((itN t n (⟨#[111, 110, 101, 111, 102]⟩ : ByteArray)).items.map (·.text)).length ≤ _
  rw [List.length_map]
  unfold itN
  split
  · rename_i h
    have h1 := item_lt hf h.1
    have h2 := wt_mem t.items _ (getD_mem t.items .zero _ h1)
    have h3 := len_le_wtL (t.items.getD (findK t (⟨#[111, 110, 101, 111, 102]⟩ : ByteArray)) .zero).items
    have h4 := wtL_le_wt (t.items.getD (findK t (⟨#[111, 110, 101, 111, 102]⟩ : ByteArray)) .zero)
    have h5 := wtL_le_wt t
    omega
  · exact Nat.zero_le _
section
variable (E : Env)
set_option maxRecDepth 100000
theorem row_str3 (l : Nat → ByteArray) (k i j : Nat) (c : ByteArray) (hc : l k = c) (hi : i < k + 1) (hj : j < 1) : Dle (cx Tryz.prog mixed tyT_ok E) (if i < k then (.v (.string (l i))) else ([.v (.string c)] : List DD).getD ((i - k + 0) * 1 + j) .opq) (.v (.string (l i))) := by
  subst hc
  exact row_str E l k i j hi hj
set_option maxHeartbeats 16000000 in
theorem readField_sp (E0 : Env) (hg : ∀ w, E0.G w → ∀ g, Rep view E0.MG w b0 (namesGv g) (.pointer (some ⟨g, 0, none⟩))) (hE : E = nEnv E0 hg) (t : Vu) (hf : faultE t = 0) (hw : t.wt ≤ 100000000) : Sp (cx Tryz.prog mixed tyT_ok E) 15 [encV t] (encF (readF t)) := by
  have hko := fun s => kindOf_sp E E0 hg hE s
  have hcl := fun (x : Vu) (h : x.wt ≤ 1000000000000) => clone_sp E _ x (Nat.lt_succ_self _) h
  have hkl := keys_le hf
  unfold readF
  refine Sp.body Tryz.func15 (by kernel_rfl) rfl (by kernel_rfl) (by kernel_rfl) (by kernel_rfl) ?_
  repeat' first
    | (refine facW_intro ?_; intro _)
    | refine Or.inl ?_
    | ((conv => whnf); first | (refine condW_dec ?_ ?_ <;> intro _ <;> try (exfalso; omega)) | refine condW_not ?_ | (refine condW_bool ?_ ?_ <;> intro _ <;> try (exfalso; omega)) | (refine nbC_t (fun _ => ?_) ?_) | (refine nbC_f ?_ (fun _ => ?_)))
    | refine And.intro (by first | omega | (simp only [Int.toNat_natCast] at *; omega) | (simp only [Nat.reduceAdd, Int.cast_ofNat_Int, true_and, and_true]; omega) | kernel_rfl) ?_
    | refine RegW.run ?_
    | fail
  refine ⟨Nat, fun k => [(13, i64 k)], fun k => [(3, .cells [dS (rdN t k).route, i64 (rdN t k).kind, dB (rdN t k).need, dB (rdN t k).bounded, i64 (rdN t k).lo, i64 (rdN t k).hi, .own 13 1 0 (rdN t k).oneOf.length, i64 (rdN t k).dflt.kind, dB (rdN t k).dflt.b, i64 (rdN t k).dflt.i, dS (rdN t k).dflt.text, .rc (.vals (rdN t k).dflt.items), encStrs (rdN t k).dflt.keys])], [1, 2], fun k => [(13, 9, (rdN t k).oneOf.length, fun i j => dS ((rdN t k).oneOf.getD i ⟨#[]⟩))], fun k => k ≤ t.keys.length, fun k => t.keys.length - k, ⟨0, by omega, ⟨[(13, none)], ⟨by kernel_rfl, by kernel_rfl, by kernel_rfl, by kernel_rfl, by kernel_rfl, by kernel_rfl, by kernel_rfl⟩, (by repeat' first | exact trivial | exact rfl | kernel_rfl | exact Dle.of_eq rfl | exact MLe.of_eq rfl | exact Dle.i (by omega) | exact Dle.i (by simp only [Int.toNat_natCast] at *; omega) | exact Dle.nil | exact Dle.rc Dle.nil | exact Option.some_ne_none _ | exact Or.inl rfl | exact Or.inr trivial | omega | (simp only [Int.toNat_natCast] at *; omega) | (intro _ _ _ _; exact Dle.of_eq rfl) | refine And.intro ?_ ?_)⟩⟩, fun k hk => ?_⟩
  have hk : k ≤ t.keys.length := hk
  by_cases hlt : k < t.keys.length
  · have hon := one_len hf hk
    have hxw : (t.items.getD k .zero).wt ≤ t.wt := by
      have h1 := wt_mem t.items _ (getD_mem t.items .zero k (by omega))
      have h2 := wtL_le_wt t
      omega
    have hxl : (t.items.getD k .zero).items.length ≤ t.wt := by
      have h3 := len_le_wtL (t.items.getD k .zero).items
      have h4 := wtL_le_wt (t.items.getD k .zero)
      omega
    have hxl' : (t.items.getD ((k : Int)).toNat .zero).items.length ≤ t.wt := hxl
    have c1 := hko (t.items.getD k .zero).text
    have c2 := hcl (t.items.getD k .zero) (by omega)
    have e1 : t.keys.getD ((k : Int)).toNat ⟨#[]⟩ = (⟨#[114, 111, 117, 116, 101]⟩ : ByteArray) → rdN t (k + 1) = { rdN t k with route := (t.items.getD k .zero).text } := fun h => by
      rw [rdN, show t.keys.getD k ⟨#[]⟩ = (⟨#[114, 111, 117, 116, 101]⟩ : ByteArray) from h]
      unfold rd1
      rw [if_pos rfl]
    have e2 : t.keys.getD ((k : Int)).toNat ⟨#[]⟩ = (⟨#[107, 105, 110, 100]⟩ : ByteArray) → rdN t (k + 1) = { rdN t k with kind := kindV (t.items.getD k .zero).text } := fun h => by
      rw [rdN, show t.keys.getD k ⟨#[]⟩ = (⟨#[107, 105, 110, 100]⟩ : ByteArray) from h]
      unfold rd1
      rw [if_neg (by decide), if_pos rfl]
    have e3 : t.keys.getD ((k : Int)).toNat ⟨#[]⟩ = (⟨#[110, 101, 101, 100]⟩ : ByteArray) → rdN t (k + 1) = { rdN t k with need := (t.items.getD k .zero).b } := fun h => by
      rw [rdN, show t.keys.getD k ⟨#[]⟩ = (⟨#[110, 101, 101, 100]⟩ : ByteArray) from h]
      unfold rd1
      rw [if_neg (by decide), if_neg (by decide), if_pos rfl]
    have e4 : t.keys.getD ((k : Int)).toNat ⟨#[]⟩ = (⟨#[109, 105, 110]⟩ : ByteArray) → rdN t (k + 1) = { rdN t k with bounded := true, lo := (t.items.getD k .zero).i } := fun h => by
      rw [rdN, show t.keys.getD k ⟨#[]⟩ = (⟨#[109, 105, 110]⟩ : ByteArray) from h]
      unfold rd1
      rw [if_neg (by decide), if_neg (by decide), if_neg (by decide), if_pos rfl]
    have e5 : t.keys.getD ((k : Int)).toNat ⟨#[]⟩ = (⟨#[109, 97, 120]⟩ : ByteArray) → rdN t (k + 1) = { rdN t k with bounded := true, hi := (t.items.getD k .zero).i } := fun h => by
      rw [rdN, show t.keys.getD k ⟨#[]⟩ = (⟨#[109, 97, 120]⟩ : ByteArray) from h]
      unfold rd1
      rw [if_neg (by decide), if_neg (by decide), if_neg (by decide), if_neg (by decide), if_pos rfl]
    have e6 : t.keys.getD ((k : Int)).toNat ⟨#[]⟩ = (⟨#[111, 110, 101, 111, 102]⟩ : ByteArray) → rdN t (k + 1) = { rdN t k with oneOf := (rdN t k).oneOf ++ (t.items.getD k .zero).items.map (·.text) } := fun h => by
      rw [rdN, show t.keys.getD k ⟨#[]⟩ = (⟨#[111, 110, 101, 111, 102]⟩ : ByteArray) from h]
      unfold rd1
      rw [if_neg (by decide), if_neg (by decide), if_neg (by decide), if_neg (by decide), if_neg (by decide), if_pos rfl]
    have e7 : t.keys.getD ((k : Int)).toNat ⟨#[]⟩ = (⟨#[100, 101, 102, 97, 117, 108, 116]⟩ : ByteArray) → rdN t (k + 1) = { rdN t k with dflt := (t.items.getD k .zero) } := fun h => by
      rw [rdN, show t.keys.getD k ⟨#[]⟩ = (⟨#[100, 101, 102, 97, 117, 108, 116]⟩ : ByteArray) from h]
      unfold rd1
      rw [if_neg (by decide), if_neg (by decide), if_neg (by decide), if_neg (by decide), if_neg (by decide), if_neg (by decide), if_pos rfl]
    have e8 : ¬ t.keys.getD ((k : Int)).toNat ⟨#[]⟩ = (⟨#[114, 111, 117, 116, 101]⟩ : ByteArray) → ¬ t.keys.getD ((k : Int)).toNat ⟨#[]⟩ = (⟨#[107, 105, 110, 100]⟩ : ByteArray) → ¬ t.keys.getD ((k : Int)).toNat ⟨#[]⟩ = (⟨#[110, 101, 101, 100]⟩ : ByteArray) → ¬ t.keys.getD ((k : Int)).toNat ⟨#[]⟩ = (⟨#[109, 105, 110]⟩ : ByteArray) → ¬ t.keys.getD ((k : Int)).toNat ⟨#[]⟩ = (⟨#[109, 97, 120]⟩ : ByteArray) → ¬ t.keys.getD ((k : Int)).toNat ⟨#[]⟩ = (⟨#[111, 110, 101, 111, 102]⟩ : ByteArray) → ¬ t.keys.getD ((k : Int)).toNat ⟨#[]⟩ = (⟨#[100, 101, 102, 97, 117, 108, 116]⟩ : ByteArray) → rdN t (k + 1) = rdN t k := fun h1 h2 h3 h4 h5 h6 h7 => by
      rw [rdN]
      unfold rd1
      rw [if_neg (show ¬ t.keys.getD k ⟨#[]⟩ = (⟨#[114, 111, 117, 116, 101]⟩ : ByteArray) from h1), if_neg (show ¬ t.keys.getD k ⟨#[]⟩ = (⟨#[107, 105, 110, 100]⟩ : ByteArray) from h2), if_neg (show ¬ t.keys.getD k ⟨#[]⟩ = (⟨#[110, 101, 101, 100]⟩ : ByteArray) from h3), if_neg (show ¬ t.keys.getD k ⟨#[]⟩ = (⟨#[109, 105, 110]⟩ : ByteArray) from h4), if_neg (show ¬ t.keys.getD k ⟨#[]⟩ = (⟨#[109, 97, 120]⟩ : ByteArray) from h5), if_neg (show ¬ t.keys.getD k ⟨#[]⟩ = (⟨#[111, 110, 101, 111, 102]⟩ : ByteArray) from h6), if_neg (show ¬ t.keys.getD k ⟨#[]⟩ = (⟨#[100, 101, 102, 97, 117, 108, 116]⟩ : ByteArray) from h7)]
    have g1 : ∀ i, i < (rdN t k).oneOf.length → (dS ((rdN t k).oneOf.getD i ⟨#[]⟩) : DD) = dS (((rdN t k).oneOf ++ (t.items.getD k .zero).items.map (·.text)).getD i ⟨#[]⟩) := fun i hi => by
      simp [List.getD, List.getElem?_append, hi]
    have g2 : ∀ m, m < (t.items.getD k .zero).items.length → ((rdN t k).oneOf ++ (t.items.getD k .zero).items.map (·.text)).getD ((rdN t k).oneOf.length + m) ⟨#[]⟩ = ((t.items.getD ((k : Int)).toNat .zero).items.getD ((m : Int)).toNat .zero).text := fun m hm => by
      show _ = ((t.items.getD k .zero).items.getD m .zero).text
      have h1 : m < ((t.items.getD k .zero).items.map (·.text)).length := by simpa using hm
      rw [List.getD_eq_getElem?_getD, List.getElem?_append_right (Nat.le_add_right _ _), Nat.add_sub_cancel_left, List.getElem?_map, List.getElem?_eq_getElem hm, List.getD_eq_getElem?_getD (l := (t.items.getD k .zero).items), List.getElem?_eq_getElem hm]
      rfl
    repeat' first
      | (refine facW_intro ?_; intro _)
      | refine Or.inl ?_
      | ((conv => whnf); first | (refine condW_dec ?_ ?_ <;> intro _ <;> try (exfalso; omega)) | refine condW_not ?_ | (refine condW_bool ?_ ?_ <;> intro _ <;> try (exfalso; omega)) | (refine nbC_t (fun _ => ?_) ?_) | (refine nbC_f ?_ (fun _ => ?_)))
      | refine And.intro (by first | omega | (simp only [Int.toNat_natCast] at *; omega) | (simp only [Nat.reduceAdd, Int.cast_ofNat_Int, true_and, and_true]; omega) | kernel_rfl) ?_
      | refine RegW.run ?_
      | refine ⟨_, c1, ?_⟩
      | refine ⟨_, c2, ?_⟩
      | fail
    all_goals first
      | (have e := e1 (by assumption)
         exact ⟨k + 1, by omega, ⟨[(13, some 13)], ⟨by kernel_rfl, by kernel_rfl, by kernel_rfl, by kernel_rfl, by kernel_rfl, by kernel_rfl, by kernel_rfl⟩, (by repeat' first | (first | exact Dle.of_eq (by rw [e] <;> rfl) | (rw [e]; done)) | exact trivial | exact rfl | kernel_rfl | exact Dle.of_eq rfl | exact MLe.of_eq rfl | exact Dle.i (by omega) | exact Dle.i (by simp only [Int.toNat_natCast] at *; omega) | exact Dle.nil | exact Dle.rc Dle.nil | exact Option.some_ne_none _ | exact Or.inl rfl | exact Or.inr trivial | omega | (simp only [Int.toNat_natCast] at *; omega) | (intro _ _ _ _; exact Dle.of_eq rfl) | (intro i j hi hj; exact Dle.of_eq (by rw [e] <;> rfl)) | refine And.intro ?_ ?_)⟩, by first | omega | (dsimp only; omega)⟩)
      | (have e := e2 (by assumption)
         exact ⟨k + 1, by omega, ⟨[(13, some 13)], ⟨by kernel_rfl, by kernel_rfl, by kernel_rfl, by kernel_rfl, by kernel_rfl, by kernel_rfl, by kernel_rfl⟩, (by repeat' first | (first | exact Dle.of_eq (by rw [e] <;> rfl) | (rw [e]; done)) | exact trivial | exact rfl | kernel_rfl | exact Dle.of_eq rfl | exact MLe.of_eq rfl | exact Dle.i (by omega) | exact Dle.i (by simp only [Int.toNat_natCast] at *; omega) | exact Dle.nil | exact Dle.rc Dle.nil | exact Option.some_ne_none _ | exact Or.inl rfl | exact Or.inr trivial | omega | (simp only [Int.toNat_natCast] at *; omega) | (intro _ _ _ _; exact Dle.of_eq rfl) | (intro i j hi hj; exact Dle.of_eq (by rw [e] <;> rfl)) | refine And.intro ?_ ?_)⟩, by first | omega | (dsimp only; omega)⟩)
      | (have e := e3 (by assumption)
         exact ⟨k + 1, by omega, ⟨[(13, some 13)], ⟨by kernel_rfl, by kernel_rfl, by kernel_rfl, by kernel_rfl, by kernel_rfl, by kernel_rfl, by kernel_rfl⟩, (by repeat' first | (first | exact Dle.of_eq (by rw [e] <;> rfl) | (rw [e]; done)) | exact trivial | exact rfl | kernel_rfl | exact Dle.of_eq rfl | exact MLe.of_eq rfl | exact Dle.i (by omega) | exact Dle.i (by simp only [Int.toNat_natCast] at *; omega) | exact Dle.nil | exact Dle.rc Dle.nil | exact Option.some_ne_none _ | exact Or.inl rfl | exact Or.inr trivial | omega | (simp only [Int.toNat_natCast] at *; omega) | (intro _ _ _ _; exact Dle.of_eq rfl) | (intro i j hi hj; exact Dle.of_eq (by rw [e] <;> rfl)) | refine And.intro ?_ ?_)⟩, by first | omega | (dsimp only; omega)⟩)
      | (have e := e4 (by assumption)
         exact ⟨k + 1, by omega, ⟨[(13, some 13)], ⟨by kernel_rfl, by kernel_rfl, by kernel_rfl, by kernel_rfl, by kernel_rfl, by kernel_rfl, by kernel_rfl⟩, (by repeat' first | (first | exact Dle.of_eq (by rw [e] <;> rfl) | (rw [e]; done)) | exact trivial | exact rfl | kernel_rfl | exact Dle.of_eq rfl | exact MLe.of_eq rfl | exact Dle.i (by omega) | exact Dle.i (by simp only [Int.toNat_natCast] at *; omega) | exact Dle.nil | exact Dle.rc Dle.nil | exact Option.some_ne_none _ | exact Or.inl rfl | exact Or.inr trivial | omega | (simp only [Int.toNat_natCast] at *; omega) | (intro _ _ _ _; exact Dle.of_eq rfl) | (intro i j hi hj; exact Dle.of_eq (by rw [e] <;> rfl)) | refine And.intro ?_ ?_)⟩, by first | omega | (dsimp only; omega)⟩)
      | (have e := e5 (by assumption)
         exact ⟨k + 1, by omega, ⟨[(13, some 13)], ⟨by kernel_rfl, by kernel_rfl, by kernel_rfl, by kernel_rfl, by kernel_rfl, by kernel_rfl, by kernel_rfl⟩, (by repeat' first | (first | exact Dle.of_eq (by rw [e] <;> rfl) | (rw [e]; done)) | exact trivial | exact rfl | kernel_rfl | exact Dle.of_eq rfl | exact MLe.of_eq rfl | exact Dle.i (by omega) | exact Dle.i (by simp only [Int.toNat_natCast] at *; omega) | exact Dle.nil | exact Dle.rc Dle.nil | exact Option.some_ne_none _ | exact Or.inl rfl | exact Or.inr trivial | omega | (simp only [Int.toNat_natCast] at *; omega) | (intro _ _ _ _; exact Dle.of_eq rfl) | (intro i j hi hj; exact Dle.of_eq (by rw [e] <;> rfl)) | refine And.intro ?_ ?_)⟩, by first | omega | (dsimp only; omega)⟩)
      | (have e := e7 (by assumption)
         exact ⟨k + 1, by omega, ⟨[(13, some 13)], ⟨by kernel_rfl, by kernel_rfl, by kernel_rfl, by kernel_rfl, by kernel_rfl, by kernel_rfl, by kernel_rfl⟩, (by repeat' first | (first | exact Dle.of_eq (by rw [e] <;> rfl) | (rw [e]; done)) | exact trivial | exact rfl | kernel_rfl | exact Dle.of_eq rfl | exact MLe.of_eq rfl | exact Dle.i (by omega) | exact Dle.i (by simp only [Int.toNat_natCast] at *; omega) | exact Dle.nil | exact Dle.rc Dle.nil | exact Option.some_ne_none _ | exact Or.inl rfl | exact Or.inr trivial | omega | (simp only [Int.toNat_natCast] at *; omega) | (intro _ _ _ _; exact Dle.of_eq rfl) | (intro i j hi hj; exact Dle.of_eq (by rw [e] <;> rfl)) | refine And.intro ?_ ?_)⟩, by first | omega | (dsimp only; omega)⟩)
      | (have e := e8 (by assumption) (by assumption) (by assumption) (by assumption) (by assumption) (by assumption) (by assumption)
         exact ⟨k + 1, by omega, ⟨[(13, some 13)], ⟨by kernel_rfl, by kernel_rfl, by kernel_rfl, by kernel_rfl, by kernel_rfl, by kernel_rfl, by kernel_rfl⟩, (by repeat' first | (first | exact Dle.of_eq (by rw [e] <;> rfl) | (rw [e]; done)) | exact trivial | exact rfl | kernel_rfl | exact Dle.of_eq rfl | exact MLe.of_eq rfl | exact Dle.i (by omega) | exact Dle.i (by simp only [Int.toNat_natCast] at *; omega) | exact Dle.nil | exact Dle.rc Dle.nil | exact Option.some_ne_none _ | exact Or.inl rfl | exact Or.inr trivial | omega | (simp only [Int.toNat_natCast] at *; omega) | (intro _ _ _ _; exact Dle.of_eq rfl) | (intro i j hi hj; exact Dle.of_eq (by rw [e] <;> rfl)) | refine And.intro ?_ ?_)⟩, by first | omega | (dsimp only; omega)⟩)
      | skip
    all_goals
      have e := e6 (by assumption)
      refine ⟨Nat, fun m => [(60, i64 m)], fun m => [(3, .cells [dS (rdN t k).route, i64 (rdN t k).kind, dB (rdN t k).need, dB (rdN t k).bounded, i64 (rdN t k).lo, i64 (rdN t k).hi, .own 60 1 0 ((rdN t k).oneOf.length + m), i64 (rdN t k).dflt.kind, dB (rdN t k).dflt.b, i64 (rdN t k).dflt.i, dS (rdN t k).dflt.text, .rc (.vals (rdN t k).dflt.items), encStrs (rdN t k).dflt.keys])], [1, 2, 6], fun m => [(60, 9, (rdN t k).oneOf.length + m, fun i j => dS (((rdN t k).oneOf ++ (t.items.getD k .zero).items.map (·.text)).getD i ⟨#[]⟩))], fun m => m ≤ (t.items.getD k .zero).items.length, fun m => (t.items.getD k .zero).items.length - m, ⟨0, by omega, ⟨[(60, some 13)], ⟨by kernel_rfl, by kernel_rfl, by kernel_rfl, by kernel_rfl, by kernel_rfl, by kernel_rfl, by kernel_rfl⟩, (by repeat' first | ((intro i j hi hj; exact Dle.of_eq (g1 i hi))) | exact trivial | exact rfl | kernel_rfl | exact Dle.of_eq rfl | exact MLe.of_eq rfl | exact Dle.i (by omega) | exact Dle.i (by simp only [Int.toNat_natCast] at *; omega) | exact Dle.nil | exact Dle.rc Dle.nil | exact Option.some_ne_none _ | exact Or.inl rfl | exact Or.inr trivial | omega | (simp only [Int.toNat_natCast] at *; omega) | (intro _ _ _ _; exact Dle.of_eq rfl) | refine And.intro ?_ ?_)⟩⟩, fun m hm => ?_⟩
      have hm : m ≤ (t.items.getD k .zero).items.length := hm
      by_cases hml : m < (t.items.getD k .zero).items.length
      · have hml' : m < (t.items.getD ((k : Int)).toNat .zero).items.length := hml
        have g3 := g2 m hml
        repeat' first
          | (refine facW_intro ?_; intro _)
          | refine Or.inl ?_
          | ((conv => whnf); first | (refine condW_dec ?_ ?_ <;> intro _ <;> try (exfalso; omega)) | refine condW_not ?_ | (refine condW_bool ?_ ?_ <;> intro _ <;> try (exfalso; omega)) | (refine nbC_t (fun _ => ?_) ?_) | (refine nbC_f ?_ (fun _ => ?_)))
          | refine And.intro (by first | omega | (simp only [Int.toNat_natCast] at *; omega) | (simp only [Nat.reduceAdd, Int.cast_ofNat_Int, true_and, and_true]; omega) | kernel_rfl) ?_
          | refine RegW.run ?_
          | fail
        all_goals first
          | exact ⟨m + 1, by omega, ⟨[(60, some 69)], ⟨by kernel_rfl, by kernel_rfl, by kernel_rfl, by kernel_rfl, by kernel_rfl, by kernel_rfl, by kernel_rfl⟩, (by repeat' first | exact trivial | exact rfl | kernel_rfl | exact Dle.of_eq rfl | exact MLe.of_eq rfl | exact Dle.i (by omega) | exact Dle.i (by simp only [Int.toNat_natCast] at *; omega) | exact Dle.nil | exact Dle.rc Dle.nil | exact Option.some_ne_none _ | exact Or.inl rfl | exact Or.inr trivial | omega | (simp only [Int.toNat_natCast] at *; omega) | (intro _ _ _ _; exact Dle.of_eq rfl) | (intro i j hi hj; exact row_str3 E (fun i => ((rdN t k).oneOf ++ (t.items.getD k .zero).items.map (·.text)).getD i ⟨#[]⟩) _ i j _ g3 hi hj) | refine And.intro ?_ ?_)⟩, by first | omega | (dsimp only; omega)⟩
          | trace_state
      · have hml' : ¬ m < (t.items.getD ((k : Int)).toNat .zero).items.length := hml
        obtain rfl : m = (t.items.getD k .zero).items.length := by omega
        have hl2 : (rdN t k).oneOf.length + (t.items.getD k .zero).items.length = (rdN t (k + 1)).oneOf.length := by rw [e]; simp
        repeat' first
          | (refine facW_intro ?_; intro _)
          | refine Or.inl ?_
          | ((conv => whnf); first | (refine condW_dec ?_ ?_ <;> intro _ <;> try (exfalso; omega)) | refine condW_not ?_ | (refine condW_bool ?_ ?_ <;> intro _ <;> try (exfalso; omega)) | (refine nbC_t (fun _ => ?_) ?_) | (refine nbC_f ?_ (fun _ => ?_)))
          | refine And.intro (by first | omega | (simp only [Int.toNat_natCast] at *; omega) | (simp only [Nat.reduceAdd, Int.cast_ofNat_Int, true_and, and_true]; omega) | kernel_rfl) ?_
          | refine RegW.run ?_
          | fail
        all_goals first
          | exact ⟨k + 1, by omega, ⟨[(13, some 60)], ⟨by kernel_rfl, by kernel_rfl, by kernel_rfl, by kernel_rfl, by kernel_rfl, by kernel_rfl, by kernel_rfl⟩, (by repeat' first | (first | exact hl2 | exact Dle.of_eq (by rw [e] <;> rfl)) | exact trivial | exact rfl | kernel_rfl | exact Dle.of_eq rfl | exact MLe.of_eq rfl | exact Dle.i (by omega) | exact Dle.i (by simp only [Int.toNat_natCast] at *; omega) | exact Dle.nil | exact Dle.rc Dle.nil | exact Option.some_ne_none _ | exact Or.inl rfl | exact Or.inr trivial | omega | (simp only [Int.toNat_natCast] at *; omega) | (intro _ _ _ _; exact Dle.of_eq rfl) | (intro i j hi hj; exact Dle.of_eq (by rw [e] <;> rfl)) | refine And.intro ?_ ?_)⟩, by first | omega | (dsimp only; omega)⟩
          | trace_state
  · obtain rfl : k = t.keys.length := by omega
    repeat' first
      | (refine facW_intro ?_; intro _)
      | refine Or.inl ?_
      | ((conv => whnf); first | (refine condW_dec ?_ ?_ <;> intro _ <;> try (exfalso; omega)) | refine condW_not ?_ | (refine condW_bool ?_ ?_ <;> intro _ <;> try (exfalso; omega)) | (refine nbC_t (fun _ => ?_) ?_) | (refine nbC_f ?_ (fun _ => ?_)))
      | refine And.intro (by first | omega | (simp only [Int.toNat_natCast] at *; omega) | (simp only [Nat.reduceAdd, Int.cast_ofNat_Int, true_and, and_true]; omega) | kernel_rfl) ?_
      | refine RegW.run ?_
      | fail
    all_goals first
      | exact Dle.refl _ _
      | trace_state
end
end rs
end Go.Proofs.YtilfmjldcigagaaGreatDoor
