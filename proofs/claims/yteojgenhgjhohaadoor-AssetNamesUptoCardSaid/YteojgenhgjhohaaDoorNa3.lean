/-
  asset.Plain. strings.Join over data. mastref2.PlainOf.
-/
import Derived.Test.YteojgenhgjhohaaDoorNa1
import Derived.Test.YteojgenhgjhohaaDoorJn0
import Derived.Test.YteojgenhgjhohaaDoorQ0
import Derived.Test.YteojgenhgjhohaaDoorTy
namespace Go.Proofs.YteojgenhgjhohaaDoor
open Go.RowKit
set_option linter.unusedVariables false
set_option linter.unusedSimpArgs false
namespace na
open pl
def plD (d : ByteArray) : Option (List UInt8 × List UInt8) → DD
  | some (x, y) => .tup [dS (d ++ toB x), dS (toB y), dB true]
  | none => .tup [dS ⟨#[]⟩, dS ⟨#[]⟩, dB false]
theorem last_eq (s : ByteArray) (c : UInt8) : ∀ k, lastB s c k = lastL c s.data.toList k
  | 0 => rfl
  | k + 1 => by
    rw [lastB, lastL, last_eq s c k]
    have e : (bAt s k).toNat = c.toNat ↔ s.data.toList.getD k 0 = c := UInt8.toNat_inj
    by_cases h : s.data.toList.getD k 0 = c
    · rw [if_pos (e.2 h), if_pos h]
    · rw [if_neg (fun g => h (e.1 g)), if_neg h]
theorem ext_toB (s : ByteArray) (a b : Nat) : s.extract a b = toB ((s.data.toList.drop a).take (b - a)) := by
  apply ByteArray.ext
  apply Array.ext'
  simp [toB, ByteArray.data_extract]
theorem toB_app (x y : List UInt8) : toB (x ++ y) = toB x ++ toB y := by
  apply ByteArray.ext
  apply Array.ext'
  simp [toB]
theorem L_len (s : ByteArray) : s.data.toList.length = s.size := Array.length_toList
section
variable (E : Env)
set_option maxRecDepth 100000
set_option maxHeartbeats 4000000 in
open Classical in
theorem plain_sp (s : ByteArray) (hs : s.size ≤ 1000000000000000) : Sp (cx Tryd.prog mixed tyT_ok E) 6 [dS s] (plD (dirV s) (progP (lstV s).data.toList)) := by
  have hc := cutK_le s
  have hz : (lstV s).size ≤ s.size := by unfold lstV; rw [ByteArray.size_extract]; omega
  have hd : (dirV s).size ≤ s.size := by unfold dirV; rw [ByteArray.size_extract]; omega
  have h1 := cutLast_sp E s (by show _ ≤ 9223372036854775807; omega)
  generalize lstV s = t at h1 hz
  generalize dirV s = d at h1 hd
  have h2 := lastIdx_sp E t 46 (by show _ ≤ 9223372036854775807; omega)
  have hb := lastB_lt t 46 t.size
  have hL := L_len t
  have hp : lastB t 46 t.size = lastL 46 t.data.toList t.data.toList.length := by rw [last_eq, hL]
  unfold progP
  rw [← hp, hL]
  generalize lastB t 46 t.size = p at h2 hb
  obtain ⟨b1, hb1⟩ : ∃ b1 : Bool, b1 = decide (digP t.data.toList (p - 12)) := ⟨_, rfl⟩
  obtain ⟨b2, hb2⟩ : ∃ b2 : Bool, b2 = decide (digP t.data.toList ((t.size : Int) - 12)) := ⟨_, rfl⟩
  have h3 := digitsAt_sp E t (by omega) (p - 12) (by omega) (by omega) b1 (by rw [hb1]; exact decide_eq_true_iff)
  have h4 := digitsAt_sp E t (by omega) ((t.size : Int) - 12) (by omega) (by omega) b2 (by rw [hb2]; exact decide_eq_true_iff)
  have z0 : ∀ a b, (t.extract a b).size ≤ t.size := fun a b => by rw [ByteArray.size_extract]; omega
  have z1 := z0 (Int.toNat 0) (p - 13).toNat
  have z2 : (d ++ t.extract (Int.toNat 0) (p - 13).toNat).size ≤ d.size + t.size := by rw [ByteArray.size_append]; omega
  have z3 := z0 p.toNat ((t.size : Int)).toNat
  have z4 := z0 (Int.toNat 0) ((t.size : Int) - 12 - 1).toNat
  have z5 : ((t.size : Int) - 12 - 1).toNat = t.size - 13 := by omega
  have z6 : ((t.size : Int) - 12).toNat = t.size - 12 := by omega
  have second : ∀ R, (if digP t.data.toList ((t.size : Int) - 12) then some (t.data.toList.take (t.size - 13), t.data.toList.drop (t.size - 12)) else none) = R → (b2 = true ∧ 14 ≤ t.size ∧ plD d R = .tup [dS (d ++ t.extract 0 (t.size - 13)), dS (t.extract (t.size - 12) t.size), dB true]) ∨ (b2 = false ∧ plD d R = .tup [dS ⟨#[]⟩, dS ⟨#[]⟩, dB false]) := fun R hR => by
    by_cases h : digP t.data.toList ((t.size : Int) - 12)
    · rw [if_pos h] at hR
      refine .inl ⟨by rw [hb2]; exact decide_eq_true h, by have := h.1; omega, ?_⟩
      rw [← hR]
      show D.tup [dS (d ++ toB _), dS (toB _), dB true] = _
      rw [ext_toB, ext_toB, List.drop_zero, Nat.sub_zero, List.take_of_length_le (show (t.data.toList.drop (t.size - 12)).length ≤ t.size - (t.size - 12) by rw [List.length_drop, hL]; omega)]
    · rw [if_neg h] at hR
      refine .inr ⟨by rw [hb2]; exact decide_eq_false h, ?_⟩
      rw [← hR]
      rfl
  by_cases hp0 : 0 ≤ p ∧ digP t.data.toList (p - 12)
  · have ht : b1 = true := by rw [hb1]; exact decide_eq_true hp0.2
    rw [ht] at h3
    have g1 := hp0.2.1
    have g0 := hp0.1
    rw [if_pos hp0]
    have e : plD d (some (t.data.toList.take (p - 13).toNat ++ t.data.toList.drop p.toNat, (t.data.toList.drop (p - 12).toNat).take 12)) = .tup [dS ((d ++ t.extract 0 (p - 13).toNat) ++ t.extract p.toNat t.size), dS (t.extract (p - 12).toNat p.toNat), dB true] := by
      show D.tup [dS (d ++ toB _), dS (toB _), dB true] = _
      rw [toB_app, ext_toB, ext_toB, ext_toB, List.drop_zero, Nat.sub_zero, List.take_of_length_le (show (t.data.toList.drop p.toNat).length ≤ t.size - p.toNat by rw [List.length_drop, hL]; omega), ByteArray.append_assoc, show p.toNat - (p - 12).toNat = 12 by omega]
    rw [e]
    clear second h4
    refine Sp.body Tryd.func6 (by kernel_rfl) rfl (by kernel_rfl) (by kernel_rfl) (by kernel_rfl) ?_
    repeat' first
      | (refine codeW_cond rfl ?_; first | (refine condW_dec ?_ ?_ <;> intro _ <;> try (exfalso; omega)) | refine condW_not ?_ | (refine condW_bool ?_ ?_ <;> intro _ <;> try (exfalso; omega)))
      | (refine facW_intro ?_; intro _)
      | refine Or.inl ?_
      | ((conv => whnf); first | (refine condW_dec ?_ ?_ <;> intro _ <;> try (exfalso; omega)) | refine condW_not ?_ | (refine condW_bool ?_ ?_ <;> intro _ <;> try (exfalso; omega)) | (refine nbC_t (fun _ => ?_) ?_) | (refine nbC_f ?_ (fun _ => ?_)))
      | refine And.intro (by first | omega | (simp only [Int.toNat_natCast] at *; omega) | (simp only [Nat.reduceAdd, Int.cast_ofNat_Int, true_and, and_true]; omega)  | kernel_rfl) ?_
      | refine RegW.run ?_
      | refine ⟨_, h1, ?_⟩
      | refine ⟨_, h2, ?_⟩
      | refine ⟨_, h3, ?_⟩
      | fail
    all_goals first
      | (exfalso; omega)
      | exact Dle.refl _ _
      | trace_state
  · rw [if_neg hp0]
    rcases second _ rfl with ⟨q1, q0, q2⟩ | ⟨q1, q2⟩
    · rw [q2]
      rw [q1] at h4
      clear second q2
      by_cases g0 : 0 ≤ p
      · have ht : b1 = false := by rw [hb1]; exact decide_eq_false (fun h => hp0 ⟨g0, h⟩)
        rw [ht] at h3
        refine Sp.body Tryd.func6 (by kernel_rfl) rfl (by kernel_rfl) (by kernel_rfl) (by kernel_rfl) ?_
        repeat' first
          | (refine codeW_cond rfl ?_; first | (refine condW_dec ?_ ?_ <;> intro _ <;> try (exfalso; omega)) | refine condW_not ?_ | (refine condW_bool ?_ ?_ <;> intro _ <;> try (exfalso; omega)))
          | (refine facW_intro ?_; intro _)
          | refine Or.inl ?_
          | ((conv => whnf); first | (refine condW_dec ?_ ?_ <;> intro _ <;> try (exfalso; omega)) | refine condW_not ?_ | (refine condW_bool ?_ ?_ <;> intro _ <;> try (exfalso; omega)) | (refine nbC_t (fun _ => ?_) ?_) | (refine nbC_f ?_ (fun _ => ?_)))
          | refine And.intro (by first | omega | (simp only [Int.toNat_natCast] at *; omega) | (simp only [Nat.reduceAdd, Int.cast_ofNat_Int, true_and, and_true]; omega)  | kernel_rfl) ?_
          | refine RegW.run ?_
          | refine ⟨_, h1, ?_⟩
          | refine ⟨_, h2, ?_⟩
          | refine ⟨_, h3, ?_⟩
          | refine ⟨_, h4, ?_⟩
          | fail
        all_goals first
          | (exfalso; omega)
          | exact Dle.refl _ _
          | exact Dle.tup (X := (cx Tryd.prog mixed tyT_ok E)) ⟨Dle.s (by rw [z5]; rfl), Dle.s (by rw [z6]; rfl), Dle.refl _ _, trivial⟩
          | trace_state
      · refine Sp.body Tryd.func6 (by kernel_rfl) rfl (by kernel_rfl) (by kernel_rfl) (by kernel_rfl) ?_
        repeat' first
          | (refine codeW_cond rfl ?_; first | (refine condW_dec ?_ ?_ <;> intro _ <;> try (exfalso; omega)) | refine condW_not ?_ | (refine condW_bool ?_ ?_ <;> intro _ <;> try (exfalso; omega)))
          | (refine facW_intro ?_; intro _)
          | refine Or.inl ?_
          | ((conv => whnf); first | (refine condW_dec ?_ ?_ <;> intro _ <;> try (exfalso; omega)) | refine condW_not ?_ | (refine condW_bool ?_ ?_ <;> intro _ <;> try (exfalso; omega)) | (refine nbC_t (fun _ => ?_) ?_) | (refine nbC_f ?_ (fun _ => ?_)))
          | refine And.intro (by first | omega | (simp only [Int.toNat_natCast] at *; omega) | (simp only [Nat.reduceAdd, Int.cast_ofNat_Int, true_and, and_true]; omega)  | kernel_rfl) ?_
          | refine RegW.run ?_
          | refine ⟨_, h1, ?_⟩
          | refine ⟨_, h2, ?_⟩
          | refine ⟨_, h4, ?_⟩
          | fail
        all_goals first
          | (exfalso; omega)
          | exact Dle.refl _ _
          | exact Dle.tup (X := (cx Tryd.prog mixed tyT_ok E)) ⟨Dle.s (by rw [z5]; rfl), Dle.s (by rw [z6]; rfl), Dle.refl _ _, trivial⟩
          | trace_state
    · rw [q2]
      rw [q1] at h4
      clear second q2
      by_cases g0 : 0 ≤ p
      · have ht : b1 = false := by rw [hb1]; exact decide_eq_false (fun h => hp0 ⟨g0, h⟩)
        rw [ht] at h3
        refine Sp.body Tryd.func6 (by kernel_rfl) rfl (by kernel_rfl) (by kernel_rfl) (by kernel_rfl) ?_
        repeat' first
          | (refine codeW_cond rfl ?_; first | (refine condW_dec ?_ ?_ <;> intro _ <;> try (exfalso; omega)) | refine condW_not ?_ | (refine condW_bool ?_ ?_ <;> intro _ <;> try (exfalso; omega)))
          | (refine facW_intro ?_; intro _)
          | refine Or.inl ?_
          | ((conv => whnf); first | (refine condW_dec ?_ ?_ <;> intro _ <;> try (exfalso; omega)) | refine condW_not ?_ | (refine condW_bool ?_ ?_ <;> intro _ <;> try (exfalso; omega)) | (refine nbC_t (fun _ => ?_) ?_) | (refine nbC_f ?_ (fun _ => ?_)))
          | refine And.intro (by first | omega | (simp only [Int.toNat_natCast] at *; omega) | (simp only [Nat.reduceAdd, Int.cast_ofNat_Int, true_and, and_true]; omega)  | kernel_rfl) ?_
          | refine RegW.run ?_
          | refine ⟨_, h1, ?_⟩
          | refine ⟨_, h2, ?_⟩
          | refine ⟨_, h3, ?_⟩
          | refine ⟨_, h4, ?_⟩
          | fail
        all_goals first
          | (exfalso; omega)
          | exact Dle.refl _ _
          | exact Dle.tup (X := (cx Tryd.prog mixed tyT_ok E)) ⟨Dle.s (by rw [z5]; rfl), Dle.s (by rw [z6]; rfl), Dle.refl _ _, trivial⟩
          | trace_state
      · refine Sp.body Tryd.func6 (by kernel_rfl) rfl (by kernel_rfl) (by kernel_rfl) (by kernel_rfl) ?_
        repeat' first
          | (refine codeW_cond rfl ?_; first | (refine condW_dec ?_ ?_ <;> intro _ <;> try (exfalso; omega)) | refine condW_not ?_ | (refine condW_bool ?_ ?_ <;> intro _ <;> try (exfalso; omega)))
          | (refine facW_intro ?_; intro _)
          | refine Or.inl ?_
          | ((conv => whnf); first | (refine condW_dec ?_ ?_ <;> intro _ <;> try (exfalso; omega)) | refine condW_not ?_ | (refine condW_bool ?_ ?_ <;> intro _ <;> try (exfalso; omega)) | (refine nbC_t (fun _ => ?_) ?_) | (refine nbC_f ?_ (fun _ => ?_)))
          | refine And.intro (by first | omega | (simp only [Int.toNat_natCast] at *; omega) | (simp only [Nat.reduceAdd, Int.cast_ofNat_Int, true_and, and_true]; omega)  | kernel_rfl) ?_
          | refine RegW.run ?_
          | refine ⟨_, h1, ?_⟩
          | refine ⟨_, h2, ?_⟩
          | refine ⟨_, h4, ?_⟩
          | fail
        all_goals first
          | (exfalso; omega)
          | exact Dle.refl _ _
          | exact Dle.tup (X := (cx Tryd.prog mixed tyT_ok E)) ⟨Dle.s (by rw [z5]; rfl), Dle.s (by rw [z6]; rfl), Dle.refl _ _, trivial⟩
          | trace_state
end
end na
end Go.Proofs.YteojgenhgjhohaaDoor
namespace Go.Proofs.YteojgenhgjhohaaDoor
open Go.RowKit
set_option linter.unusedVariables false
set_option linter.unusedSimpArgs false
namespace bl
def jnS (l : List ByteArray) (sep : ByteArray) : ByteArray := ⟨(jn sep.data.toList true l).toArray⟩
theorem jnS_size (l : List ByteArray) (sep : ByteArray) : (jnS l sep).size ≤ szL l + sep.size * l.length := by
  have h := jn_len sep.data.toList l true
  have h1 : sep.data.toList.length = sep.size := by simp
  have h2 : (jnS l sep).size = (jn sep.data.toList true l).length := by simp [jnS, ByteArray.size]
  rw [h1] at h
  omega
section
variable (E : Env)
set_option maxRecDepth 100000
theorem rep_strs1 {M : Nat → Nat → Prop} {w : World} {β : Bt} {l : List ByteArray} {x : Value} (h : Rep view M w β (encStrs l) x) :
    ∃ A c, x = .slice A l.length c ∧ l.length ≤ c ∧ c ≤ maxLen ∧ (l.length = 0 ∨ ∃ b o, A = some ⟨b, o, none⟩ ∧ ∀ j, j < l.length → M b (o + j) ∧ w.cell? ⟨b, o + j, none⟩ = some (.string (l.getD j ⟨#[]⟩))) := by
  unfold encStrs at h
  generalize hn : l.length = n at h
  cases h with
  | nil hc hA => exact ⟨_, _, rfl, Nat.zero_le _, hc, .inl rfl⟩
  | @sl _ _ _ _ c b o _ u hc hm hb hu hr =>
    refine ⟨_, _, rfl, hc, hm, .inr ⟨b, o, rfl, fun j hj => ?_⟩⟩
    obtain ⟨h1, h2, _⟩ := hu j 0 hj (Nat.lt_succ_self 0)
    have h3 := (hr j 0 hj (Nat.lt_succ_self 0)).val.1
    rw [Nat.mul_one, Nat.add_zero] at h1 h2
    rw [h3] at h2
    exact ⟨h1, h2⟩
theorem join1_sp (l : List ByteArray) (sep : ByteArray) (hl : l.length ≤ 1000000000) (hsep : sep.size ≤ 1000) (hz : 0 < sep.size) (hs : szL l ≤ 10000000000000) : Sp (cx Tryd.prog mixed tyT_ok E) 20 [encStrs l, dS sep] (dS (jnS l sep)) := by
  refine .inl ⟨⟨_, _, Tryd.func20, by kernel_rfl, rfl⟩, fun M β w vs hG hMG hM hlv hr hp hb => ?_⟩
  obtain ⟨A, c, h1, h2, h3, h4⟩ := rep_strs1 (hr 0 _ rfl)
  have h5 := (hr 1 _ rfl).val.1
  have evs : vs = #[.slice A l.length c, .string sep] := by
    apply Array.ext
    · simpa using hlv
    · intro i g1 g2
      match i, g2 with
      | 0, _ => simpa [Array.getD, g1] using h1
      | 1, _ => simpa [Array.getD, g1] using h5
  rw [evs]
  have hA : l.length = 0 ∨ ∃ b o, A = some ⟨b, o, none⟩ ∧ b < w.heap.size ∧ ∀ j, j < l.length → w.cell? ⟨b, o + j, none⟩ = some (.string (l.getD j ⟨#[]⟩)) := by
    rcases Nat.eq_zero_or_pos l.length with h0 | h0
    · exact .inl h0
    · obtain ⟨b, o, e, h⟩ := h4.resolve_left (by omega)
      exact .inr ⟨b, o, e, hM _ _ (h 0 h0).1, fun j hj => (h j hj).2⟩
  refine (join_raw A l.length c l sep w rfl hl hA hsep hz h2 h3 hs).mono fun e w' ⟨he, hw⟩ => ?_
  have hsz := jnS_size l sep
  have hm : sep.size * l.length ≤ 1000 * 1000000000 := Nat.mul_le_mul hsep hl
  exact ⟨_, M, β, he, Kp.of hw _, fun _ _ _ => rfl, fun _ _ h => h, fun _ _ h => .inl h, .v (decide_eq_true (by show (jnS l sep).size ≤ maxLen; unfold maxLen; omega)), ⟨fun l o hm => (by cases hm), fun l o l' o' b c c' hm => (by cases hm)⟩, fun b ⟨l, o, c, hm, _⟩ => (by cases hm)⟩
end
end bl
end Go.Proofs.YteojgenhgjhohaaDoor
namespace Go.Proofs.YteojgenhgjhohaaDoor
open Go.RowKit
set_option linter.unusedVariables false
set_option linter.unusedSimpArgs false
namespace na
open pl bl
theorem hex_in : ∀ n : Fin 256, hexS.data.toList.contains (UInt8.ofNat n.val) = hexC (UInt8.ofNat n.val) := by decide +kernel
theorem hex_has (c : UInt8) : hexS.data.toList.contains c = hexC c := by
  have h := hex_in ⟨c.toNat, c.toNat_lt⟩
  have e : UInt8.ofNat c.toNat = c := UInt8.ofNat_toNat
  simp only [e] at h
  exact h
theorem hexL_iff (s : ByteArray) : hexL s.data.toList = true ↔ s.size = 12 ∧ trimV s hexS = ⟨#[]⟩ := by
  unfold hexL
  rw [Bool.and_eq_true, decide_eq_true_eq, L_len, trimV_nil, List.all_eq_true]
  constructor
  · rintro ⟨h1, h2⟩
    refine ⟨h1, fun k hk => ?_⟩
    rw [hex_has, bAt_L, List.getD_eq_getElem?_getD, List.getElem?_eq_getElem (by rw [L_len]; exact hk)]
    exact h2 _ (List.getElem_mem _)
  · rintro ⟨h1, h2⟩
    refine ⟨h1, fun b hb => ?_⟩
    obtain ⟨i, hi, rfl⟩ := List.getElem_of_mem hb
    have h := h2 i (by rw [← L_len]; exact hi)
    rw [hex_has, bAt_L, List.getD_eq_getElem?_getD, List.getElem?_eq_getElem hi] at h
    exact h
theorem jn_false : ∀ ls : List (List UInt8), jn [46] false (ls.map toB) = ls.flatMap fun x => 46 :: x
  | [] => rfl
  | x :: r => by
    rw [List.map_cons, jn, jn_false r]
    simp [toB]
theorem jnP_cons : ∀ (x : List UInt8) (r : List (List UInt8)), jnP (x :: r) = x ++ r.flatMap fun y => 46 :: y
  | x, [] => by simp [jnP]
  | x, y :: r => by
    rw [jnP, jnP_cons y r]
    simp
theorem jn_P (ls : List (List UInt8)) : jnS (ls.map toB) (⟨#[46]⟩ : ByteArray) = toB (jnP ls) := by
  unfold jnS
  cases ls with
  | nil => rfl
  | cons x r =>
    rw [jnP_cons, List.map_cons, jn]
    have h := jn_false r
    have e : ((⟨#[46]⟩ : ByteArray)).data.toList = [46] := rfl
    rw [e, h]
    simp [toB]
theorem toB_nil {d : ByteArray} {x : List UInt8} : d ++ toB x = d ↔ x = [] := by
  constructor
  · intro h
    have := congrArg ByteArray.size h
    rw [ByteArray.size_append] at this
    have h0 : (toB x).size = x.length := by simp [toB, ByteArray.size]
    exact List.eq_nil_of_length_eq_zero (by omega)
  · rintro rfl
    apply ByteArray.ext
    apply Array.ext'
    simp [toB]
theorem szL_lns : ∀ (n : Nat) (L : List UInt8), L.length < n → szL ((lns 46 L).map toB) ≤ L.length ∧ (lns 46 L).length ≤ L.length + 1
  | 0, L, h => by omega
  | n + 1, L, h => by
    have tz : ∀ x : List UInt8, (toB x).size = x.length := fun x => by simp [toB, ByteArray.size]
    rcases cut_ex (c := 46) L with h1 | ⟨A, B, rfl, h1⟩
    · rw [lns_none L h1]
      unfold szL
      simp [tz]
    · obtain ⟨i1, i2⟩ := szL_lns n A (by simp at h; omega)
      rw [lns_snoc A B h1]
      unfold szL at *
      rw [List.map_append, List.map_append, List.sum_append]
      simp [tz] at *
      omega
section
variable (E : Env)
set_option maxRecDepth 100000
theorem hexDigits_sp (s : ByteArray) : Sp (cx Tryd.prog mixed tyT_ok E) 21 [dS s] (dB (hexL s.data.toList)) := by
  have h1 := trim_sp E s hexS (by decide) (by decide)
  have h2 := hexL_iff s
  generalize trimV s hexS = t at h1 h2
  generalize hexL s.data.toList = b at h2
  refine Sp.body Tryd.func21 (by kernel_rfl) rfl (by kernel_rfl) (by kernel_rfl) (by kernel_rfl) ?_
  repeat' first
    | (refine codeW_cond rfl ?_; first | (refine condW_dec ?_ ?_ <;> intro _ <;> try (exfalso; omega)) | refine condW_not ?_ | (refine condW_bool ?_ ?_ <;> intro _ <;> try (exfalso; omega)))
    | (refine facW_intro ?_; intro _)
    | refine Or.inl ?_
    | ((conv => whnf); first | (refine condW_dec ?_ ?_ <;> intro _ <;> try (exfalso; omega)) | refine condW_not ?_ | (refine condW_bool ?_ ?_ <;> intro _ <;> try (exfalso; omega)) | (refine nbC_t (fun _ => ?_) ?_) | (refine nbC_f ?_ (fun _ => ?_)))
    | refine And.intro (by first | omega | (simp only [Int.toNat_natCast] at *; omega) | (simp only [Nat.reduceAdd, Int.cast_ofNat_Int, true_and, and_true]; omega)  | kernel_rfl) ?_
    | refine RegW.run ?_
    | refine ⟨_, h1, ?_⟩
    | fail
  all_goals first
    | (refine Dle.bo ?_
       have hz : s.size = 12 ↔ (s.size : Int) = 12 := by omega
       cases b <;> simp_all <;> done)
    | trace_state
abbrev refD (d : ByteArray) : DD := .ref 1 (fun j => ([dS d] : List DD).getD (0 + j) .opq)
theorem join_sp (l : List ByteArray) (d : ByteArray) (hl : l.length ≤ 1000000000) (hs : szL l ≤ 1000000000000) (hd : d.size ≤ 1000000000000) : Sp (cx Tryd.prog mixed tyT_ok E) 19 [encStrs l, refD d] (dS (d ++ jnS l (⟨#[46]⟩ : ByteArray))) := by
  have h1 := join1_sp E l (⟨#[46]⟩ : ByteArray) hl (by decide) (by decide) (by omega)
  have hz := jnS_size l (⟨#[46]⟩ : ByteArray)
  have hz1 : ((⟨#[46]⟩ : ByteArray)).size = 1 := rfl
  rw [hz1] at hz
  generalize jnS l (⟨#[46]⟩ : ByteArray) = t at h1 hz
  refine Sp.body Tryd.func19 (by kernel_rfl) rfl (by kernel_rfl) (by kernel_rfl) (by kernel_rfl) ?_
  repeat' first
    | (refine codeW_cond rfl ?_; first | (refine condW_dec ?_ ?_ <;> intro _ <;> try (exfalso; omega)) | refine condW_not ?_ | (refine condW_bool ?_ ?_ <;> intro _ <;> try (exfalso; omega)))
    | (refine facW_intro ?_; intro _)
    | refine Or.inl ?_
    | ((conv => whnf); first | (refine condW_dec ?_ ?_ <;> intro _ <;> try (exfalso; omega)) | refine condW_not ?_ | (refine condW_bool ?_ ?_ <;> intro _ <;> try (exfalso; omega)) | (refine nbC_t (fun _ => ?_) ?_) | (refine nbC_f ?_ (fun _ => ?_)))
    | refine And.intro (by first | omega | (simp only [Int.toNat_natCast] at *; omega) | (simp only [Nat.reduceAdd, Int.cast_ofNat_Int, true_and, and_true]; omega)  | kernel_rfl) ?_
    | refine RegW.run ?_
    | refine ⟨_, h1, ?_⟩
    | fail
  all_goals first
    | exact Dle.refl _ _
    | trace_state
end
end na
end Go.Proofs.YteojgenhgjhohaaDoor
