/-
  A bundle's map read: asset.ReadMap over data.
-/
import Derived.Test.YtiiohopjkepkgaaGreatDoorMd3
namespace Go.Proofs.YtiiohopjkepkgaaGreatDoor
open Go.RowKit
set_option linter.unusedVariables false
set_option linter.unusedSimpArgs false
namespace md
open mp32
/-- The text behind the first k lines. -/
def tl (s : ByteArray) : Nat → ByteArray
  | 0 => s
  | k + 1 => cR 10 (tl s k)
theorem pcs_nil (c : UInt8) : pcs ⟨#[]⟩ ⟨#[c]⟩ = [⟨#[]⟩] := by
  refine pcs_no ?_
  unfold cO Lib.cut
  split
  · rename_i h
    exfalso
    have : Lib.index ([] : List UInt8) [c] = -1 := by rw [show Lib.index ([] : List UInt8) [c] = Lib.indexByte [] c from Lib.index_one _ _]; rfl
    have h : 0 ≤ Lib.index ([] : List UInt8) [c] := h
    omega
  · rfl
theorem lnsP_len (s : ByteArray) : (lnsP s).length + 1 = (pcs s ⟨#[10]⟩).length := by
  have := pcs_ne s 10
  unfold lnsP
  rw [List.length_dropLast]
  omega
theorem lnsP_at {s : ByteArray} {k : Nat} (h : k < (lnsP s).length) : (lnsP s).getD k ⟨#[]⟩ = (pcs s ⟨#[10]⟩).getD k ⟨#[]⟩ := by
  have h2 := lnsP_len s
  unfold lnsP at h ⊢
  simp only [List.getD]
  rw [List.getElem?_dropLast, if_pos (by rw [List.length_dropLast] at h; omega)]
theorem drop_head {l : List ByteArray} {k : Nat} {x : ByteArray} {r : List ByteArray} (h : l.drop k = x :: r) : k < l.length ∧ l.getD k ⟨#[]⟩ = x ∧ l.drop (k + 1) = r := by
  have hk : k < l.length := by
    rcases Nat.lt_or_ge k l.length with h1 | h1
    · exact h1
    · rw [List.drop_eq_nil_of_le h1] at h; cases h
  rw [List.drop_eq_getElem_cons hk] at h
  injection h with h1 h2
  exact ⟨hk, by simp [List.getD, hk, h1], h2⟩
/-- Where the text behind some lines is empty, has a line, has none. -/
theorem tl_nil {s : ByteArray} {k : Nat} (h : pcs (tl s k) ⟨#[10]⟩ = (pcs s ⟨#[10]⟩).drop k) (h0 : tl s k = ⟨#[]⟩) : k = (lnsP s).length ∧ lastP s = ⟨#[]⟩ := by
  rw [h0, pcs_nil] at h
  obtain ⟨h1, h2, h3⟩ := drop_head h.symm
  have h4 : (pcs s ⟨#[10]⟩).length ≤ k + 1 := by
    rcases Nat.lt_or_ge (k + 1) (pcs s ⟨#[10]⟩).length with g | g
    · have := congrArg List.length h3
      rw [List.length_drop] at this
      simp at this
      omega
    · exact g
  have h5 := lnsP_len s
  have e : k = (lnsP s).length := by omega
  refine ⟨e, ?_⟩
  unfold lastP
  rw [show (pcs s ⟨#[10]⟩).length - 1 = k by omega]
  exact h2
theorem tl_line {s : ByteArray} {k : Nat} (h : pcs (tl s k) ⟨#[10]⟩ = (pcs s ⟨#[10]⟩).drop k) (h0 : cO 10 (tl s k) = true) : k < (lnsP s).length ∧ (lnsP s).getD k ⟨#[]⟩ = cL 10 (tl s k) ∧ pcs (tl s (k + 1)) ⟨#[10]⟩ = (pcs s ⟨#[10]⟩).drop (k + 1) := by
  rw [pcs_yes h0] at h
  obtain ⟨h1, h2, h3⟩ := drop_head h.symm
  have h5 := lnsP_len s
  have h6 := pcs_ne (cR 10 (tl s k)) 10
  have h7 := congrArg List.length h3
  rw [List.length_drop] at h7
  have hk : k < (lnsP s).length := by omega
  exact ⟨hk, (lnsP_at hk).trans h2, h3.symm⟩
theorem tl_last {s : ByteArray} {k : Nat} (h : pcs (tl s k) ⟨#[10]⟩ = (pcs s ⟨#[10]⟩).drop k) (hn : ¬ tl s k = ⟨#[]⟩) (h0 : cO 10 (tl s k) = false) : lastP s ≠ ⟨#[]⟩ := by
  rw [pcs_no h0] at h
  obtain ⟨h1, h2, h3⟩ := drop_head h.symm
  have h4 : (pcs s ⟨#[10]⟩).length ≤ k + 1 := by
    rcases Nat.lt_or_ge (k + 1) (pcs s ⟨#[10]⟩).length with g | g
    · have := congrArg List.length h3
      rw [List.length_drop] at this
      simp at this
      omega
    · exact g
  unfold lastP
  rw [show (pcs s ⟨#[10]⟩).length - 1 = k by omega, h2]
  exact hn
theorem tl_size (s : ByteArray) : ∀ k, (tl s k).size ≤ s.size
  | 0 => Nat.le_refl _
  | k + 1 => Nat.le_trans (cut_size 10 _).2 (tl_size s k)
theorem lns_len (c : UInt8) : ∀ L : List UInt8, (lns c L).length ≤ L.length + 1
  | [] => by simp [lns]
  | b :: L => by
    have ih := lns_len c L
    unfold lns
    split
    · simp only [List.length_cons]; omega
    · cases h : lns c L with
      | nil => exact absurd h (lns_ne _ _)
      | cons p r =>
        rw [h] at ih
        simp only [List.length_cons] at ih ⊢
        omega
theorem pcs_len10 (s : ByteArray) : (pcs s ⟨#[10]⟩).length ≤ s.size + 1 := by
  rw [pcs_lns 10 _ s (Nat.lt_succ_self _), List.length_map]
  have := lns_len 10 s.data.toList
  simpa using this
theorem lns_mem (c : UInt8) : ∀ (L : List UInt8) (p : List UInt8), p ∈ lns c L → p.length ≤ L.length
  | [], p, h => by
    have : p = [] := by simpa [lns] using h
    rw [this]
    exact Nat.le_refl _
  | b :: L, p, h => by
    have ih := lns_mem c L
    unfold lns at h
    split at h
    · rcases List.mem_cons.1 h with rfl | h
      · exact Nat.zero_le _
      · have := ih p h
        simp only [List.length_cons]
        omega
    · cases hl : lns c L with
      | nil => exact absurd hl (lns_ne _ _)
      | cons q r =>
        rw [hl] at h ih
        rcases List.mem_cons.1 h with rfl | h
        · have := ih q List.mem_cons_self
          simp only [List.length_cons]
          omega
        · have := ih p (List.mem_cons_of_mem _ h)
          simp only [List.length_cons]
          omega
theorem lnsP_size (s : ByteArray) : ∀ p ∈ lnsP s, p.size ≤ s.size := fun p hp => by
  have hp := List.dropLast_subset _ hp
  rw [pcs_lns 10 _ s (Nat.lt_succ_self _)] at hp
  obtain ⟨q, hq, rfl⟩ := List.mem_map.1 hp
  have := lns_mem 10 _ q hq
  have e : s.data.toList.length = s.size := by simp
  show q.length ≤ _
  omega
theorem psP_len (ls : List ByteArray) : (psP ls).length = ls.length := by simp [psP]
theorem psP_at {ls : List ByteArray} {k : Nat} (h : k < ls.length) : (psP ls).getD k ⟨#[]⟩ = cL 32 (ls.getD k ⟨#[]⟩) := by simp [psP, List.getD, h]
theorem esP_at {ls : List ByteArray} {n k : Nat} (h : k < n) : (esP ls n).getD k 0 = sm ls (k + 1) := by simp [esP, List.getD, h]
theorem allOk_no {ls : List ByteArray} {k : Nat} (hk : k < ls.length) (h : lnOk (ls.getD k ⟨#[]⟩) = false) : allOk ls = false := allN_no hk h
theorem allOk_yes {ls : List ByteArray} (h : ∀ i, i < ls.length → lnOk (ls.getD i ⟨#[]⟩) = true) : allOk ls = true := allN_iff.2 h
section
variable (E : Env)
set_option maxRecDepth 100000
def encBun (r : Bun) : DD := .tup [encB ⟨#[]⟩ r.ps r.es, i64 r.e]
theorem dle_errB {e : Int} {r : Bun} (h : r = errB e) : Dle (cx Tryz.prog mixed tyT_ok E) (.tup [.agg [dS ⟨#[]⟩, .v (.slice none 0 0), .v (.slice none 0 0)], i64 e]) (encBun r) := by
  subst h
  exact Dle.tup (X := (cx Tryz.prog mixed tyT_ok E)) ⟨Dle.agg (X := (cx Tryz.prog mixed tyT_ok E)) ⟨Dle.refl _ _, Dle.nil (X := (cx Tryz.prog mixed tyT_ok E)), Dle.nil (X := (cx Tryz.prog mixed tyT_ok E)), trivial⟩, Dle.refl _ _, trivial⟩
theorem cutc_sp (hML : ∀ w, E.G w → ML w) (c : UInt8) (s : ByteArray) (hs : s.size < 4294967281) : Sp (cx Tryz.prog mixed tyT_ok E) 41 [dS s, dS ⟨#[c]⟩] (.tup [dS (cL c s), dS (cR c s), dB (cO c s)]) := by
  refine Sp.of_new (vs := [.string s, .string ⟨#[c]⟩]) ⟨_, _, Tryz.func41, by kernel_rfl, rfl⟩ ?_
  intro w hG hok
  obtain ⟨m, hm⟩ := hML w hG
  refine (Tryz.strings_Cut s ⟨#[c]⟩ m w hs hm).mono fun e w' ⟨he, n, hw⟩ => ?_
  subst hw
  have hsz := cut_size c s
  refine ⟨_, he, (Below.refl _ _).trans ⟨rfl, rfl, rfl, Nat.le_refl _, fun _ _ => rfl⟩, fun M β => .tup rfl (fun i d hi => ?_)⟩
  match i, hi with
  | 0, hi =>
    obtain rfl : _ = d := by simpa using hi
    exact .v (decide_eq_true (show (cL c s).size ≤ 9223372036854775807 by omega))
  | 1, hi =>
    obtain rfl : _ = d := by simpa using hi
    exact .v (decide_eq_true (show (cR c s).size ≤ 9223372036854775807 by omega))
  | 2, hi =>
    obtain rfl : _ = d := by simpa using hi
    exact .v rfl
theorem row_g (f : Nat → DD) (x : DD) (k : Nat) (hx : x = f k) (i j : Nat) (hi : i < k + 1) (hj : j < 1) : Dle (cx Tryz.prog mixed tyT_ok E) (if i < k then f i else ([x] : List DD).getD ((i - k + 0) * 1 + j) .opq) (f i) := by
  obtain rfl : j = 0 := by omega
  rcases Nat.lt_or_ge i k with h | h
  · rw [if_pos h]; exact Dle.refl _ _
  · obtain rfl : i = k := by omega
    rw [if_neg (by omega), hx]
    exact Dle.of_eq (by simp [List.getD])
set_option maxHeartbeats 8000000 in
theorem readMap_sp (hML : ∀ w, E.G w → ML w) (s : ByteArray) : Sp (cx Tryz.prog mixed tyT_ok E) 10 [dS s] (encBun (readM s)) := by
  obtain ⟨r, hr⟩ : ∃ r, r = readM s := ⟨_, rfl⟩
  rw [← hr]
  unfold readM at hr
  by_cases hbig : 20000 < s.size
  · rw [if_pos hbig] at hr
    refine Sp.body Tryz.func10 (by kernel_rfl) rfl (by kernel_rfl) (by kernel_rfl) (by kernel_rfl) ?_
    repeat' first
      | (refine codeW_cond rfl ?_; first | (refine condW_dec ?_ ?_ <;> intro _ <;> try (exfalso; omega)) | refine condW_not ?_ | (refine condW_bool ?_ ?_ <;> intro _ <;> try (exfalso; omega)))
      | (refine facW_intro ?_; intro _)
      | refine Or.inl ?_
      | ((conv => whnf); first | (refine condW_dec ?_ ?_ <;> intro _ <;> try (exfalso; omega)) | refine condW_not ?_ | (refine condW_bool ?_ ?_ <;> intro _ <;> try (exfalso; omega)) | (refine nbC_t (fun _ => ?_) ?_) | (refine nbC_f ?_ (fun _ => ?_)))
      | refine And.intro (by first | omega | (simp only [Int.toNat_natCast] at *; omega) | (simp only [Nat.reduceAdd, Int.cast_ofNat_Int, true_and, and_true]; omega) | kernel_rfl) ?_
      | refine RegW.run ?_
      | fail
    all_goals first
      | (exfalso; omega)
      | exact dle_errB E hr
      | trace_state
  · rw [if_neg hbig] at hr
    obtain ⟨ls, hls⟩ : ∃ ls, ls = lnsP s := ⟨_, rfl⟩
    rw [← hls] at hr
    have hln := lnsP_len s
    rw [← hls] at hln
    have hlz : ls.length ≤ 20000 := by
      have := pcs_len10 s
      omega
    refine Sp.body Tryz.func10 (by kernel_rfl) rfl (by kernel_rfl) (by kernel_rfl) (by kernel_rfl) ?_
    repeat' first
      | (refine codeW_cond rfl ?_; first | (refine condW_dec ?_ ?_ <;> intro _ <;> try (exfalso; omega)) | refine condW_not ?_ | (refine condW_bool ?_ ?_ <;> intro _ <;> try (exfalso; omega)))
      | (refine facW_intro ?_; intro _)
      | refine Or.inl ?_
      | ((conv => whnf); first | (refine condW_dec ?_ ?_ <;> intro _ <;> try (exfalso; omega)) | refine condW_not ?_ | (refine condW_bool ?_ ?_ <;> intro _ <;> try (exfalso; omega)) | (refine nbC_t (fun _ => ?_) ?_) | (refine nbC_f ?_ (fun _ => ?_)))
      | refine And.intro (by first | omega | (simp only [Int.toNat_natCast] at *; omega) | (simp only [Nat.reduceAdd, Int.cast_ofNat_Int, true_and, and_true]; omega) | kernel_rfl) ?_
      | refine RegW.run ?_
      | fail
    all_goals try (exfalso; omega)
    refine ⟨Nat, fun k => [(0, dS (tl s k)), (5, i64 (sm ls k))], fun k => [(4, .cells [dS ⟨#[]⟩, .own 5 1 0 k, .own 12 1 0 k])], [2], fun k => [(5, 9, k, fun i _ => dS ((psP ls).getD i ⟨#[]⟩)), (12, 3, k, fun i _ => i64 (sm ls (i + 1)))], fun k => k ≤ ls.length ∧ pcs (tl s k) ⟨#[10]⟩ = (pcs s ⟨#[10]⟩).drop k ∧ (∀ i, i < k → lnOk (ls.getD i ⟨#[]⟩) = true), fun k => ls.length - k, ⟨0, ⟨Nat.zero_le _, rfl, fun i hi => by omega⟩, ⟨[(5, none), (12, none)], ⟨by kernel_rfl, by kernel_rfl, by kernel_rfl, by kernel_rfl, by kernel_rfl, by kernel_rfl, by kernel_rfl⟩, (by repeat' first | exact trivial | exact rfl | kernel_rfl | exact Dle.of_eq rfl | exact MLe.of_eq rfl | exact Dle.i (by omega) | exact Dle.i (by simp only [Int.toNat_natCast] at *; omega) | exact Dle.nil | exact Dle.rc Dle.nil | exact Option.some_ne_none _ | exact Or.inl rfl | exact Or.inr trivial | omega | (simp only [Int.toNat_natCast] at *; omega) | (intro _ _ _ _; exact Dle.of_eq rfl) | refine And.intro ?_ ?_)⟩⟩, fun k hk => ?_⟩
    obtain ⟨hk, hp, hok⟩ := hk
    have hts := tl_size s k
    obtain ⟨q1, q2, q3, q4, q5⟩ := sm_cases (ls := ls) (k := k) (by omega) (fun i hi => hok i hi)
    by_cases h0 : tl s k = ⟨#[]⟩
    · obtain ⟨hkn, hlast⟩ := tl_nil hp h0
      rw [← hls] at hkn
      subst hkn
      rw [if_neg (by rw [allOk_yes hok]; simp [hlast])] at hr
      by_cases hbg : 40 < ls.length ∨ 200000 < sm ls ls.length
      · rw [if_pos hbg] at hr
        repeat' first
          | (refine codeW_cond rfl ?_; first | (refine condW_dec ?_ ?_ <;> intro _ <;> try (exfalso; omega)) | refine condW_not ?_ | (refine condW_bool ?_ ?_ <;> intro _ <;> try (exfalso; omega)))
          | (refine facW_intro ?_; intro _)
          | refine Or.inl ?_
          | ((conv => whnf); first | (refine condW_dec ?_ ?_ <;> intro _ <;> try (exfalso; omega)) | refine condW_not ?_ | (refine condW_bool ?_ ?_ <;> intro _ <;> try (exfalso; omega)) | (refine nbC_t (fun _ => ?_) ?_) | (refine nbC_f ?_ (fun _ => ?_)))
          | refine And.intro (by first | omega | (simp only [Int.toNat_natCast] at *; omega) | (simp only [Nat.reduceAdd, Int.cast_ofNat_Int, true_and, and_true]; omega) | kernel_rfl) ?_
          | refine RegW.run ?_
          | fail
        all_goals first
          | (exfalso; exact absurd h0 (by assumption))
          | (exfalso; omega)
          | exact dle_errB E hr
          | trace_state
      · rw [if_neg hbg] at hr
        have hpf := partsFault_sp E hML (psP ls) (by rw [psP_len]; omega)
        unfold encStrs at hpf
        rw [psP_len] at hpf
        generalize pfE (psP ls) 0 = c at hr hpf
        by_cases hc : c = 0
        · rw [if_neg (by omega)] at hr
          subst hc
          have hD : Dle (cx Tryz.prog mixed tyT_ok E) (.tup [.agg [dS ⟨#[]⟩, .sl 1 16 ls.length (fun i _ => dS ((psP ls).getD i ⟨#[]⟩)), .sl 1 8 ls.length (fun i _ => i64 (sm ls (i + 1)))], i64 0]) (encBun r) := by
            rw [hr]
            refine Dle.tup (X := (cx Tryz.prog mixed tyT_ok E)) ⟨Dle.agg (X := (cx Tryz.prog mixed tyT_ok E)) ⟨Dle.refl _ _, ?_, ?_, trivial⟩, Dle.refl _ _, trivial⟩
            · exact Dle.sl (X := (cx Tryz.prog mixed tyT_ok E)) (psP_len ls).symm (fun i j hi hj => Dle.refl _ _)
            · exact Dle.sl (X := (cx Tryz.prog mixed tyT_ok E)) (esP_len ls _).symm (fun i j hi hj => Dle.of_eq (by rw [esP_at hi]))
          repeat' first
            | (refine codeW_cond rfl ?_; first | (refine condW_dec ?_ ?_ <;> intro _ <;> try (exfalso; omega)) | refine condW_not ?_ | (refine condW_bool ?_ ?_ <;> intro _ <;> try (exfalso; omega)))
            | (refine facW_intro ?_; intro _)
            | refine Or.inl ?_
            | ((conv => whnf); first | (refine condW_dec ?_ ?_ <;> intro _ <;> try (exfalso; omega)) | refine condW_not ?_ | (refine condW_bool ?_ ?_ <;> intro _ <;> try (exfalso; omega)) | (refine nbC_t (fun _ => ?_) ?_) | (refine nbC_f ?_ (fun _ => ?_)))
            | refine And.intro (by first | omega | (simp only [Int.toNat_natCast] at *; omega) | (simp only [Nat.reduceAdd, Int.cast_ofNat_Int, true_and, and_true]; omega) | kernel_rfl) ?_
            | refine RegW.run ?_
            | refine ⟨_, hpf, ?_⟩
            | fail
          all_goals first
            | (exfalso; exact absurd h0 (by assumption))
            | (exfalso; rename_i h; exact h rfl)
            | (exfalso; omega)
            | exact hD
            | trace_state
        · rw [if_pos hc] at hr
          repeat' first
            | (refine codeW_cond rfl ?_; first | (refine condW_dec ?_ ?_ <;> intro _ <;> try (exfalso; omega)) | refine condW_not ?_ | (refine condW_bool ?_ ?_ <;> intro _ <;> try (exfalso; omega)))
            | (refine facW_intro ?_; intro _)
            | refine Or.inl ?_
            | ((conv => whnf); first | (refine condW_dec ?_ ?_ <;> intro _ <;> try (exfalso; omega)) | refine condW_not ?_ | (refine condW_bool ?_ ?_ <;> intro _ <;> try (exfalso; omega)) | (refine nbC_t (fun _ => ?_) ?_) | (refine nbC_f ?_ (fun _ => ?_)))
            | refine And.intro (by first | omega | (simp only [Int.toNat_natCast] at *; omega) | (simp only [Nat.reduceAdd, Int.cast_ofNat_Int, true_and, and_true]; omega) | kernel_rfl) ?_
            | refine RegW.run ?_
            | refine ⟨_, hpf, ?_⟩
            | fail
          all_goals first
            | (exfalso; exact absurd h0 (by assumption))
            | (exfalso; exact absurd (by assumption) hc)
            | (exfalso; omega)
            | exact dle_errB E hr
            | trace_state
    · have h1 := cutc_sp E hML 10 (tl s k) (by omega)
      have hcs := cut_size 10 (tl s k)
      cases hcO : cO 10 (tl s k)
      · have hlast := tl_last hp h0 hcO
        rw [if_pos (.inl hlast)] at hr
        have h2 := cutc_sp E hML 32 (cL 10 (tl s k)) (by omega)
        have hcs2 := cut_size 32 (cL 10 (tl s k))
        have h3 := read32_sp E (cR 32 (cL 10 (tl s k))) (by omega)
        rw [hcO] at h1
        repeat' first
          | (refine codeW_cond rfl ?_; first | (refine condW_dec ?_ ?_ <;> intro _ <;> try (exfalso; omega)) | refine condW_not ?_ | (refine condW_bool ?_ ?_ <;> intro _ <;> try (exfalso; omega)))
          | (refine facW_intro ?_; intro _)
          | refine Or.inl ?_
          | ((conv => whnf); first | (refine condW_dec ?_ ?_ <;> intro _ <;> try (exfalso; omega)) | refine condW_not ?_ | (refine condW_bool ?_ ?_ <;> intro _ <;> try (exfalso; omega)) | (refine nbC_t (fun _ => ?_) ?_) | (refine nbC_f ?_ (fun _ => ?_)))
          | refine And.intro (by first | omega | (simp only [Int.toNat_natCast] at *; omega) | (simp only [Nat.reduceAdd, Int.cast_ofNat_Int, true_and, and_true]; omega) | kernel_rfl) ?_
          | refine RegW.run ?_
          | refine ⟨_, h1, ?_⟩
          | refine ⟨_, h2, ?_⟩
          | refine ⟨_, h3, ?_⟩
          | fail
        all_goals first
          | (exfalso; exact h0 (by assumption))
          | exact dle_errB E hr
          | (exfalso; rename_i h; exact h rfl)
          | (exfalso; simp_all; done)
          | trace_state
      · obtain ⟨hkl, hL, hpn⟩ := tl_line hp hcO
        rw [← hls] at hkl hL
        have h2 := cutc_sp E hML 32 (cL 10 (tl s k)) (by omega)
        have hcs2 := cut_size 32 (cL 10 (tl s k))
        have h3 := read32_sp E (cR 32 (cL 10 (tl s k))) (by omega)
        rw [hcO] at h1
        have hpk := psP_at hkl
        have hsn : sm ls (k + 1) = min (sm ls k + rd (cR 32 (cL 10 (tl s k))) (cR 32 (cL 10 (tl s k))).size) 400000 := by rw [← hL]; rfl
        cases hlo : lnOk (ls.getD k ⟨#[]⟩)
        · rw [if_pos (.inr (allOk_no hkl hlo))] at hr
          have hno : ¬ (cO 32 (cL 10 (tl s k)) = true ∧ szOk (cR 32 (cL 10 (tl s k))) = true ∧ cL 32 (cL 10 (tl s k)) ≠ ⟨#[]⟩) := fun h => by
            rw [hL, (lnOk_iff _).2 h] at hlo
            cases hlo
          generalize cO 32 (cL 10 (tl s k)) = b2 at h2 hno
          generalize szOk (cR 32 (cL 10 (tl s k))) = b3 at h3 hno
          repeat' first
            | (refine codeW_cond rfl ?_; first | (refine condW_dec ?_ ?_ <;> intro _ <;> try (exfalso; omega)) | refine condW_not ?_ | (refine condW_bool ?_ ?_ <;> intro _ <;> try (exfalso; omega)))
            | (refine facW_intro ?_; intro _)
            | refine Or.inl ?_
            | ((conv => whnf); first | (refine condW_dec ?_ ?_ <;> intro _ <;> try (exfalso; omega)) | refine condW_not ?_ | (refine condW_bool ?_ ?_ <;> intro _ <;> try (exfalso; omega)) | (refine nbC_t (fun _ => ?_) ?_) | (refine nbC_f ?_ (fun _ => ?_)))
            | refine And.intro (by first | omega | (simp only [Int.toNat_natCast] at *; omega) | (simp only [Nat.reduceAdd, Int.cast_ofNat_Int, true_and, and_true]; omega) | kernel_rfl) ?_
            | refine RegW.run ?_
            | refine ⟨_, h1, ?_⟩
            | refine ⟨_, h2, ?_⟩
            | refine ⟨_, h3, ?_⟩
            | fail
          all_goals first
            | (exfalso; exact h0 (by assumption))
            | exact dle_errB E hr
            | (exfalso; rename_i h; exact h rfl)
            | (exfalso; exact hno ⟨by assumption, by assumption, by assumption⟩)
            | (exfalso; simp_all; done)
            | trace_state
        · obtain ⟨a1, a2, a3⟩ := (lnOk_iff _).1 hlo
          rw [hL] at a1 a2 a3
          have hb := (sz_b hlo)
          have hz : szP (ls.getD k ⟨#[]⟩) = rd (cR 32 (cL 10 (tl s k))) (cR 32 (cL 10 (tl s k))).size := by rw [hL]; rfl
          rw [hz] at hb
          rw [a1] at h2
          rw [a2, if_pos rfl] at h3
          rw [hL] at hpk
          generalize rd (cR 32 (cL 10 (tl s k))) (cR 32 (cL 10 (tl s k))).size = v at h3 hsn hb
          repeat' first
            | (refine codeW_cond rfl ?_; first | (refine condW_dec ?_ ?_ <;> intro _ <;> try (exfalso; omega)) | refine condW_not ?_ | (refine condW_bool ?_ ?_ <;> intro _ <;> try (exfalso; omega)))
            | (refine facW_intro ?_; intro _)
            | refine Or.inl ?_
            | ((conv => whnf); first | (refine condW_dec ?_ ?_ <;> intro _ <;> try (exfalso; omega)) | refine condW_not ?_ | (refine condW_bool ?_ ?_ <;> intro _ <;> try (exfalso; omega)) | (refine nbC_t (fun _ => ?_) ?_) | (refine nbC_f ?_ (fun _ => ?_)))
            | refine And.intro (by first | omega | (simp only [Int.toNat_natCast] at *; omega) | (simp only [Nat.reduceAdd, Int.cast_ofNat_Int, true_and, and_true]; omega) | kernel_rfl) ?_
            | refine RegW.run ?_
            | refine ⟨_, h1, ?_⟩
            | refine ⟨_, h2, ?_⟩
            | refine ⟨_, h3, ?_⟩
            | fail
          all_goals first
            | (exfalso; exact h0 (by assumption))
            | (exfalso; exact a3 (by assumption))
            | (exfalso; rename_i h; exact h rfl)
            | (rw [← hsn]; exact ⟨k + 1, ⟨by omega, hpn, fun i hi => if hik : i = k then hik ▸ hlo else hok i (by omega)⟩, ⟨[(5, some 63), (12, some 68)], ⟨by kernel_rfl, by kernel_rfl, by kernel_rfl, by kernel_rfl, by kernel_rfl, by kernel_rfl, by kernel_rfl⟩, (by repeat' first | exact trivial | exact rfl | kernel_rfl | exact Dle.of_eq rfl | exact MLe.of_eq rfl | exact Dle.i (by omega) | exact Dle.i (by simp only [Int.toNat_natCast] at *; omega) | exact Dle.nil | exact Dle.rc Dle.nil | exact Option.some_ne_none _ | exact Or.inl rfl | exact Or.inr trivial | omega | (simp only [Int.toNat_natCast] at *; omega) | (intro _ _ _ _; exact Dle.of_eq rfl) | (intro i j hi hj; (first | exact row_g E (fun i => dS ((psP ls).getD i ⟨#[]⟩)) _ k (by rw [hpk]) i j (by omega) hj | exact row_g E (fun i => i64 (sm ls (i + 1))) _ k rfl i j (by omega) hj)) | refine And.intro ?_ ?_)⟩, by first | omega | (dsimp only; omega)⟩)
            | trace_state
end
end md
end Go.Proofs.YtiiohopjkepkgaaGreatDoor
