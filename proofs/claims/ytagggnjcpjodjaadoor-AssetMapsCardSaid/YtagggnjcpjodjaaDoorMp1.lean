/-
  The parts of a bundle as text: the plain law; the program's side.
-/
import Derived.Test.YtagggnjcpjodjaaDoorMp0
import Derived.Test.YtagggnjcpjodjaaDoorPa0
namespace Go.Proofs.YtagggnjcpjodjaaDoor.mp32
open Go.RowKit
set_option linter.unusedVariables false
set_option linter.unusedSimpArgs false
abbrev tabD : ByteArray := ⟨#[48, 49, 50, 51, 52, 53, 54, 55, 56, 57, 97, 98, 99, 100, 101, 102, 103, 104, 105, 106, 107, 108, 109, 110, 111, 112, 113, 114, 115, 116, 117, 118]⟩
theorem tabD_at : ∀ n : Fin 32, tabD.extract n.val (n.val + 1) = bs [dg (n.val : Nat)] := by decide +kernel
theorem tabD_dg {u : Int} (h0 : 0 ≤ u) (h1 : u < 32) : tabD.extract u.toNat (u + 1).toNat = bs [dg u] := by
  obtain ⟨n, rfl⟩ := Int.eq_ofNat_of_zero_le h0
  exact tabD_at ⟨n, by omega⟩
theorem bs_size (l : List UInt8) : (bs l).size = l.length := by simp [bs, ByteArray.size]
theorem bs_app (l m : List UInt8) : bs l ++ bs m = bs (l ++ m) := ByteArray.mk_append_mk _ _
def dv (n : Int) : Nat → Int
  | 0 => n
  | k + 1 => dv n k / 32
theorem dv_b {n : Int} (h0 : 0 ≤ n) : ∀ k, 0 ≤ dv n k ∧ dv n k ≤ n
  | 0 => ⟨h0, Int.le_refl _⟩
  | k + 1 => by have := dv_b h0 k; show 0 ≤ dv n k / 32 ∧ dv n k / 32 ≤ n; omega
def low (n : Int) : Nat → List UInt8
  | 0 => [dg (n % 32)]
  | k + 1 => dg (dv n (k + 1) % 32) :: low n k
theorem low_len (n : Int) : ∀ k, (low n k).length = k + 1
  | 0 => rfl
  | k + 1 => by simp [low, low_len n k]
theorem low_b32 {n : Int} {k : Nat} (h0 : 0 ≤ n) (h1 : n < 1048576) (hk : k ≤ 3) (hz : k = 0 ∨ 0 < dv n k) (he : dv n (k + 1) ≤ 0) : low n k = b32 n := by
  match k, hk with
  | 0, _ =>
    have e : n / 32 ≤ 0 := he
    have e2 : n % 32 = n := by omega
    unfold b32
    rw [if_pos (by omega)]
    show [dg (n % 32)] = _
    rw [e2]
  | 1, _ =>
    have e : n / 32 / 32 ≤ 0 := he
    have e3 : 0 < n / 32 := hz.resolve_left (by decide)
    have e2 : n / 32 % 32 = n / 32 := by omega
    unfold b32
    rw [if_neg (by omega), if_pos (by omega)]
    show [dg (n / 32 % 32), dg (n % 32)] = _
    rw [e2]
  | 2, _ =>
    have e : n / 32 / 32 / 32 ≤ 0 := he
    have e3 : 0 < n / 32 / 32 := hz.resolve_left (by decide)
    have e2 : n / 32 / 32 % 32 = n / 32 / 32 := by omega
    unfold b32
    rw [if_neg (by omega), if_neg (by omega), if_pos (by omega)]
    show [dg (n / 32 / 32 % 32), dg (n / 32 % 32), dg (n % 32)] = _
    rw [e2]
  | 3, _ =>
    have e3 : 0 < n / 32 / 32 / 32 := hz.resolve_left (by decide)
    have e2 : n / 32 / 32 / 32 % 32 = n / 32 / 32 / 32 := by omega
    unfold b32
    rw [if_neg (by omega), if_neg (by omega), if_neg (by omega)]
    show [dg (n / 32 / 32 / 32 % 32), dg (n / 32 / 32 % 32), dg (n / 32 % 32), dg (n % 32)] = _
    rw [e2]
theorem b32_len (n : Int) : (b32 n).length ≤ 4 := by
  unfold b32
  repeat' split
  all_goals simp
/-- The end ahead of a part. -/
def pv (es : List Int) (k : Nat) : Int := if k = 0 then 0 else es.getD (k - 1) 0
theorem pv_s (es : List Int) (k : Nat) : pv es (k + 1) = es.getD k 0 := by simp [pv]
def mon (es : List Int) (k : Nat) : Bool := allN k (fun i => decide (pv es i ≤ es.getD i 0))
theorem mon_b {es : List Int} : ∀ {n : Nat}, mon es n = true → 0 ≤ pv es n ∧ ∀ i, i ≤ n → 0 ≤ pv es i ∧ pv es i ≤ pv es n
  | 0, _ => ⟨by simp [pv], fun i hi => by obtain rfl : i = 0 := by omega
                                          simp [pv]⟩
  | n + 1, h => by
    have h1 : mon es n = true := allN_iff.2 fun k hk => allN_iff.1 h k (by omega)
    have h2 : pv es n ≤ pv es (n + 1) := by
      rw [pv_s]
      simpa using allN_iff.1 h n (by omega)
    obtain ⟨g1, g2⟩ := mon_b h1
    refine ⟨by omega, fun i hi => ?_⟩
    rcases Nat.lt_or_ge n i with h3 | h3
    · obtain rfl : i = n + 1 := by omega
      omega
    · have := g2 i h3
      omega
/-- Whether the numbers of a bundle fit. -/
def formB (b : ByteArray) (ps : List ByteArray) (es : List Int) : Bool := decide (ps.length = es.length) && decide (ps.length ≤ 40) && mon es es.length && decide (pv es es.length = b.size)
theorem formB_iff {b : ByteArray} {ps : List ByteArray} {es : List Int} : formB b ps es = true ↔ ps.length = es.length ∧ ps.length ≤ 40 ∧ mon es es.length = true ∧ pv es es.length = b.size := by simp [formB, and_assoc]
def bunE (b : ByteArray) (ps : List ByteArray) (es : List Int) : Int := if (200000 : Int) < b.size then 4 else if formB b ps es = true then 0 else 1
/-- Whether a string is among the first k ones. -/
def inK (ps : List ByteArray) (k : Nat) (s : ByteArray) : Bool := !allN k (fun i => decide (¬ ps.getD i ⟨#[]⟩ = s))
theorem first_no {p : Nat → Bool} : ∀ {k : Nat}, allN k p = false → ∃ m, m < k ∧ p m = false ∧ ∀ i, i < m → p i = true
  | 0, h => by simp [allN] at h
  | k + 1, h => by
    by_cases h1 : allN k p = true
    · refine ⟨k, by omega, ?_, fun i hi => allN_iff.1 h1 i hi⟩
      by_cases h2 : p k = true
      · rw [allN_succ h1 h2] at h
        cases h
      · simpa using h2
    · obtain ⟨m, h2, h3, h4⟩ := first_no (by simpa using h1 : allN k p = false)
      exact ⟨m, by omega, h3, h4⟩
/-- What is wrong with the parts from one on. -/
def pfE (ps : List ByteArray) (k : Nat) : Int := if k < ps.length then (if pathB (ps.getD k ⟨#[]⟩) = true then (if inK ps k (ps.getD k ⟨#[]⟩) = true then 6 else pfE ps (k + 1)) else 3) else 0
  termination_by ps.length - k
theorem pfE_end {ps : List ByteArray} {k : Nat} (h : ¬ k < ps.length) : pfE ps k = 0 := by rw [pfE, if_neg h]
theorem pfE_path {ps : List ByteArray} {k : Nat} (h : k < ps.length) (h2 : ¬ pathB (ps.getD k ⟨#[]⟩) = true) : pfE ps k = 3 := by rw [pfE, if_pos h, if_neg h2]
theorem pfE_dup {ps : List ByteArray} {k : Nat} (h : k < ps.length) (h2 : pathB (ps.getD k ⟨#[]⟩) = true) (h3 : inK ps k (ps.getD k ⟨#[]⟩) = true) : pfE ps k = 6 := by rw [pfE, if_pos h, if_pos h2, if_pos h3]
theorem pfE_next {ps : List ByteArray} {k : Nat} (h : k < ps.length) (h2 : pathB (ps.getD k ⟨#[]⟩) = true) (h3 : ¬ inK ps k (ps.getD k ⟨#[]⟩) = true) : pfE ps k = pfE ps (k + 1) := by rw [pfE, if_pos h, if_pos h2, if_neg h3]
theorem pfE_all (ps : List ByteArray) : ∀ (n k : Nat), ps.length - k < n → pfE ps k = 0 → ∀ i, k ≤ i → i < ps.length → pathB (ps.getD i ⟨#[]⟩) = true
  | 0, k, hn, _ => by omega
  | n + 1, k, hn, h => fun i hi hl => by
    have hk : k < ps.length := by omega
    by_cases h2 : pathB (ps.getD k ⟨#[]⟩) = true
    · by_cases h3 : inK ps k (ps.getD k ⟨#[]⟩) = true
      · rw [pfE_dup hk h2 h3] at h
        omega
      · rcases Nat.lt_or_ge k i with h4 | h4
        · rw [pfE_next hk h2 h3] at h
          exact pfE_all ps n (k + 1) (by omega) h i h4 hl
        · obtain rfl : i = k := by omega
          exact h2
    · rw [pfE_path hk h2] at h
      omega
theorem path_size {s : ByteArray} (h : pathB s = true) : s.size ≤ 200 := by
  rcases Nat.lt_or_ge 200 s.size with h1 | h1
  · rw [path_long (by omega)] at h
    cases h
  · exact h1
def line (ps : List ByteArray) (es : List Int) (k : Nat) : ByteArray := ps.getD k ⟨#[]⟩ ++ ⟨#[32]⟩ ++ bs (b32 (es.getD k 0 - pv es k)) ++ ⟨#[10]⟩
def mtxt (ps : List ByteArray) (es : List Int) : Nat → ByteArray
  | 0 => ⟨#[]⟩
  | k + 1 => mtxt ps es k ++ line ps es k
theorem line_size {ps : List ByteArray} {es : List Int} {k : Nat} (h : pathB (ps.getD k ⟨#[]⟩) = true) : (line ps es k).size ≤ 206 := by
  have h1 := path_size h
  have h2 := b32_len (es.getD k 0 - pv es k)
  unfold line
  rw [ByteArray.size_append, ByteArray.size_append, ByteArray.size_append, bs_size]
  have c1 : (⟨#[32]⟩ : ByteArray).size = 1 := rfl
  have c2 : (⟨#[10]⟩ : ByteArray).size = 1 := rfl
  omega
theorem mtxt_size {ps : List ByteArray} {es : List Int} : ∀ {k : Nat}, (∀ i, i < k → pathB (ps.getD i ⟨#[]⟩) = true) → (mtxt ps es k).size ≤ 206 * k
  | 0, _ => Nat.le_refl _
  | k + 1, h => by
    have h1 := mtxt_size (k := k) (ps := ps) (es := es) fun i hi => h i (by omega)
    have h2 := line_size (es := es) (h k (by omega))
    show (mtxt ps es k ++ line ps es k).size ≤ _
    rw [ByteArray.size_append]
    omega
structure Res where
  s : ByteArray
  e : Int
def encO (r : Res) : DD := .tup [dS r.s, i64 r.e]
def errR (e : Int) : Res := ⟨⟨#[]⟩, e⟩
def mapR (b : ByteArray) (ps : List ByteArray) (es : List Int) : Res :=
  if ¬ bunE b ps es = 0 then errR (bunE b ps es) else if ¬ pfE ps 0 = 0 then errR (pfE ps 0) else ⟨mtxt ps es ps.length, 0⟩
def encB (b : ByteArray) (ps : List ByteArray) (es : List Int) : DD := .agg [dS b, encStrs ps, .sl 1 8 es.length (fun i _ => i64 (es.getD i 0))]
section
variable (E : Env)
set_option maxRecDepth 100000
theorem base32_sp (n : Int) (h0 : 0 ≤ n) (h1 : n < 1048576) : Sp (cx Tryd.prog mixed tyT_ok E) 27 [i64 n] (dS (bs (b32 n))) := by
  have c32 : (⟨#[48, 49, 50, 51, 52, 53, 54, 55, 56, 57, 97, 98, 99, 100, 101, 102, 103, 104, 105, 106, 107, 108, 109, 110, 111, 112, 113, 114, 115, 116, 117, 118]⟩ : ByteArray).size = 32 := rfl
  have e0 := tabD_dg (u := n % 32) (by omega) (by omega)
  refine Sp.body Tryd.func27 (by kernel_rfl) rfl (by kernel_rfl) (by kernel_rfl) (by kernel_rfl) ?_
  repeat' first
    | (refine facW_intro ?_; intro _)
    | refine Or.inl ?_
    | ((conv => whnf); first | (refine condW_dec ?_ ?_ <;> intro _ <;> try (exfalso; omega)) | refine condW_not ?_ | (refine condW_bool ?_ ?_ <;> intro _ <;> try (exfalso; omega)) | (refine nbC_t (fun _ => ?_) ?_) | (refine nbC_f ?_ (fun _ => ?_)))
    | refine And.intro (by first | omega | (simp only [Int.toNat_natCast] at *; omega) | (simp only [Nat.reduceAdd, Int.cast_ofNat_Int, true_and, and_true]; omega) | kernel_rfl) ?_
    | refine RegW.run ?_
    | fail
  refine ⟨Nat, fun k => [(0, i64 (dv n (k + 1))), (3, dS (bs (low n k)))], fun k => [], [], fun k => [], fun k => k ≤ 3 ∧ (k = 0 ∨ 0 < dv n k), fun k => 4 - k, ⟨0, ⟨by omega, .inl rfl⟩, ⟨[], ⟨by kernel_rfl, by kernel_rfl, by kernel_rfl, by kernel_rfl, by kernel_rfl, by kernel_rfl, by kernel_rfl⟩, (by repeat' first | (exact Dle.of_eq (congrArg dS e0)) | exact trivial | exact rfl | kernel_rfl | exact Dle.of_eq rfl | exact MLe.of_eq rfl | exact Dle.i (by omega) | exact Dle.i (by simp only [Int.toNat_natCast] at *; omega) | exact Dle.nil | exact Dle.rc Dle.nil | exact Option.some_ne_none _ | exact Or.inl rfl | exact Or.inr trivial | omega | (simp only [Int.toNat_natCast] at *; omega) | (intro _ _ _ _; exact Dle.of_eq rfl) | refine And.intro ?_ ?_)⟩⟩, fun k hk => ?_⟩
  obtain ⟨hk, hz⟩ := hk
  have hb := dv_b h0 (k + 1)
  by_cases hlt : 0 < dv n (k + 1)
  · have hk3 : k < 3 := by
      rcases Nat.lt_or_ge k 3 with h | h
      · exact h
      · obtain rfl : k = 3 := by omega
        have : 0 < n / 32 / 32 / 32 / 32 := hlt
        omega
    have e1 := tabD_dg (u := dv n (k + 1) % 32) (by omega) (by omega)
    have e2 : tabD.extract (dv n (k + 1) % 32).toNat (dv n (k + 1) % 32 + 1).toNat ++ bs (low n k) = bs (low n (k + 1)) := by rw [e1, bs_app]; rfl
    have e3 : ((⟨#[48, 49, 50, 51, 52, 53, 54, 55, 56, 57, 97, 98, 99, 100, 101, 102, 103, 104, 105, 106, 107, 108, 109, 110, 111, 112, 113, 114, 115, 116, 117, 118]⟩ : ByteArray).extract (dv n (k + 1) % 32).toNat (dv n (k + 1) % 32 + 1).toNat).size = 1 := by rw [e1, bs_size]; rfl
    have e4 : (bs (low n k)).size = k + 1 := by rw [bs_size, low_len]
    clear e1
    repeat' first
      | (refine facW_intro ?_; intro _)
      | refine Or.inl ?_
      | ((conv => whnf); first | (refine condW_dec ?_ ?_ <;> intro _ <;> try (exfalso; omega)) | refine condW_not ?_ | (refine condW_bool ?_ ?_ <;> intro _ <;> try (exfalso; omega)) | (refine nbC_t (fun _ => ?_) ?_) | (refine nbC_f ?_ (fun _ => ?_)))
      | refine And.intro (by first | omega | (simp only [Int.toNat_natCast] at *; omega) | (simp only [Nat.reduceAdd, Int.cast_ofNat_Int, true_and, and_true]; omega) | kernel_rfl) ?_
      | refine RegW.run ?_
      | fail
    all_goals first
      | exact ⟨k + 1, ⟨by omega, .inr hlt⟩, ⟨[], ⟨by kernel_rfl, by kernel_rfl, by kernel_rfl, by kernel_rfl, by kernel_rfl, by kernel_rfl, by kernel_rfl⟩, (by repeat' first | (exact Dle.of_eq (congrArg dS e2)) | exact trivial | exact rfl | kernel_rfl | exact Dle.of_eq rfl | exact MLe.of_eq rfl | exact Dle.i (by omega) | exact Dle.i (by simp only [Int.toNat_natCast] at *; omega) | exact Dle.nil | exact Dle.rc Dle.nil | exact Option.some_ne_none _ | exact Or.inl rfl | exact Or.inr trivial | omega | (simp only [Int.toNat_natCast] at *; omega) | (intro _ _ _ _; exact Dle.of_eq rfl) | refine And.intro ?_ ?_)⟩, by first | omega | (dsimp only; omega)⟩
      | trace_state
  · have e5 := low_b32 h0 h1 hk hz (by omega)
    rw [← e5]
    repeat' first
      | (refine facW_intro ?_; intro _)
      | refine Or.inl ?_
      | ((conv => whnf); first | (refine condW_dec ?_ ?_ <;> intro _ <;> try (exfalso; omega)) | refine condW_not ?_ | (refine condW_bool ?_ ?_ <;> intro _ <;> try (exfalso; omega)) | (refine nbC_t (fun _ => ?_) ?_) | (refine nbC_f ?_ (fun _ => ?_)))
      | refine And.intro (by first | omega | (simp only [Int.toNat_natCast] at *; omega) | (simp only [Nat.reduceAdd, Int.cast_ofNat_Int, true_and, and_true]; omega) | kernel_rfl) ?_
      | refine RegW.run ?_
      | fail
    all_goals first
      | exact Dle.refl _ _
      | trace_state
theorem bundleFault_sp (b : ByteArray) (ps : List ByteArray) (es : List Int) (hp : ps.length ≤ 100000000000000) (he : es.length ≤ 100000000000000) : Sp (cx Tryd.prog mixed tyT_ok E) 25 [encB b ps es] (i64 (bunE b ps es)) := by
  obtain ⟨r, hr⟩ : ∃ r, r = bunE b ps es := ⟨_, rfl⟩
  rw [← hr]
  unfold bunE at hr
  by_cases hb : (200000 : Int) < b.size
  · rw [if_pos hb] at hr
    refine Sp.body Tryd.func25 (by kernel_rfl) rfl (by kernel_rfl) (by kernel_rfl) (by kernel_rfl) ?_
    repeat' first
      | (refine facW_intro ?_; intro _)
      | refine Or.inl ?_
      | ((conv => whnf); first | (refine condW_dec ?_ ?_ <;> intro _ <;> try (exfalso; omega)) | refine condW_not ?_ | (refine condW_bool ?_ ?_ <;> intro _ <;> try (exfalso; omega)) | (refine nbC_t (fun _ => ?_) ?_) | (refine nbC_f ?_ (fun _ => ?_)))
      | refine And.intro (by first | omega | (simp only [Int.toNat_natCast] at *; omega) | (simp only [Nat.reduceAdd, Int.cast_ofNat_Int, true_and, and_true]; omega) | kernel_rfl) ?_
      | refine RegW.run ?_
      | fail
    all_goals first
      | exact Dle.i hr.symm
      | trace_state
  · rw [if_neg hb] at hr
    have h1 : ¬ formB b ps es = true → r = 1 := fun h => by rw [if_neg h] at hr; exact hr
    have h0 : formB b ps es = true → r = 0 := fun h => by rw [if_pos h] at hr; exact hr
    clear hr
    by_cases hc : ps.length = es.length ∧ ps.length ≤ 40
    · refine Sp.body Tryd.func25 (by kernel_rfl) rfl (by kernel_rfl) (by kernel_rfl) (by kernel_rfl) ?_
      repeat' first
        | (refine facW_intro ?_; intro _)
        | refine Or.inl ?_
        | ((conv => whnf); first | (refine condW_dec ?_ ?_ <;> intro _ <;> try (exfalso; omega)) | refine condW_not ?_ | (refine condW_bool ?_ ?_ <;> intro _ <;> try (exfalso; omega)) | (refine nbC_t (fun _ => ?_) ?_) | (refine nbC_f ?_ (fun _ => ?_)))
        | refine And.intro (by first | omega | (simp only [Int.toNat_natCast] at *; omega) | (simp only [Nat.reduceAdd, Int.cast_ofNat_Int, true_and, and_true]; omega) | kernel_rfl) ?_
        | refine RegW.run ?_
        | fail
      refine ⟨Nat, fun k => [(26, i64 k), (3, i64 (pv es k))], fun k => [], [1], fun k => [], fun k => k ≤ es.length ∧ mon es k = true, fun k => es.length - k, ⟨0, ⟨by omega, rfl⟩, ⟨[], ⟨by kernel_rfl, by kernel_rfl, by kernel_rfl, by kernel_rfl, by kernel_rfl, by kernel_rfl, by kernel_rfl⟩, (by repeat' first | exact trivial | exact rfl | kernel_rfl | exact Dle.of_eq rfl | exact MLe.of_eq rfl | exact Dle.i (by omega) | exact Dle.i (by simp only [Int.toNat_natCast] at *; omega) | exact Dle.nil | exact Dle.rc Dle.nil | exact Option.some_ne_none _ | exact Or.inl rfl | exact Or.inr trivial | omega | (simp only [Int.toNat_natCast] at *; omega) | (intro _ _ _ _; exact Dle.of_eq rfl) | refine And.intro ?_ ?_)⟩⟩, fun k hk => ?_⟩
      obtain ⟨hk, hm⟩ := hk
      by_cases hlt : k < es.length
      · by_cases hle : pv es k ≤ es.getD k 0
        · have hm2 : mon es (k + 1) = true := allN_succ hm (by simpa using hle)
          have hle2 : pv es k ≤ es.getD ((k : Int)).toNat 0 := hle
          have e1 := pv_s es k
          repeat' first
            | (refine facW_intro ?_; intro _)
            | refine Or.inl ?_
            | ((conv => whnf); first | (refine condW_dec ?_ ?_ <;> intro _ <;> try (exfalso; omega)) | refine condW_not ?_ | (refine condW_bool ?_ ?_ <;> intro _ <;> try (exfalso; omega)) | (refine nbC_t (fun _ => ?_) ?_) | (refine nbC_f ?_ (fun _ => ?_)))
            | refine And.intro (by first | omega | (simp only [Int.toNat_natCast] at *; omega) | (simp only [Nat.reduceAdd, Int.cast_ofNat_Int, true_and, and_true]; omega) | kernel_rfl) ?_
            | refine RegW.run ?_
            | fail
          all_goals first
            | exact ⟨k + 1, ⟨by omega, hm2⟩, ⟨[], ⟨by kernel_rfl, by kernel_rfl, by kernel_rfl, by kernel_rfl, by kernel_rfl, by kernel_rfl, by kernel_rfl⟩, (by repeat' first | (exact Dle.i e1.symm) | exact trivial | exact rfl | kernel_rfl | exact Dle.of_eq rfl | exact MLe.of_eq rfl | exact Dle.i (by omega) | exact Dle.i (by simp only [Int.toNat_natCast] at *; omega) | exact Dle.nil | exact Dle.rc Dle.nil | exact Option.some_ne_none _ | exact Or.inl rfl | exact Or.inr trivial | omega | (simp only [Int.toNat_natCast] at *; omega) | (intro _ _ _ _; exact Dle.of_eq rfl) | refine And.intro ?_ ?_)⟩, by first | omega | (dsimp only; omega)⟩
            | trace_state
        · have hr := h1 fun h => hle (by simpa using allN_iff.1 (formB_iff.1 h).2.2.1 k hlt)
          have hle2 : ¬ pv es k ≤ es.getD ((k : Int)).toNat 0 := hle
          repeat' first
            | (refine facW_intro ?_; intro _)
            | refine Or.inl ?_
            | ((conv => whnf); first | (refine condW_dec ?_ ?_ <;> intro _ <;> try (exfalso; omega)) | refine condW_not ?_ | (refine condW_bool ?_ ?_ <;> intro _ <;> try (exfalso; omega)) | (refine nbC_t (fun _ => ?_) ?_) | (refine nbC_f ?_ (fun _ => ?_)))
            | refine And.intro (by first | omega | (simp only [Int.toNat_natCast] at *; omega) | (simp only [Nat.reduceAdd, Int.cast_ofNat_Int, true_and, and_true]; omega) | kernel_rfl) ?_
            | refine RegW.run ?_
            | fail
          all_goals first
            | exact Dle.i hr.symm
            | trace_state
      · obtain rfl : k = es.length := by omega
        by_cases hz : pv es es.length = b.size
        · have hr := h0 (formB_iff.2 ⟨hc.1, hc.2, hm, hz⟩)
          repeat' first
            | (refine facW_intro ?_; intro _)
            | refine Or.inl ?_
            | ((conv => whnf); first | (refine condW_dec ?_ ?_ <;> intro _ <;> try (exfalso; omega)) | refine condW_not ?_ | (refine condW_bool ?_ ?_ <;> intro _ <;> try (exfalso; omega)) | (refine nbC_t (fun _ => ?_) ?_) | (refine nbC_f ?_ (fun _ => ?_)))
            | refine And.intro (by first | omega | (simp only [Int.toNat_natCast] at *; omega) | (simp only [Nat.reduceAdd, Int.cast_ofNat_Int, true_and, and_true]; omega) | kernel_rfl) ?_
            | refine RegW.run ?_
            | fail
          all_goals first
            | exact Dle.i hr.symm
            | trace_state
        · have hr := h1 fun h => hz (formB_iff.1 h).2.2.2
          repeat' first
            | (refine facW_intro ?_; intro _)
            | refine Or.inl ?_
            | ((conv => whnf); first | (refine condW_dec ?_ ?_ <;> intro _ <;> try (exfalso; omega)) | refine condW_not ?_ | (refine condW_bool ?_ ?_ <;> intro _ <;> try (exfalso; omega)) | (refine nbC_t (fun _ => ?_) ?_) | (refine nbC_f ?_ (fun _ => ?_)))
            | refine And.intro (by first | omega | (simp only [Int.toNat_natCast] at *; omega) | (simp only [Nat.reduceAdd, Int.cast_ofNat_Int, true_and, and_true]; omega) | kernel_rfl) ?_
            | refine RegW.run ?_
            | fail
          all_goals first
            | exact Dle.i hr.symm
            | trace_state
    · have hr := h1 fun h => hc ⟨(formB_iff.1 h).1, (formB_iff.1 h).2.1⟩
      by_cases hc1 : ps.length = es.length
      · have hc2 : ¬ ps.length ≤ 40 := fun h => hc ⟨hc1, h⟩
        refine Sp.body Tryd.func25 (by kernel_rfl) rfl (by kernel_rfl) (by kernel_rfl) (by kernel_rfl) ?_
        repeat' first
          | (refine facW_intro ?_; intro _)
          | refine Or.inl ?_
          | ((conv => whnf); first | (refine condW_dec ?_ ?_ <;> intro _ <;> try (exfalso; omega)) | refine condW_not ?_ | (refine condW_bool ?_ ?_ <;> intro _ <;> try (exfalso; omega)) | (refine nbC_t (fun _ => ?_) ?_) | (refine nbC_f ?_ (fun _ => ?_)))
          | refine And.intro (by first | omega | (simp only [Int.toNat_natCast] at *; omega) | (simp only [Nat.reduceAdd, Int.cast_ofNat_Int, true_and, and_true]; omega) | kernel_rfl) ?_
          | refine RegW.run ?_
          | fail
        all_goals first
          | exact Dle.i hr.symm
          | trace_state
      · have hc2 : ¬ (ps.length : Int) = es.length := by omega
        refine Sp.body Tryd.func25 (by kernel_rfl) rfl (by kernel_rfl) (by kernel_rfl) (by kernel_rfl) ?_
        repeat' first
          | (refine facW_intro ?_; intro _)
          | refine Or.inl ?_
          | ((conv => whnf); first | (refine condW_dec ?_ ?_ <;> intro _ <;> try (exfalso; omega)) | refine condW_not ?_ | (refine condW_bool ?_ ?_ <;> intro _ <;> try (exfalso; omega)) | (refine nbC_t (fun _ => ?_) ?_) | (refine nbC_f ?_ (fun _ => ?_)))
          | refine And.intro (by first | omega | (simp only [Int.toNat_natCast] at *; omega) | (simp only [Nat.reduceAdd, Int.cast_ofNat_Int, true_and, and_true]; omega) | kernel_rfl) ?_
          | refine RegW.run ?_
          | fail
        all_goals first
          | exact Dle.i hr.symm
          | trace_state
end
end Go.Proofs.YtagggnjcpjodjaaDoor.mp32
