/-
  Texts of rules: both sides; the law.
-/
import Derived.Test.YtagggnjcpjodjaaDoorZ3
namespace Go.Proofs.YtagggnjcpjodjaaDoor
open Go.RowKit
set_option linter.unusedVariables false
set_option linter.unusedSimpArgs false
namespace rule
structure Res where
  s : ByteArray
  e : Int
def encO (r : Res) : DD := .tup [dS r.s, i64 r.e]
def errR (e : Int) : Res := ⟨⟨#[]⟩, e⟩
/-- A rule's text. -/
def ruleT (fs : List Ts) : Res := if ruleE fs = 0 then (if 2000 < (texts fs).size then errR 4 else ⟨texts fs, 0⟩) else errR (ruleE fs)
/-- The texts of the first k forms. -/
def fts (fs : List Ts) (k : Nat) : List ByteArray := (fs.take k).map txt
theorem fts_len (fs : List Ts) (k : Nat) (h : k ≤ fs.length) : (fts fs k).length = k := by simp [fts]; omega
theorem fts_next {fs : List Ts} {k : Nat} (h : k < fs.length) : fts fs (k + 1) = fts fs k ++ [txt (fs.getD k .zero)] := by
  unfold fts
  rw [take_snoc fs .zero k h, List.map_append]
  rfl
theorem fts_all (fs : List Ts) : fts fs fs.length = fs.map txt := by unfold fts; rw [List.take_length]
theorem texts_size {fs : List Ts} (h : ruleE fs = 0) : (texts fs).size ≤ 1000000 := by
  obtain ⟨h1, h2⟩ := rule_ok h
  have h3 := joinS_max (l := fs.map txt) (sep := ⟨#[59, 32]⟩) (m := 3000) (fun p hp => by
    obtain ⟨t, ht, rfl⟩ := List.mem_map.1 hp
    obtain ⟨g1, g2, g3⟩ := h2 t ht
    have := txt_size _ t (Nat.lt_succ_self _) g2 g3
    show (txt t).size + 2 ≤ _
    omega)
  rw [List.length_map] at h3
  have := Nat.mul_le_mul_right 3000 h1
  unfold texts
  omega
section
variable (E : Env)
set_option maxRecDepth 100000
set_option maxHeartbeats 4000000 in
theorem text_sp (hP : ∀ w, E.G w → P10 w) : ∀ (N : Nat) (t : Ts), SizeOf.sizeOf t < N → okT t → Sp (cx Tryd.prog mixed tyT_ok E) 22 [encT t] (dS (txt t))
  | 0, t, h, _ => by omega
  | N + 1, t, h, hok => by
    have ih := fun x (hx : x ∈ t.kids) => text_sp hP N x (by have := tkids_lt t x hx; omega) (okT_kid hok hx)
    have hcn := hok.2.2
    rw [tcnt_eq] at hcn
    have hj := fun sep hs => join_kids (t := t) (sep := sep) hs hok.1 hok.2.1
    have hj1 := hj ⟨#[32, 38, 32]⟩ rfl
    have hj2 := hj ⟨#[32, 124, 32]⟩ rfl
    have k1 := kidsText_sp E t ⟨#[32, 38, 32]⟩ rfl hok ih
    have k2 := kidsText_sp E t ⟨#[32, 124, 32]⟩ rfl hok ih
    have et := txt_eq t
    have c1 : (⟨#[33, 40]⟩ : ByteArray).size = 2 := rfl
    have c2 : (⟨#[41]⟩ : ByteArray).size = 1 := rfl
    have c3 : (⟨#[33, 40]⟩ ++ joinS (t.kids.map (txtK t.op)) ⟨#[32, 124, 32]⟩).size = 2 + (joinS (t.kids.map (txtK t.op)) ⟨#[32, 124, 32]⟩).size := by rw [ByteArray.size_append]; rfl
    generalize joinS (t.kids.map (txtK t.op)) ⟨#[32, 38, 32]⟩ = j1 at hj1 k1 et
    generalize joinS (t.kids.map (txtK t.op)) ⟨#[32, 124, 32]⟩ = j2 at hj2 k2 et c3
    by_cases h1 : t.op = 1
    · rw [if_neg (by omega), if_neg (by omega), if_neg (by omega)] at et
      have hw := w_iff.1 (show wOk t.md t.lo t.hi = true by rw [← rng1 h1]; exact hok.2.1)
      have i1 := (itoa_sp E hP t.md).resolve_right (fun h => h (by omega))
      have i2 := (itoa_sp E hP t.lo).resolve_right (fun h => h (by omega))
      have i3 := (itoa_sp E hP t.hi).resolve_right (fun h => h (by omega))
      have s0 := leaf0_size hw.1
      have s1 := leaf1_size (m := t.md) (l := t.lo) hw.1 hw.2.1 (by omega)
      have d1 := decS_size t.md (by omega) (by omega)
      have d2 := decS_size t.lo (by omega) (by omega)
      have d3 := decS_size t.hi (by omega) (by omega)
      have z1 : (⟨#[37]⟩ : ByteArray).size = 1 := rfl
      have z2 : (⟨#[61]⟩ : ByteArray).size = 1 := rfl
      have z3 : (⟨#[46, 46]⟩ : ByteArray).size = 2 := rfl
      have z4 : (⟨#[110]⟩ : ByteArray).size = 1 := rfl
      have z5 : (⟨#[37]⟩ ++ decS t.md).size = 1 + (decS t.md).size := by rw [ByteArray.size_append]; rfl
      have z6 : (⟨#[61]⟩ ++ decS t.lo).size = 1 + (decS t.lo).size := by rw [ByteArray.size_append]; rfl
      have z7 : (⟨#[46, 46]⟩ ++ decS t.hi).size = 2 + (decS t.hi).size := by rw [ByteArray.size_append]; rfl
      have z8 : (⟨#[110]⟩ ++ (⟨#[61]⟩ ++ decS t.lo)).size = 1 + (1 + (decS t.lo).size) := by rw [ByteArray.size_append, z6]; rfl
      have z9 : (⟨#[110]⟩ ++ (⟨#[37]⟩ ++ decS t.md)).size = 1 + (1 + (decS t.md).size) := by rw [ByteArray.size_append, z5]; rfl
      have z10 : (⟨#[110]⟩ ++ (⟨#[37]⟩ ++ decS t.md) ++ (⟨#[61]⟩ ++ decS t.lo)).size = 1 + (1 + (decS t.md).size) + (1 + (decS t.lo).size) := by rw [ByteArray.size_append, z9, z6]
      rw [et]
      refine Sp.body Tryd.func22 (by kernel_rfl) rfl (by kernel_rfl) (by kernel_rfl) (by kernel_rfl) ?_
      repeat' first
        | (refine facW_intro ?_; intro _)
        | refine Or.inl ?_
        | ((conv => whnf); first | (refine condW_dec ?_ ?_ <;> intro _ <;> try (exfalso; omega)) | refine condW_not ?_ | (refine condW_bool ?_ ?_ <;> intro _ <;> try (exfalso; omega)) | (refine nbC_t (fun _ => ?_) ?_) | (refine nbC_f ?_ (fun _ => ?_)))
        | refine And.intro (by first | omega | (simp only [Int.toNat_natCast] at *; omega) | (simp only [Nat.reduceAdd, Int.cast_ofNat_Int, true_and, and_true]; omega) | kernel_rfl) ?_
        | refine RegW.run ?_
        | refine ⟨_, i1, ?_⟩
        | refine ⟨_, i2, ?_⟩
        | refine ⟨_, i3, ?_⟩
        | fail
      all_goals first
        | exact Dle.s (by unfold leafT leaf1 leaf0; simp [*])
        | trace_state
    · have hop := op_of hok.1 h1
      rw [et]
      refine Sp.body Tryd.func22 (by kernel_rfl) rfl (by kernel_rfl) (by kernel_rfl) (by kernel_rfl) ?_
      repeat' first
        | (refine facW_intro ?_; intro _)
        | refine Or.inl ?_
        | ((conv => whnf); first | (refine condW_dec ?_ ?_ <;> intro _ <;> try (exfalso; omega)) | refine condW_not ?_ | (refine condW_bool ?_ ?_ <;> intro _ <;> try (exfalso; omega)) | (refine nbC_t (fun _ => ?_) ?_) | (refine nbC_f ?_ (fun _ => ?_)))
        | refine And.intro (by first | omega | (simp only [Int.toNat_natCast] at *; omega) | (simp only [Nat.reduceAdd, Int.cast_ofNat_Int, true_and, and_true]; omega) | kernel_rfl) ?_
        | refine RegW.run ?_
        | refine ⟨_, k1, ?_⟩
        | refine ⟨_, k2, ?_⟩
        | fail
      all_goals first
        | exact Dle.s (by simp [*])
        | trace_state
end
end rule
end Go.Proofs.YtagggnjcpjodjaaDoor
