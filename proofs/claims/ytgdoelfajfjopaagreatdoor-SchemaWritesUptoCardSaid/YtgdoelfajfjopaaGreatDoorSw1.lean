/-
  A schema's value, the program: item, fieldKind. The program's SchemaValue.
-/
import Derived.Test.YtgdoelfajfjopaaGreatDoorRs0
import Derived.Test.YtgdoelfajfjopaaGreatDoorSw0
import Derived.Test.YtgdoelfajfjopaaGreatDoorSe0
namespace Go.Proofs.YtgdoelfajfjopaaGreatDoor
open Go.RowKit
set_option linter.unusedVariables false
set_option linter.unusedSimpArgs false
namespace rs
/-- The names of kinds, in both packages. -/
def namesGv (g : Nat) : DD := match Nat.beq g 1 with | true => .ref 1 (fun _ => encStrs names) | false => match Nat.beq g 0 with | true => .ref 1 (fun _ => encStrs names) | false => .opq
def nEnv (E : Env) (hg : ∀ w, E.G w → ∀ g, Rep view E.MG w b0 (namesGv g) (.pointer (some ⟨g, 0, none⟩))) : Env := { E with gv := namesGv, gok := hg }
theorem item_lt {v : Vu} (hf : faultE v = 0) {k : ByteArray} (h : hasK v k = true) : findK v k < v.items.length := by
  obtain ⟨h1, h2⟩ := has_key h
  obtain ⟨_, h3⟩ := fault_keys hf
  by_cases h6 : v.kind = 6
  · rw [← h3 h6]; exact h1
  · have h4 := (head_ok (fault_head hf).1).1
    have : v.keys.length = 0 := by
      unfold unusedP at h4
      grind
    omega
section
variable (E : Env)
set_option maxRecDepth 100000
theorem bo_t {p : Prop} {r : Bool} (hr : r = true ↔ p) (h : p) : true = r := (hr.2 h).symm
theorem bo_f {p : Prop} {r : Bool} (hr : r = true ↔ p) (h : ¬ p) : false = r := by
  cases r
  · rfl
  · exact absurd (hr.1 rfl) h
theorem bad_nil : badStr ⟨#[]⟩ = false := by
  unfold badStr
  rfl
theorem zero_fault : faultE Vu.zero = 0 := by
  have h : headE Vu.zero = 0 := by
    unfold headE
    rw [if_neg (by decide), if_neg (by unfold unusedP; decide), if_neg (by intro h; exact absurd h.1 (by decide)), if_neg (by decide), if_neg (by rw [show Vu.zero.text = ⟨#[]⟩ from rfl, bad_nil]; decide), keysFrom_end (by decide)]
  rw [faultE_eq, if_pos h]
  simp [faultL, Vu.zero, Vu.items]
theorem item_fault {v : Vu} (hf : faultE v = 0) (k : ByteArray) : faultE (itemK v k) = 0 := by
  unfold itemK getK
  cases h : hasK v k
  · rw [if_neg (by decide)]; exact zero_fault
  · rw [if_pos rfl]; exact fault_mem hf (item_lt hf h)
theorem item_wt {v : Vu} (hf : faultE v = 0) (k : ByteArray) : (itemK v k).wt ≤ v.wt + 1 := by
  unfold itemK getK
  cases h : hasK v k
  · rw [if_neg (by decide)]
    exact Nat.le_add_left _ _
  · rw [if_pos rfl]
    have h1 := wt_mem v.items _ (getD_mem v.items .zero (findK v k) (item_lt hf h))
    have h2 := wtL_le_wt v
    show (v.items.getD (findK v k) .zero).wt ≤ _
    omega
end
end rs
end Go.Proofs.YtgdoelfajfjopaaGreatDoor
namespace Go.Proofs.YtgdoelfajfjopaaGreatDoor
open Go.RowKit
set_option linter.unusedVariables false
set_option linter.unusedSimpArgs false
namespace sw
open cr se ap so tab mg rs
theorem field_kind {f : Fd} {dup : Bool} (h : fieldE f dup = 0) : -1 ≤ f.kind ∧ f.kind ≤ 6 := by
  unfold fieldE at h
  split at h
  · rename_i h1
    exact absurd h h1
  · rename_i h1
    have h1 := Classical.not_not.1 h1
    unfold fieldA at h1
    split at h1
    · cases h1
    · split at h1
      · cases h1
      · split at h1
        · cases h1
        · rename_i h4
          omega
theorem schema_fine {l : List Fd} : ∀ n k, l.length - k < n → schemaF l k = 0 → ∀ i, k ≤ i → i < l.length → fieldE (l.getD i default) (dupB l (l.getD i default).route i) = 0
  | 0, k, h, _, i, _, _ => by omega
  | n + 1, k, h, h0, i, hi, hil => by
    rw [schemaF_at (by omega)] at h0
    split at h0
    · rename_i h1
      rcases Nat.lt_or_ge k i with h2 | h2
      · exact schema_fine n (k + 1) (by omega) h0 i h2 hil
      · obtain rfl : i = k := by omega
        exact h1
    · rename_i h1
      exact absurd h0 h1
theorem kinds_ok {l : List Fd} (h : schemaE l = 0) : l.length ≤ 100 ∧ ∀ i, i < l.length → -1 ≤ (l.getD i default).kind ∧ (l.getD i default).kind ≤ 6 := by
  unfold schemaE at h
  split at h
  · cases h
  · exact ⟨by omega, fun i hi => field_kind (schema_fine (l.length + 1) 0 (by omega) h i (Nat.zero_le _) hi)⟩
theorem name_size : ∀ i : Nat, (rs.names.getD i ⟨#[]⟩).size ≤ 6
  | 0 => by decide
  | 1 => by decide
  | 2 => by decide
  | 3 => by decide
  | 4 => by decide
  | 5 => by decide
  | 6 => by decide
  | n + 7 => Nat.zero_le _
theorem kname_size (k : Int) : (kname k).size ≤ 6 := by
  unfold kname
  split
  · decide
  · exact name_size _
theorem putK_w {u : Vu} {key : ByteArray} (y : Vu) (h6 : u.kind = 6) (hk : ¬ key = ⟨#[]⟩) : (putK u key y).wt ≤ u.wt + y.wt + key.size + 2 := by
  have h := put_wt u ⟨key, 0, false⟩ y (by unfold kindS; rw [if_neg hk]; exact h6) (by unfold Stp.ok; exact Int.le_refl _)
  have e1 : putAt u ⟨key, 0, false⟩ y = putK u key y := by unfold putAt; rw [if_neg hk]
  rw [e1] at h
  have hk2 : (⟨key, 0, false⟩ : Stp).key.size = key.size := rfl
  omega
theorem putK_k (u : Vu) (key : ByteArray) (y : Vu) : (putK u key y).kind = 6 := rfl
theorem txt_sum : ∀ l : List ByteArray, Vu.wtL (l.map txt) = (l.map fun s => s.size + 1).sum
  | [] => by simp [Vu.wtL]
  | s :: r => by
    have := txt_sum r
    have h1 : (txt s).wt = s.size + 1 := rfl
    simp only [List.map_cons, Vu.wtL, List.sum_cons]
    omega
theorem one_len : ∀ l : List ByteArray, l.length ≤ (l.map fun s => s.size + 1).sum
  | [] => Nat.le_refl _
  | s :: r => by
    have := one_len r
    simp only [List.length_cons, List.map_cons, List.sum_cons]
    omega
def fdw (f : Fd) : Nat := f.route.size + (f.oneOf.map fun s => s.size + 1).sum + f.dflt.wt
theorem fieldV_wt (f : Fd) : (fieldV f).wt ≤ fdw f + 300 := by
  have w1 : (txt f.route).wt = f.route.size + 1 := rfl
  have w2 : (txt (kname f.kind)).wt ≤ 7 := by have h1 := kname_size f.kind; have h2 : (txt (kname f.kind)).wt = (kname f.kind).size + 1 := rfl; omega
  have w3 : (tru f.need).wt = 1 := rfl
  have w4 : ∀ n, (whl n).wt = 1 := fun n => rfl
  have w5 : (lst (f.oneOf.map txt)).wt = (f.oneOf.map fun s => s.size + 1).sum + 1 := by
    have h1 := txt_sum f.oneOf
    have h2 : (lst (f.oneOf.map txt)).wt = 0 + 1 + Vu.wtL (f.oneOf.map txt) + 0 := rfl
    omega
  have w0 : emp.wt = 1 := rfl
  have a1 := putK_w (u := emp) (key := (⟨#[114, 111, 117, 116, 101]⟩ : ByteArray)) (txt f.route) rfl (by decide)
  have a2 := putK_w (u := putK emp (⟨#[114, 111, 117, 116, 101]⟩ : ByteArray) (txt f.route)) (key := (⟨#[107, 105, 110, 100]⟩ : ByteArray)) (txt (kname f.kind)) rfl (by decide)
  have a3 : (t1 f).wt ≤ _ := putK_w (u := putK (putK emp (⟨#[114, 111, 117, 116, 101]⟩ : ByteArray) (txt f.route)) (⟨#[107, 105, 110, 100]⟩ : ByteArray) (txt (kname f.kind))) (key := (⟨#[110, 101, 101, 100]⟩ : ByteArray)) (tru f.need) rfl (by decide)
  have k1 : ((⟨#[114, 111, 117, 116, 101]⟩ : ByteArray)).size = 5 := by decide
  have k2 : ((⟨#[107, 105, 110, 100]⟩ : ByteArray)).size = 4 := by decide
  have k3 : ((⟨#[110, 101, 101, 100]⟩ : ByteArray)).size = 4 := by decide
  have k4 : ((⟨#[109, 97, 120]⟩ : ByteArray)).size = 3 := by decide
  have k5 : ((⟨#[109, 105, 110]⟩ : ByteArray)).size = 3 := by decide
  have k6 : ((⟨#[111, 110, 101, 111, 102]⟩ : ByteArray)).size = 5 := by decide
  have k7 : ((⟨#[100, 101, 102, 97, 117, 108, 116]⟩ : ByteArray)).size = 7 := by decide
  have h6 : ∀ g : Fd, (t1 g).kind = 6 := fun g => rfl
  have b2 : (t2 f).wt ≤ (t1 f).wt + 20 ∧ (t2 f).kind = 6 := by
    unfold t2
    split
    · have c1 := putK_w (u := t1 f) (key := (⟨#[109, 97, 120]⟩ : ByteArray)) (whl f.hi) rfl (by decide)
      have c2 := putK_w (u := putK (t1 f) (⟨#[109, 97, 120]⟩ : ByteArray) (whl f.hi)) (key := (⟨#[109, 105, 110]⟩ : ByteArray)) (whl f.lo) rfl (by decide)
      have := w4 f.hi
      have := w4 f.lo
      exact ⟨by omega, rfl⟩
    · exact ⟨by omega, rfl⟩
  have b3 : (t3 f).wt ≤ (t2 f).wt + (f.oneOf.map fun s => s.size + 1).sum + 20 ∧ (t3 f).kind = 6 := by
    unfold t3
    split
    · have c1 := putK_w (u := t2 f) (key := (⟨#[111, 110, 101, 111, 102]⟩ : ByteArray)) (lst (f.oneOf.map txt)) b2.2 (by decide)
      exact ⟨by omega, rfl⟩
    · exact ⟨by omega, b2.2⟩
  have b4 : (fieldV f).wt ≤ (t3 f).wt + f.dflt.wt + 20 := by
    unfold fieldV
    split
    · have c1 := putK_w (u := t3 f) (key := (⟨#[100, 101, 102, 97, 117, 108, 116]⟩ : ByteArray)) f.dflt b3.2 (by decide)
      omega
    · omega
  unfold fdw
  omega
theorem fdw_at : ∀ (l : List Fd) (k : Nat), k < l.length → fdw (l.getD k default) ≤ (l.map fdw).sum
  | [], k, h => absurd h (Nat.not_lt_zero _)
  | c :: r, 0, _ => by simp only [List.getD_cons_zero, List.map_cons, List.sum_cons]; omega
  | c :: r, k + 1, h => by
    have := fdw_at r k (by simpa using h)
    simp only [List.getD_cons_succ, List.map_cons, List.sum_cons]
    omega
theorem fields_wt : ∀ l : List Fd, Vu.wtL (l.map fieldV) ≤ (l.map fdw).sum + l.length * 300
  | [] => by simp [Vu.wtL]
  | f :: r => by
    have h1 := fieldV_wt f
    have h2 := fields_wt r
    simp only [List.map_cons, Vu.wtL, List.sum_cons, List.length_cons]
    omega
theorem schV_wt (l : List Fd) (b : Bool) : (schV l b).wt ≤ (l.map fdw).sum + l.length * 300 + 100 := by
  have h := fields_wt l
  have w0 : emp.wt = 1 := rfl
  have w3 : (tru b).wt = 1 := rfl
  have w5 : (lst (l.map fieldV)).wt = Vu.wtL (l.map fieldV) + 1 := by have h2 : (lst (l.map fieldV)).wt = 0 + 1 + Vu.wtL (l.map fieldV) + 0 := rfl; omega
  have a1 := putK_w (u := emp) (key := (⟨#[102, 105, 101, 108, 100, 115]⟩ : ByteArray)) (lst (l.map fieldV)) rfl (by decide)
  have a2 := putK_w (u := putK emp (⟨#[102, 105, 101, 108, 100, 115]⟩ : ByteArray) (lst (l.map fieldV))) (key := (⟨#[115, 116, 114, 105, 99, 116]⟩ : ByteArray)) (tru b) rfl (by decide)
  have k1 : ((⟨#[102, 105, 101, 108, 100, 115]⟩ : ByteArray)).size = 6 := by decide
  have k2 : ((⟨#[115, 116, 114, 105, 99, 116]⟩ : ByteArray)).size = 6 := by decide
  unfold schV
  omega
theorem small_put {T : Vu} {n : Nat} (h : T.keys.length = T.items.length ∧ T.keys.length ≤ n) (key : ByteArray) (y : Vu) : (putK T key y).keys.length = (putK T key y).items.length ∧ (putK T key y).keys.length ≤ n + 1 := by
  have := putK_len T key y h.1
  exact ⟨this.1, by omega⟩
theorem map_at {l : List Fd} {i : Nat} (h : i < l.length) : (l.map fieldV).getD i .zero = fieldV (l.getD i default) := by
  rw [List.getD_eq_getElem?_getD, List.getD_eq_getElem?_getD, List.getElem?_map, List.getElem?_eq_getElem h]
  rfl
theorem txt_at {l : List ByteArray} {i : Nat} (h : i < l.length) : (l.map txt).getD i .zero = txt (l.getD i ⟨#[]⟩) := by
  rw [List.getD_eq_getElem?_getD, List.getD_eq_getElem?_getD, List.getElem?_map, List.getElem?_eq_getElem h]
  rfl
section
variable (E : Env)
set_option maxRecDepth 100000
theorem kindName_sp (E0 : Env) (hg : ∀ w, E0.G w → ∀ g, Rep view E0.MG w b0 (namesGv g) (.pointer (some ⟨g, 0, none⟩))) (hE : E = nEnv E0 hg) (k : Int) (h1 : -1 ≤ k) (h2 : k ≤ 6) : Sp (cx Tryz.prog mixed tyT_ok E) 35 [i64 k] (dS (kname k)) := by
  subst hE
  have hl : rs.names.length = 7 := rfl
  unfold kname
  by_cases h : k = -1
  · rw [if_pos h]
    refine Sp.body Tryz.func35 (by kernel_rfl) rfl (by kernel_rfl) (by kernel_rfl) (by kernel_rfl) ?_
    repeat' first
      | (refine codeW_cond rfl ?_; first | (refine condW_dec ?_ ?_ <;> intro _ <;> try (exfalso; omega)) | refine condW_not ?_ | (refine condW_bool ?_ ?_ <;> intro _ <;> try (exfalso; omega)))
      | (refine facW_intro ?_; intro _)
      | refine Or.inl ?_
      | ((conv => whnf); first | (refine condW_dec ?_ ?_ <;> intro _ <;> try (exfalso; omega)) | refine condW_not ?_ | (refine condW_bool ?_ ?_ <;> intro _ <;> try (exfalso; omega)) | (refine nbC_t (fun _ => ?_) ?_) | (refine nbC_f ?_ (fun _ => ?_)))
      | refine And.intro (by first | omega | (simp only [Int.toNat_natCast] at *; omega) | (simp only [Nat.reduceAdd, Int.cast_ofNat_Int, true_and, and_true]; omega)  | (simp only [cx, view, Nat.reduceAdd, Int.toNat_natCast]; omega) | kernel_rfl) ?_
      | refine RegW.run ?_
      | fail
    all_goals first
      | exact Dle.refl _ _
      | (exfalso; omega)
      | trace_state
  · rw [if_neg h]
    have h3 : 0 ≤ k ∧ k < (rs.names.length : Int) := by omega
    refine Sp.body Tryz.func35 (by kernel_rfl) rfl (by kernel_rfl) (by kernel_rfl) (by kernel_rfl) ?_
    repeat' first
      | (refine codeW_cond rfl ?_; first | (refine condW_dec ?_ ?_ <;> intro _ <;> try (exfalso; omega)) | refine condW_not ?_ | (refine condW_bool ?_ ?_ <;> intro _ <;> try (exfalso; omega)))
      | (refine facW_intro ?_; intro _)
      | refine Or.inl ?_
      | ((conv => whnf); first | (refine condW_dec ?_ ?_ <;> intro _ <;> try (exfalso; omega)) | refine condW_not ?_ | (refine condW_bool ?_ ?_ <;> intro _ <;> try (exfalso; omega)) | (refine nbC_t (fun _ => ?_) ?_) | (refine nbC_f ?_ (fun _ => ?_)))
      | refine And.intro (by first | omega | (simp only [Int.toNat_natCast] at *; omega) | (simp only [Nat.reduceAdd, Int.cast_ofNat_Int, true_and, and_true]; omega)  | (simp only [cx, view, Nat.reduceAdd, Int.toNat_natCast]; omega) | kernel_rfl) ?_
      | refine RegW.run ?_
      | fail
    all_goals first
      | (exfalso; omega)
      | exact Dle.s (by simp)
      | exact Dle.refl _ _
      | trace_state
theorem zAgg (k : Int) (b : Bool) (i : Int) (s : ByteArray) : Dle (cx Tryz.prog mixed tyT_ok E) (.agg [i64 k, dB b, i64 i, dS s, .v (.slice none 0 0), .v (.slice none 0 0)]) (encV (.mk k b i s [] [])) := Dle.agg (X := (cx Tryz.prog mixed tyT_ok E)) ⟨Dle.refl _ _, Dle.refl _ _, Dle.refl _ _, Dle.refl _ _, Dle.rc (X := (cx Tryz.prog mixed tyT_ok E)) (Dle.nil (X := (cx Tryz.prog mixed tyT_ok E))), Dle.nil (X := (cx Tryz.prog mixed tyT_ok E)), trivial⟩
theorem str_sp (s : ByteArray) : Sp (cx Tryz.prog mixed tyT_ok E) 34 [dS s] (encV (txt s)) := by
  refine Sp.body Tryz.func34 (by kernel_rfl) rfl (by kernel_rfl) (by kernel_rfl) (by kernel_rfl) ?_
  repeat' first
    | (refine codeW_cond rfl ?_; first | (refine condW_dec ?_ ?_ <;> intro _ <;> try (exfalso; omega)) | refine condW_not ?_ | (refine condW_bool ?_ ?_ <;> intro _ <;> try (exfalso; omega)))
    | (refine facW_intro ?_; intro _)
    | refine Or.inl ?_
    | ((conv => whnf); first | (refine condW_dec ?_ ?_ <;> intro _ <;> try (exfalso; omega)) | refine condW_not ?_ | (refine condW_bool ?_ ?_ <;> intro _ <;> try (exfalso; omega)) | (refine nbC_t (fun _ => ?_) ?_) | (refine nbC_f ?_ (fun _ => ?_)))
    | refine And.intro (by first | omega | (simp only [Int.toNat_natCast] at *; omega) | (simp only [Nat.reduceAdd, Int.cast_ofNat_Int, true_and, and_true]; omega)  | (simp only [cx, view, Nat.reduceAdd, Int.toNat_natCast]; omega) | kernel_rfl) ?_
    | refine RegW.run ?_
    | fail
  exact zAgg E 3 false 0 s
theorem yes_sp (b : Bool) : Sp (cx Tryz.prog mixed tyT_ok E) 36 [dB b] (encV (tru b)) := by
  refine Sp.body Tryz.func36 (by kernel_rfl) rfl (by kernel_rfl) (by kernel_rfl) (by kernel_rfl) ?_
  repeat' first
    | (refine codeW_cond rfl ?_; first | (refine condW_dec ?_ ?_ <;> intro _ <;> try (exfalso; omega)) | refine condW_not ?_ | (refine condW_bool ?_ ?_ <;> intro _ <;> try (exfalso; omega)))
    | (refine facW_intro ?_; intro _)
    | refine Or.inl ?_
    | ((conv => whnf); first | (refine condW_dec ?_ ?_ <;> intro _ <;> try (exfalso; omega)) | refine condW_not ?_ | (refine condW_bool ?_ ?_ <;> intro _ <;> try (exfalso; omega)) | (refine nbC_t (fun _ => ?_) ?_) | (refine nbC_f ?_ (fun _ => ?_)))
    | refine And.intro (by first | omega | (simp only [Int.toNat_natCast] at *; omega) | (simp only [Nat.reduceAdd, Int.cast_ofNat_Int, true_and, and_true]; omega)  | (simp only [cx, view, Nat.reduceAdd, Int.toNat_natCast]; omega) | kernel_rfl) ?_
    | refine RegW.run ?_
    | fail
  exact zAgg E 1 b 0 ⟨#[]⟩
theorem whole_sp (n : Int) : Sp (cx Tryz.prog mixed tyT_ok E) 37 [i64 n] (encV (whl n)) := by
  refine Sp.body Tryz.func37 (by kernel_rfl) rfl (by kernel_rfl) (by kernel_rfl) (by kernel_rfl) ?_
  repeat' first
    | (refine codeW_cond rfl ?_; first | (refine condW_dec ?_ ?_ <;> intro _ <;> try (exfalso; omega)) | refine condW_not ?_ | (refine condW_bool ?_ ?_ <;> intro _ <;> try (exfalso; omega)))
    | (refine facW_intro ?_; intro _)
    | refine Or.inl ?_
    | ((conv => whnf); first | (refine condW_dec ?_ ?_ <;> intro _ <;> try (exfalso; omega)) | refine condW_not ?_ | (refine condW_bool ?_ ?_ <;> intro _ <;> try (exfalso; omega)) | (refine nbC_t (fun _ => ?_) ?_) | (refine nbC_f ?_ (fun _ => ?_)))
    | refine And.intro (by first | omega | (simp only [Int.toNat_natCast] at *; omega) | (simp only [Nat.reduceAdd, Int.cast_ofNat_Int, true_and, and_true]; omega)  | (simp only [cx, view, Nat.reduceAdd, Int.toNat_natCast]; omega) | kernel_rfl) ?_
    | refine RegW.run ?_
    | fail
  exact zAgg E 2 false n ⟨#[]⟩
theorem hLst {n : Nat} {g : Nat → Nat → DD} (l : List Vu) (hn : n = l.length) (hg : ∀ i j, i < n → j < 6 → g i j = (l.getD i .zero).cell j) : Dle (cx Tryz.prog mixed tyT_ok E) (.agg [i64 5, dB false, i64 0, dS ⟨#[]⟩, .sl 6 88 n g, .v (.slice none 0 0)]) (encV (lst l)) :=
  Dle.agg (X := (cx Tryz.prog mixed tyT_ok E)) ⟨Dle.refl _ _, Dle.refl _ _, Dle.refl _ _, Dle.refl _ _, Dle.rc (X := (cx Tryz.prog mixed tyT_ok E)) (Dle.sl (X := (cx Tryz.prog mixed tyT_ok E)) hn (fun i j hi hj => Dle.of_eq (hg i j hi hj))), Dle.nil (X := (cx Tryz.prog mixed tyT_ok E)), trivial⟩
end
end sw
end Go.Proofs.YtgdoelfajfjopaaGreatDoor
