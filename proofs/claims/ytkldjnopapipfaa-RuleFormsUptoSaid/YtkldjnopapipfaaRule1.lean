/-
  lang.tests and lang.levels, and the reference's testsIn: how many tests a test has, and how many levels.
-/
import Derived.Test.YtkldjnopapipfaaTst
import Derived.BigQuiet
import Derived.BigRegion
import Derived.Deep.QuietTactic
import Derived.WalkLawsBesides
namespace Go.Proofs.Ytkldjnopapipfaa
open Go.RowKit
set_option linter.unusedVariables false

theorem keept {w w' : World} {a : Addr} {v : Value} (hb : Below w.heap.size w w') (h : w.cell? a = some v) : w'.cell? a = some v :=
  (hb.cell (World.block_lt_of_cell? w a h)).trans h
theorem calls_from {P : Program} {f : Nat} {args : Array Value} {w0 w' : World} {Q : Ending → Prop} (hb' : Below w0.heap.size w0 w') (h : Calls P f args w' fun e w'' => Q e ∧ Below w'.heap.size w' w'') :
    Calls P f args w' fun e w'' => Q e ∧ Below w0.heap.size w0 w'' := h.mono fun _ _ ⟨he, hb⟩ => ⟨he, hb'.trans (hb.mono hb'.size)⟩

/-- How many tests the first kids have, with the test itself. -/
def upS (N : Nat) (l : List Tst) (k : Nat) : Nat := 1 + ((l.take k).map (cntN N)).sum
theorem upS_succ {N : Nat} {l : List Tst} {k : Nat} {x : Tst} (h : l[k]? = some x) : upS N l (k + 1) = upS N l k + cntN N x := by
  unfold upS
  rw [List.take_add_one, h]
  simp [Nat.add_assoc]
theorem sum_take_le (l : List Nat) (k : Nat) : (l.take k).sum ≤ l.sum := by
  have h := congrArg List.sum (List.take_append_drop k l)
  rw [List.sum_append] at h
  omega
theorem upS_le (N : Nat) (l : List Tst) (k : Nat) : upS N l k ≤ 1 + (l.map (cntN N)).sum := by
  unfold upS
  rw [List.map_take]
  have := sum_take_le (l.map (cntN N)) k
  omega
theorem upS_all (N : Nat) (l : List Tst) {k : Nat} (h : l.length ≤ k) : upS N l k = 1 + (l.map (cntN N)).sum := by
  unfold upS
  rw [List.take_of_length_le h]
theorem mem_sum : ∀ {l : List Nat} {n : Nat}, n ∈ l → n ≤ l.sum
  | [], _, h => by cases h
  | a :: l, n, h => by
    simp only [List.sum_cons]
    rcases List.mem_cons.1 h with rfl | h
    · omega
    · have := mem_sum h
      omega
theorem kid_cnt {N : Nat} {l : List Tst} {x : Tst} (h : x ∈ l) : cntN N x ≤ (l.map (cntN N)).sum := mem_sum (List.mem_map.2 ⟨x, h, rfl⟩)

/-- The most levels among the first kids. -/
def upL (N : Nat) (l : List Tst) (k : Nat) : Nat := ((l.take k).map (lvN N)).foldl max 0
theorem upL_succ {N : Nat} {l : List Tst} {k : Nat} {x : Tst} (h : l[k]? = some x) : upL N l (k + 1) = max (upL N l k) (lvN N x) := by
  unfold upL
  rw [List.take_add_one, h]
  simp
theorem upL_all (N : Nat) (l : List Tst) {k : Nat} (h : l.length ≤ k) : upL N l k = (l.map (lvN N)).foldl max 0 := by
  unfold upL
  rw [List.take_of_length_le h]
theorem foldl_max_le : ∀ (l : List Nat) (m B : Nat), m ≤ B → (∀ x ∈ l, x ≤ B) → l.foldl max m ≤ B
  | [], _, _, h, _ => h
  | a :: l, m, B, h, hl => foldl_max_le l (max m a) B (by have := hl a (List.mem_cons_self); omega) fun x hx => hl x (List.mem_cons_of_mem _ hx)
theorem lv_le_cnt : ∀ (N : Nat) (t : Tst), lvN N t ≤ cntN N t
  | 0, _ => by simp [lvN, cntN]
  | N + 1, .mk _ _ _ _ _ _ _ l => by
    simp only [lvN, cntN]
    have := foldl_max_le (l.map (lvN N)) 0 (l.map (cntN N)).sum (by omega) (fun x hx => by
      obtain ⟨y, hy, rfl⟩ := List.mem_map.1 hx
      have := lv_le_cnt N y
      have := kid_cnt (N := N) hy
      omega)
    omega
theorem upL_le (N : Nat) (l : List Tst) (k : Nat) : upL N l k ≤ (l.map (cntN N)).sum :=
  foldl_max_le _ 0 _ (by omega) fun x hx => by
    obtain ⟨y, hy, rfl⟩ := List.mem_map.1 hx
    have h1 := lv_le_cnt N y
    have h2 := kid_cnt (N := N) (List.mem_of_mem_take hy)
    omega

/-- What lang.tests answers: the number, as far as it is at most 20. -/
def Few (r : Int) (c : Nat) : Prop := 1 ≤ r ∧ r ≤ c ∧ (c ≤ 20 → r = c) ∧ (20 < c → 20 < r)
def TestsQ (c : Nat) (e : Ending) : Prop := ∃ r, e = .returned (.int .i64 r) ∧ Few r c
def TestsRel (N : Nat) (l : List Tst) (n : Nat) (w : World) (v3 v9 : Value) (wr : World) : Prop :=
  ∃ (k : Nat) (r : Int), k ≤ n ∧ v9 = .int .i64 k ∧ v3 = .int .i64 r ∧ Few r (upS N l k) ∧ Below w.heap.size w wr
def LevelsRel (N : Nat) (l : List Tst) (n : Nat) (w : World) (v3 v9 : Value) (wr : World) : Prop :=
  ∃ (k m : Nat), k ≤ n ∧ v9 = .int .i64 k ∧ v3 = .int .i64 m ∧ m = upL N l k ∧ Below w.heap.size w wr
def InRel2 (N : Nat) (l : List Tst) (n : Nat) (w : World) (v2 v3 v11 : Value) (wr : World) : Prop :=
  ∃ (k c m : Nat), k ≤ n ∧ v11 = .int .i64 k ∧ v2 = .int .i64 c ∧ v3 = .int .i64 m ∧ c = upS N l k ∧ m = upL N l k ∧ Below w.heap.size w wr

set_option maxHeartbeats 4000000 in
set_option maxRecDepth 100000 in
theorem tests_any : ∀ (N : Nat) (t : Tst) (w : World), TR w N t → cntN N t ≤ 2000000 → Calls Try.prog 101 #[t.val] w fun e w' => TestsQ (cntN N t) e ∧ Below w.heap.size w w'
  | 0, _, _, h, _ => by simp [TR] at h
  | N + 1, .mk o m lo hi A n c l, w, h, hc => by
    have hcl : (l.map (cntN N)).sum ≤ 2000000 := by simp only [cntN] at hc; omega
    have HC : Hid (∀ x w', x ∈ l → TR w' N x → Calls Try.prog 101 #[x.val] w' fun e w'' => TestsQ (cntN N x) e ∧ Below w'.heap.size w' w'') := fun x w' hx hr => tests_any N x w' hr (by have := kid_cnt (N := N) hx; omega)
    obtain ⟨h1, h2, h3, h4, hn, hsl, hr, hk⟩ := h
    have hnb : n ≤ 100000000000000 := by have := hsl.nc; have := hsl.cb; omega
    have HT := hide (And.intro hcl (And.intro hr (And.intro hk hn)))
    clear hr hk hn h1 h2 h3 h4 hsl hc hcl
    simp only [cntN]
    obtain ⟨T, hT⟩ : ∃ T, T = 1 + (l.map (cntN N)).sum := ⟨_, rfl⟩
    rw [← hT]
    have HTT := hide hT
    clear hT
    show Calls Try.prog 101 #[.agg #[.int .i64 o, .int .i64 m, .int .i64 lo, .int .i64 hi, .slice A n c]] w _
    go_enter Try.func101, Try.ntmps101
    go_wp2_with fail
    go_loopw [3, 9] (TestsRel N l n w) (fun _ v9 _ => n - (intOf v9).toNat)
    case atStart => exact ⟨0, 1, by omega, rfl, rfl, by simp [Few, upS], Below.alloc (Below.refl _ _) (Nat.le_refl _) _⟩
    case round =>
      obtain ⟨k, r, hk, rfl, rfl, hf, hb⟩ := hrel
      have hup := upS_le N l k
      have hr1 : 1 ≤ r := hf.1
      have hr2 : r ≤ 2000001 := by have := hf.2.1; have := HT.out.1; omega
      have HF := hide (And.intro hf hup)
      clear hf hup
      by_cases hlt : k < n
      · have hup2 := upS_le N l (k + 1)
        obtain ⟨_, hrd, hkr, hln⟩ := HT.out
        obtain ⟨b, oo, x, rfl, hx, hm, h1⟩ := (hrd.keep hb).at_ (k := k) (by omega)
        have hxr := (hkr x hm).keep hb
        have hki : (k : Int) < n := by omega
        have HX := hide (And.intro (upS_succ (N := N) hx) hup2)
        have HCx := hide (fun (w' : World) (hb' : Below wr.heap.size wr w') => calls_from hb' (HC.out x w' hm (hxr.keep hb')))
        obtain ⟨cx, hcx⟩ : ∃ cx, cx = cntN N x := ⟨_, rfl⟩
        rw [← hcx] at HX HCx
        clear hcx hup2
        clear hrd hkr hln hx hm hxr
        obtain ⟨xo, xm, xl, xh, xA, xn, xc, xk⟩ := x
        have a0 : wr.cell? ⟨b, oo + k * 5, none⟩ = some (.int .i64 xo) := h1 0 _ rfl
        have a1 : wr.cell? ⟨b, oo + k * 5 + 1, none⟩ = some (.int .i64 xm) := h1 1 _ rfl
        have a2 : wr.cell? ⟨b, oo + k * 5 + 2, none⟩ = some (.int .i64 xl) := h1 2 _ rfl
        have a3 : wr.cell? ⟨b, oo + k * 5 + 3, none⟩ = some (.int .i64 xh) := h1 3 _ rfl
        have a4 : wr.cell? ⟨b, oo + k * 5 + 4, none⟩ = some (.slice xA xn xc) := h1 4 _ rfl
        clear h1
        have HCy : Hid (∀ (w' : World), Below wr.heap.size wr w' → Calls Try.prog 101 #[.agg #[.int .i64 xo, .int .i64 xm, .int .i64 xl, .int .i64 xh, .slice xA xn xc]] w' fun e w'' => TestsQ cx e ∧ Below wr.heap.size wr w'') := HCx
        clear HCx
        by_cases hr20 : 20 < r
        · go_wp2_with fail
          go_ret
          refine ⟨⟨r, rfl, hr1, ?_, ?_, fun _ => hr20⟩, hb.trans (Below.alloc (Below.refl _ _) hb.size _)⟩
          · have h1 := HF.out.1.2.1; have h2 := HF.out.2; have h3 := HTT.out; omega
          · intro h; have h1 := HF.out.1.2.1; have h2 := HF.out.2; have h3 := HTT.out; omega
        · go_wp2_with (go_at_call 101; refine (HCy.out _ (Below.alloc (Below.refl _ _) (Nat.le_refl _) _)).mono ?_; rintro e w1 ⟨⟨r', rfl, hf'⟩, hb1⟩; have hr3 := hf'.1; have hr4 : r' ≤ 2000001 := (by have h0 := hf'.2.1; have h1 := HX.out.1; have h2 := HX.out.2; have h3 := HT.out.1; omega); have HF' := hide hf'; clear hf')
          go_roundw
          case rel => exact ⟨k + 1, r + r', by omega, by go_num, rfl, by rw [HX.out.1]; have h1 := HF.out.1; have h2 := HF'.out; unfold Few at *; omega, hb.trans (hb1.mono hb.size)⟩
          case measure => simp [intOf]; omega
      · go_wp2_with fail
        go_ret
        have hu : upS N l k = T := by rw [HTT.out]; exact upS_all N l (by have := HT.out.2.2.2; omega)
        exact ⟨⟨r, rfl, by rw [← hu]; exact HF.out.1⟩, hb⟩

set_option maxHeartbeats 4000000 in
set_option maxRecDepth 100000 in
theorem levels_any : ∀ (N : Nat) (t : Tst) (w : World), TR w N t → cntN N t ≤ 2000000 → Calls Try.prog 102 #[t.val] w fun e w' => e = .returned (.int .i64 (lvN N t)) ∧ Below w.heap.size w w'
  | 0, _, _, h, _ => by simp [TR] at h
  | N + 1, .mk o m lo hi A n c l, w, h, hc => by
    have hcl : (l.map (cntN N)).sum ≤ 2000000 := by simp only [cntN] at hc; omega
    have HC : Hid (∀ x w', x ∈ l → TR w' N x → Calls Try.prog 102 #[x.val] w' fun e w'' => e = .returned (.int .i64 (lvN N x)) ∧ Below w'.heap.size w' w'') := fun x w' hx hr => levels_any N x w' hr (by have := kid_cnt (N := N) hx; omega)
    obtain ⟨h1, h2, h3, h4, hn, hsl, hr, hk⟩ := h
    have hnb : n ≤ 100000000000000 := by have := hsl.nc; have := hsl.cb; omega
    have HT := hide (And.intro hcl (And.intro hr (And.intro hk hn)))
    clear hr hk hn h1 h2 h3 h4 hsl hc hcl
    simp only [lvN]
    obtain ⟨T, hT⟩ : ∃ T, T = (l.map (lvN N)).foldl max 0 := ⟨_, rfl⟩
    rw [← hT]
    have HTT := hide hT
    clear hT
    show Calls Try.prog 102 #[.agg #[.int .i64 o, .int .i64 m, .int .i64 lo, .int .i64 hi, .slice A n c]] w _
    go_enter Try.func102, Try.ntmps102
    go_wp2_with fail
    go_loopw [3, 9] (LevelsRel N l n w) (fun _ v9 _ => n - (intOf v9).toNat)
    case atStart => exact ⟨0, 0, by omega, rfl, rfl, by simp [upL], Below.alloc (Below.refl _ _) (Nat.le_refl _) _⟩
    case round =>
      obtain ⟨k, r, hk, rfl, rfl, hf, hb⟩ := hrel
      have hup := upL_le N l k
      have hr2 : r ≤ 2000001 := by have := HT.out.1; omega
      have HF := hide hf
      clear hf hup
      by_cases hlt : k < n
      · obtain ⟨_, hrd, hkr, hln⟩ := HT.out
        obtain ⟨b, oo, x, rfl, hx, hm, h1⟩ := (hrd.keep hb).at_ (k := k) (by omega)
        have hxr := (hkr x hm).keep hb
        have hki : (k : Int) < n := by omega
        have HX := hide (upL_succ (N := N) hx)
        have hcn := Nat.le_trans (lv_le_cnt N x) (Nat.le_trans (kid_cnt (N := N) hm) HT.out.1)
        have HCx := hide (fun (w' : World) (hb' : Below wr.heap.size wr w') => calls_from hb' (HC.out x w' hm (hxr.keep hb')))
        obtain ⟨cx, hcx⟩ : ∃ cx, cx = lvN N x := ⟨_, rfl⟩
        rw [← hcx] at HX HCx hcn
        clear hcx
        clear hrd hkr hln hx hm hxr
        obtain ⟨xo, xm, xl, xh, xA, xn, xc, xk⟩ := x
        have a0 : wr.cell? ⟨b, oo + k * 5, none⟩ = some (.int .i64 xo) := h1 0 _ rfl
        have a1 : wr.cell? ⟨b, oo + k * 5 + 1, none⟩ = some (.int .i64 xm) := h1 1 _ rfl
        have a2 : wr.cell? ⟨b, oo + k * 5 + 2, none⟩ = some (.int .i64 xl) := h1 2 _ rfl
        have a3 : wr.cell? ⟨b, oo + k * 5 + 3, none⟩ = some (.int .i64 xh) := h1 3 _ rfl
        have a4 : wr.cell? ⟨b, oo + k * 5 + 4, none⟩ = some (.slice xA xn xc) := h1 4 _ rfl
        clear h1
        have HCy : Hid (∀ (w' : World), Below wr.heap.size wr w' → Calls Try.prog 102 #[.agg #[.int .i64 xo, .int .i64 xm, .int .i64 xl, .int .i64 xh, .slice xA xn xc]] w' fun e w'' => e = .returned (.int .i64 cx) ∧ Below wr.heap.size wr w'') := HCx
        clear HCx
        by_cases hmx : r < cx
        · have hmx1 : max (r : Int) (cx : Int) = cx := by omega
          go_wp2_with (go_at_call 102; refine (HCy.out _ (Below.alloc (Below.refl _ _) (Nat.le_refl _) _)).mono ?_; rintro e w1 ⟨rfl, hb1⟩)
          go_roundw
          case rel => exact ⟨k + 1, cx, by omega, by go_num, rfl, by rw [HX.out, ← HF.out]; omega, hb.trans (hb1.mono hb.size)⟩
          case measure => simp [intOf]; omega
        · have hmx1 : max (r : Int) (cx : Int) = r := by omega
          go_wp2_with (go_at_call 102; refine (HCy.out _ (Below.alloc (Below.refl _ _) (Nat.le_refl _) _)).mono ?_; rintro e w1 ⟨rfl, hb1⟩)
          go_roundw
          case rel => exact ⟨k + 1, r, by omega, by go_num, rfl, by rw [HX.out, ← HF.out]; omega, hb.trans (hb1.mono hb.size)⟩
          case measure => simp [intOf]; omega
      · go_wp2_with fail
        go_ret
        have hu : r = T := by rw [HTT.out, HF.out]; exact upL_all N l (by have := HT.out.2.2.2; omega)
        exact ⟨by rw [← hu]; simp, hb⟩

set_option maxHeartbeats 4000000 in
set_option maxRecDepth 100000 in
theorem testsIn_any : ∀ (N : Nat) (t : Tst) (w : World), TR w N t → cntN N t ≤ 2000000 → Calls Try.prog 65 #[t.val] w fun e w' => e = .returned (.tuple #[.int .i64 (cntN N t), .int .i64 (lvN N t)]) ∧ Below w.heap.size w w'
  | 0, _, _, h, _ => by simp [TR] at h
  | N + 1, .mk o m lo hi A n c l, w, h, hc => by
    have hcl : (l.map (cntN N)).sum ≤ 2000000 := by simp only [cntN] at hc; omega
    have HC : Hid (∀ x w', x ∈ l → TR w' N x → Calls Try.prog 65 #[x.val] w' fun e w'' => e = .returned (.tuple #[.int .i64 (cntN N x), .int .i64 (lvN N x)]) ∧ Below w'.heap.size w' w'') := fun x w' hx hr => testsIn_any N x w' hr (by have := kid_cnt (N := N) hx; omega)
    obtain ⟨h1, h2, h3, h4, hn, hsl, hr, hk⟩ := h
    have hnb : n ≤ 100000000000000 := by have := hsl.nc; have := hsl.cb; omega
    have HT := hide (And.intro hcl (And.intro hr (And.intro hk hn)))
    clear hr hk hn h1 h2 h3 h4 hsl hc hcl
    simp only [lvN, cntN]
    obtain ⟨T, hT⟩ : ∃ T, T = (l.map (lvN N)).foldl max 0 := ⟨_, rfl⟩
    obtain ⟨C, hC⟩ : ∃ C, C = 1 + (l.map (cntN N)).sum := ⟨_, rfl⟩
    rw [← hT, ← hC]
    have HTT := hide (And.intro hT hC)
    clear hT hC
    show Calls Try.prog 65 #[.agg #[.int .i64 o, .int .i64 m, .int .i64 lo, .int .i64 hi, .slice A n c]] w _
    go_enter Try.func65, Try.ntmps65
    go_wp2_with fail
    go_loopw [2, 3, 11] (InRel2 N l n w) (fun _ _ v11 _ => n - (intOf v11).toNat)
    case atStart => exact ⟨0, 1, 0, by omega, rfl, rfl, rfl, by simp [upS], by simp [upL], Below.alloc (Below.refl _ _) (Nat.le_refl _) _⟩
    case round =>
      obtain ⟨k, cc, r, hk, rfl, rfl, rfl, hfc, hf, hb⟩ := hrel
      have hup := upL_le N l k
      have hup1 := upS_le N l k
      have hr2 : r ≤ 2000001 := by have := HT.out.1; omega
      have hr3 : cc ≤ 2000001 := by have := HT.out.1; omega
      have HF := hide (And.intro hf hfc)
      clear hf hup hfc hup1
      by_cases hlt : k < n
      · obtain ⟨_, hrd, hkr, hln⟩ := HT.out
        obtain ⟨b, oo, x, rfl, hx, hm, h1⟩ := (hrd.keep hb).at_ (k := k) (by omega)
        have hxr := (hkr x hm).keep hb
        have hki : (k : Int) < n := by omega
        have HX := hide (And.intro (upL_succ (N := N) hx) (upS_succ (N := N) hx))
        have hcn := Nat.le_trans (lv_le_cnt N x) (Nat.le_trans (kid_cnt (N := N) hm) HT.out.1)
        have hcm := Nat.le_trans (kid_cnt (N := N) hm) HT.out.1
        have HCx := hide (fun (w' : World) (hb' : Below wr.heap.size wr w') => calls_from hb' (HC.out x w' hm (hxr.keep hb')))
        obtain ⟨cx, hcx⟩ : ∃ cx, cx = lvN N x := ⟨_, rfl⟩
        obtain ⟨dx, hdx⟩ : ∃ dx, dx = cntN N x := ⟨_, rfl⟩
        rw [← hcx] at HX HCx hcn
        rw [← hdx] at HX HCx hcm
        clear hcx hdx
        clear hrd hkr hln hx hm hxr
        obtain ⟨xo, xm, xl, xh, xA, xn, xc, xk⟩ := x
        have a0 : wr.cell? ⟨b, oo + k * 5, none⟩ = some (.int .i64 xo) := h1 0 _ rfl
        have a1 : wr.cell? ⟨b, oo + k * 5 + 1, none⟩ = some (.int .i64 xm) := h1 1 _ rfl
        have a2 : wr.cell? ⟨b, oo + k * 5 + 2, none⟩ = some (.int .i64 xl) := h1 2 _ rfl
        have a3 : wr.cell? ⟨b, oo + k * 5 + 3, none⟩ = some (.int .i64 xh) := h1 3 _ rfl
        have a4 : wr.cell? ⟨b, oo + k * 5 + 4, none⟩ = some (.slice xA xn xc) := h1 4 _ rfl
        clear h1
        have HCy : Hid (∀ (w' : World), Below wr.heap.size wr w' → Calls Try.prog 65 #[.agg #[.int .i64 xo, .int .i64 xm, .int .i64 xl, .int .i64 xh, .slice xA xn xc]] w' fun e w'' => e = .returned (.tuple #[.int .i64 dx, .int .i64 cx]) ∧ Below wr.heap.size wr w'') := HCx
        clear HCx
        have hmx1 : max (r : Int) (cx : Int) = ((max r cx : Nat) : Int) := by omega
        go_wp2_with (go_at_call 65; refine (HCy.out _ (Below.alloc (Below.refl _ _) (Nat.le_refl _) _)).mono ?_; rintro e w1 ⟨rfl, hb1⟩)
        go_roundw
        case rel => exact ⟨k + 1, cc + dx, max r cx, by omega, by go_num, by go_num, by first | rfl | (congr 1; split <;> omega), by rw [HX.out.2, ← HF.out.2], by rw [HX.out.1, ← HF.out.1], hb.trans (hb1.mono hb.size)⟩
        case measure => simp [intOf]; omega
      · go_wp2_with fail
        go_ret2
        have hu : r = T := by rw [HTT.out.1, HF.out.1]; exact upL_all N l (by have := HT.out.2.2.2; omega)
        have hv : cc = C := by rw [HTT.out.2, HF.out.2]; exact upS_all N l (by have := HT.out.2.2.2; omega)
        exact ⟨by rw [← hu, ← hv]; simp, hb⟩
end Go.Proofs.Ytkldjnopapipfaa
