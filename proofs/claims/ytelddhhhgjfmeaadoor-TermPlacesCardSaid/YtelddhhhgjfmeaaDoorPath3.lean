/-
  Paths: strings.Split at any separator; slices.ContainsFunc over strings; tree.isPath, CheckPath; the reference's IsPath.
-/
import Derived.Test.YtelddhhhgjfmeaaDoorPath2
import Derived.Lib.SplitLaws
namespace Go.Proofs.YtelddhhhgjfmeaaDoor
open Go.RowKit
set_option linter.unusedVariables false

/-- The library's variable MaxLen holds some int. -/
def ML (w : World) : Prop := ∃ m : Int, w.cell? ⟨3, 0, none⟩ = some (.int .i64 m)
theorem keept {w w' : World} {a : Addr} {v : Value} (hb : Below w.heap.size w w') (h : w.cell? a = some v) : w'.cell? a = some v :=
  (hb.cell (World.block_lt_of_cell? w a h)).trans h
theorem ML.keep {w w' : World} (h : ML w) (hb : Below w.heap.size w w') : ML w' := by
  obtain ⟨m, h⟩ := h
  exact ⟨m, keept hb h⟩

/-- The pieces of a string. -/
def pcs (s sep : ByteArray) : List ByteArray := Lib.splitB sep 0 (Lib.countB s sep) s
theorem pcs_size (sep : ByteArray) : ∀ (k : Nat) (s x : ByteArray), x ∈ Lib.splitB sep 0 k s → x.size ≤ s.size
  | 0, s, x, h => by
    rw [Lib.splitB_zero] at h
    simp at h
    rw [h]
    exact Nat.le_refl _
  | k + 1, s, x, h => by
    unfold Lib.splitB at h
    split at h
    · simp at h
      rw [h]
      exact Nat.le_refl _
    · rcases List.mem_cons.1 h with h | h
      · rw [h, ByteArray.size_extract]
        omega
      · have := pcs_size sep k _ x h
        rw [ByteArray.size_extract] at this
        omega
theorem pcs_le {s sep x : ByteArray} (h : x ∈ pcs s sep) : x.size ≤ s.size := pcs_size _ _ _ _ h
theorem pcs_len (s sep : ByteArray) (h1 : 1 ≤ sep.size) : (pcs s sep).length = Lib.countB s sep + 1 := Lib.splitB_all sep h1 0 _ s rfl

theorem rd_new (w : World) (l : List ByteArray) (t : TypeId) : Rd (w.alloc (.cells (l.map Value.string).toArray t)) 1 scell (some ⟨w.heap.size, 0, none⟩) l := by
  refine .inr ⟨w.heap.size, 0, rfl, fun k x hx j v hv => ?_⟩
  have hj : j = 0 := by have := (List.getElem?_eq_some_iff.1 hv).1; simp [scell] at this; exact this
  subst hj
  simp [scell] at hv
  subst hv
  rw [World.cell?_alloc_at _ _ _ _ rfl]
  simp [hx]

/-- strings.Split. -/
theorem split_any (s sep : ByteArray) (w : World) (h : ML w) (hs : s.size < 4294967281) (h1 : 1 ≤ sep.size) :
    Calls Tryd.prog 78 #[.string s, .string sep] w fun e w' => e = .returned (.slice (some ⟨w.heap.size, 0, none⟩) (pcs s sep).length (pcs s sep).length) ∧ Rd w' 1 scell (some ⟨w.heap.size, 0, none⟩) (pcs s sep) ∧ Below w.heap.size w w' := by
  obtain ⟨m, hm⟩ := h
  refine (Tryd.strings_Split s sep m w hs hm h1).mono fun e w' ⟨he, hw⟩ => ?_
  subst hw
  exact ⟨by rw [he, pcs_len s sep h1], rd_new w _ _, Below.alloc (Below.refl _ _) (Nat.le_refl _) _⟩

theorem none_upto {α : Type} {f : α → Bool} {l : List α} {k : Nat} {x : α} (h : ∀ y ∈ l.take k, f y = false) (hx : l[k]? = some x) (hf : f x = false) : ∀ y ∈ l.take (k + 1), f y = false := by
  intro y hy
  rw [List.take_add_one, hx] at hy
  rcases List.mem_append.1 hy with hy | hy
  · exact h y hy
  · simp at hy
    rw [hy]
    exact hf
theorem none_end {α : Type} {f : α → Bool} {l : List α} {k : Nat} (h : ∀ y ∈ l.take k, f y = false) (hk : l.length ≤ k) : l.any f = false := by
  rw [List.take_of_length_le hk] at h
  rw [List.any_eq_false]
  intro x hx
  simp [h x hx]
theorem all_upto {α : Type} {f : α → Bool} {l : List α} {k : Nat} {x : α} (h : ∀ y ∈ l.take k, f y = true) (hx : l[k]? = some x) (hf : f x = true) : ∀ y ∈ l.take (k + 1), f y = true := by
  intro y hy
  rw [List.take_add_one, hx] at hy
  rcases List.mem_append.1 hy with hy | hy
  · exact h y hy
  · simp at hy
    rw [hy]
    exact hf
theorem all_full {α : Type} {f : α → Bool} {l : List α} {k : Nat} (h : ∀ y ∈ l.take k, f y = true) (hk : l.length ≤ k) : l.all f = true := by
  rw [List.take_of_length_le hk] at h
  exact List.all_eq_true.2 h
theorem all_not {α : Type} {f : α → Bool} {l : List α} {x : α} (hx : x ∈ l) (hf : f x = false) : l.all f = false := by
  rw [List.all_eq_false]
  exact ⟨x, hx, by simp [hf]⟩
def IfRelS (p : ByteArray → Bool) (l : List ByteArray) (n : Nat) (w : World) (v : Value) (wr : World) : Prop := ∃ k : Nat, k ≤ n ∧ v = .int .i64 k ∧ (∀ y ∈ l.take k, p y = false) ∧ Below w.heap.size w wr

set_option maxHeartbeats 2000000 in
set_option maxRecDepth 100000 in
theorem indexFunc_path (A : Option Addr) (n c : Nat) (l : List ByteArray) (p : ByteArray → Bool) (w : World) (hn : l.length = n) (hnb : n ≤ 100000000000000) (hr : Rd w 1 scell A l)
    (hF : ∀ x ∈ l, ∀ w', Below w.heap.size w w' → Calls Tryd.prog 79 #[.string x] w' fun e w'' => e = .returned (.bool (p x)) ∧ Below w'.heap.size w' w'') :
    Calls Tryd.prog 115 #[.slice A n c, .func (.func 79) #[] #[]] w fun e w' => (∃ r : Int, e = .returned (.int .i64 r) ∧ (0 ≤ r ↔ l.any p = true)) ∧ Below w.heap.size w w' := by
  have HT := hide (And.intro hr (And.intro hF hn))
  clear hr hF hn
  go_enter Tryd.func115, Tryd.ntmps115
  go_wp2_with fail
  go_loopw [8] (IfRelS p l n w) (fun v _ => n - (intOf v).toNat)
  case atStart => exact ⟨0, by omega, rfl, fun y hy => by simp at hy, Below.refl _ _⟩
  case round =>
    obtain ⟨k, hk, rfl, hall, hb⟩ := hrel
    have HA := hide hall
    clear hall
    by_cases hlt : k < n
    · obtain ⟨b, oo, x, rfl, hx, hm, h1⟩ := (HT.out.1.keep hb).at_ (k := k) (by have := HT.out.2.2; omega)
      have hki : (k : Int) < n := by omega
      have HX := hide (fun h => none_upto (f := p) HA.out hx h)
      have HXA := hide (fun h => List.any_eq_true.2 ⟨x, hm, h⟩ : p x = true → l.any p = true)
      have HCx := hide (fun (w' : World) (hb' : Below wr.heap.size wr w') => (HT.out.2.1 x hm w' (hb.trans (hb'.mono hb.size))))
      obtain ⟨fx, hfx⟩ : ∃ fx, fx = p x := ⟨_, rfl⟩
      simp only [← hfx] at HX HXA HCx
      have a0 : wr.cell? ⟨b, oo + k, none⟩ = some (.string x) := by have := h1 0 _ rfl; simpa using this
      have hbl : b < wr.heap.size := World.block_lt_of_cell? wr ⟨b, oo + k, none⟩ a0
      clear h1 hfx hx hm
      cases fx
      · go_wp2_with (go_at_call 79; refine (HCx.out _ (Below.refl _ _)).mono ?_; rintro e w1 ⟨rfl, hb1⟩)
        go_roundw
        case rel => exact ⟨k + 1, by omega, by go_num, HX.out (by simp), hb.trans (hb1.mono hb.size)⟩
        case measure => simp [intOf]; omega
      · go_wp2_with (go_at_call 79; refine (HCx.out _ (Below.refl _ _)).mono ?_; rintro e w1 ⟨rfl, hb1⟩)
        go_ret
        exact ⟨⟨k, rfl, fun _ => HXA.out (by simp), fun _ => by omega⟩, hb.trans (hb1.mono hb.size)⟩
    · have hfin := hide (none_end (f := p) HA.out (by have := HT.out.2.2; omega))
      go_wp2_with fail
      go_ret
      exact ⟨⟨-1, rfl, fun h => by omega, fun h => by
        first
          | (rw [hfin.out] at h; cases h)
          | (obtain ⟨x, hx, hp⟩ := h; exact absurd hp (List.any_eq_false.1 hfin.out x hx))⟩, hb⟩

set_option maxHeartbeats 2000000 in
set_option maxRecDepth 100000 in
theorem containsFunc_path (A : Option Addr) (n c : Nat) (l : List ByteArray) (p : ByteArray → Bool) (w : World) (hn : l.length = n) (hnb : n ≤ 100000000000000) (hr : Rd w 1 scell A l)
    (hF : ∀ x ∈ l, ∀ w', Below w.heap.size w w' → Calls Tryd.prog 79 #[.string x] w' fun e w'' => e = .returned (.bool (p x)) ∧ Below w'.heap.size w' w'') :
    Calls Tryd.prog 77 #[.slice A n c, .func (.func 79) #[] #[]] w fun e w' => e = .returned (.bool (l.any p)) ∧ Below w.heap.size w w' := by
  have HI := hide (indexFunc_path A n c l p w hn hnb hr hF)
  clear hr hF hn
  go_enter Tryd.func77, Tryd.ntmps77
  go_wp2_with (go_at_call 115; refine HI.out.mono ?_; rintro e w1 ⟨⟨r, rfl, hr⟩, hb⟩; have HR := hide hr; clear hr)
  go_ret
  refine ⟨?_, hb⟩
  have h := HR.out
  cases hp : l.any p
  · rw [hp] at h
    have : ¬ 0 ≤ r := fun h0 => by have := h.1 h0; cases this
    rw [show (false : Bool) = decide (0 ≤ r) from (decide_eq_false this).symm]
    rfl
  · rw [hp] at h
    rw [show (true : Bool) = decide (0 ≤ r) from (decide_eq_true (h.2 rfl)).symm]
    rfl

/-- A path. -/
def pathB (s : ByteArray) : Bool := decide (s.size ≤ 200) && (pcs s ⟨#[47]⟩).all partB
def PathRel (l : List ByteArray) (n : Nat) (v : Value) : Prop := ∃ k : Nat, k ≤ n ∧ v = .int .i64 k ∧ ∀ y ∈ l.take k, partB y = true

set_option maxHeartbeats 1000000 in
set_option maxRecDepth 100000 in
theorem isPath_any (s : ByteArray) (w : World) (hML : ML w) : Calls Tryd.prog 121 #[.string s] w fun e w' => e = .returned (.bool (pathB s)) ∧ Below w.heap.size w w' := by
  by_cases h2 : 200 < s.size
  · have HV := hide (show pathB s = false by unfold pathB; rw [decide_eq_false (by omega)]; rfl)
    have h2' : (200 : Int) < s.size := by omega
    go_enter Tryd.func121, Tryd.ntmps121
    go_wp2_with fail
    go_ret
    exact ⟨by rw [HV.out] <;> rfl, Below.refl _ _⟩
  · have h2' : ¬ (200 : Int) < s.size := by omega
    have HV := hide (show pathB s = (pcs s ⟨#[47]⟩).all partB by unfold pathB; rw [decide_eq_true (show s.size ≤ 200 by omega)]; rfl)
    have HS := hide (split_any s ⟨#[47]⟩ w hML (by omega) (by decide))
    have HZ := hide (fun x (hx : x ∈ pcs s ⟨#[47]⟩) => pcs_le hx)
    obtain ⟨R, hR⟩ : ∃ R, R = pathB s := ⟨_, rfl⟩
    rw [← hR] at HV ⊢
    obtain ⟨l, hl⟩ : ∃ l, l = pcs s ⟨#[47]⟩ := ⟨_, rfl⟩
    have hlen : l.length ≤ 4294967282 := by rw [hl, pcs_len s _ (by decide)]; have := Lib.countB_le ⟨#[47]⟩ (by decide) _ s (Nat.le_refl _); omega
    rw [← hl] at HS HV HZ
    obtain ⟨n, hn⟩ : ∃ n, n = l.length := ⟨_, rfl⟩
    rw [← hn] at HS hlen
    have HN := hide hn
    clear hl hR hn
    go_enter Tryd.func121, Tryd.ntmps121
    go_wp2_with (go_at_call 78; refine HS.out.mono ?_; rintro e w1 ⟨rfl, hrd, hb⟩; have HRD := hide hrd; clear hrd)
    go_loop [11] (PathRel l n) (fun v => n - (intOf v).toNat)
    case atStart => exact ⟨0, by omega, rfl, fun y hy => by simp at hy⟩
    case round =>
      obtain ⟨k, hk, rfl, hall⟩ := hrel
      have HA := hide hall
      clear hall
      by_cases hlt : k < n
      · obtain ⟨b, oo, x, hA, hx, hm, h1⟩ := HRD.out.at_ (k := k) (by have := HN.out; omega)
        have hki : (k : Int) < n := by omega
        injection hA with hA
        injection hA with hb0 ho0 _
        subst hb0 ho0
        have a0 : w1.cell? ⟨w.heap.size, k, none⟩ = some (.string x) := by have := h1 0 _ rfl; simpa using this
        have hxs := HZ.out x hm
        have HX := hide (fun h => all_upto (f := partB) HA.out hx h)
        have HXN := hide (fun h => all_not (f := partB) hm h)
        have HP := hide (fun w => isPart_any x w (by omega))
        obtain ⟨fx, hfx⟩ : ∃ fx, fx = partB x := ⟨_, rfl⟩
        rw [← hfx] at HX HXN HP
        clear hfx h1 hx hm hxs
        cases fx
        · go_wp2_with (go_at_call 153; refine (HP.out _).mono ?_; rintro e w2 ⟨rfl, rfl⟩)
          go_ret
          exact ⟨by rw [HV.out, HXN.out (by simp)] <;> rfl, hb⟩
        · go_wp2_with (go_at_call 153; refine (HP.out _).mono ?_; rintro e w2 ⟨rfl, rfl⟩)
          go_round
          case rel => exact ⟨k + 1, by omega, by go_num, HX.out (by simp)⟩
          case measure => simp [intOf]; omega
      · have hfull := hide (all_full HA.out (by have := HN.out; omega))
        go_wp2_with fail
        go_ret
        exact ⟨by rw [HV.out, hfull.out] <;> rfl, hb⟩

set_option maxHeartbeats 1000000 in
theorem checkPath_any (s : ByteArray) (w : World) (hML : ML w) : Calls Tryd.prog 83 #[.string s] w fun e w' => e = .returned (.int .i64 (if pathB s = true then 0 else 3)) ∧ Below w.heap.size w w' := by
  have HP := hide (fun w => isPath_any s w)
  cases h : pathB s
  · rw [h] at HP
    go_enter Tryd.func83, Tryd.ntmps83
    go_wp2_with (go_at_call 121; refine (HP.out _ hML).mono ?_; rintro e w2 ⟨rfl, hb⟩)
    go_ret
    exact ⟨rfl, hb⟩
  · rw [h] at HP
    go_enter Tryd.func83, Tryd.ntmps83
    go_wp2_with (go_at_call 121; refine (HP.out _ hML).mono ?_; rintro e w2 ⟨rfl, hb⟩)
    go_ret
    exact ⟨rfl, hb⟩

set_option maxHeartbeats 1000000 in
theorem refIsPath1_any (x : ByteArray) (w : World) (hs : x.size ≤ 9223372036854775807) : Calls Tryd.prog 79 #[.string x] w fun e w' => e = .returned (.bool (!partB x)) ∧ Below w.heap.size w w' := by
  have HP := hide (fun w => refIsPart_any x w hs)
  obtain ⟨b, hb⟩ : ∃ b, b = partB x := ⟨_, rfl⟩
  rw [← hb] at HP ⊢
  clear hb
  go_enter Tryd.func79, Tryd.ntmps79
  go_wp2_with (go_at_call 45; refine (HP.out _).mono ?_; rintro e w2 ⟨rfl, hb⟩)
  go_ret
  exact ⟨rfl, hb⟩

set_option maxHeartbeats 1000000 in
set_option maxRecDepth 100000 in
theorem refIsPath_any (s : ByteArray) (w : World) (hML : ML w) : Calls Tryd.prog 39 #[.string s] w fun e w' => e = .returned (.bool (pathB s)) ∧ Below w.heap.size w w' := by
  by_cases h2 : 200 < s.size
  · have HV := hide (show pathB s = false by unfold pathB; rw [decide_eq_false (by omega)]; rfl)
    have h2' : ¬ (s.size : Int) ≤ 200 := by omega
    go_enter Tryd.func39, Tryd.ntmps39
    go_wp2_with fail
    go_ret
    exact ⟨by rw [HV.out] <;> rfl, Below.refl _ _⟩
  · have h2' : (s.size : Int) ≤ 200 := by omega
    have HV := hide (show pathB s = !(pcs s ⟨#[47]⟩).any (fun x => !partB x) by
      unfold pathB
      rw [decide_eq_true (show s.size ≤ 200 by omega), List.not_any_eq_all_not]
      simp)
    have HS := hide (split_any s ⟨#[47]⟩ w hML (by omega) (by decide))
    have HC := hide (fun (w1 : World) (hrd : Rd w1 1 scell (some ⟨w.heap.size, 0, none⟩) (pcs s ⟨#[47]⟩)) (c : Nat) => containsFunc_path (some ⟨w.heap.size, 0, none⟩) (pcs s ⟨#[47]⟩).length c (pcs s ⟨#[47]⟩) (fun x => !partB x) w1 rfl
      (by rw [pcs_len s _ (by decide)]; have := Lib.countB_le ⟨#[47]⟩ (by decide) _ s (Nat.le_refl _); omega) hrd (fun x hx w' _ => refIsPath1_any x w' (by have := pcs_le hx; omega)))
    obtain ⟨R, hR⟩ : ∃ R, R = pathB s := ⟨_, rfl⟩
    rw [← hR] at HV ⊢
    obtain ⟨q, hq⟩ : ∃ q, q = (pcs s ⟨#[47]⟩).any (fun x => !partB x) := ⟨_, rfl⟩
    rw [← hq] at HV HC
    clear hR hq
    go_enter Tryd.func39, Tryd.ntmps39
    go_wp2_with (first
      | (go_at_call 78; refine HS.out.mono ?_; rintro e w1 ⟨rfl, hrd, hb⟩; have HRD := hide hrd; clear hrd)
      | (go_at_call 77; refine (HC.out _ HRD.out _).mono ?_; rintro e w2 ⟨rfl, hb2⟩))
    go_ret
    exact ⟨by rw [HV.out] <;> rfl, hb.trans (hb2.mono hb.size)⟩
end Go.Proofs.YtelddhhhgjfmeaaDoor
