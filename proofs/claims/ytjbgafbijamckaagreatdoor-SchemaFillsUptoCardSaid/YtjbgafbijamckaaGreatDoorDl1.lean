/-
  slices.Delete of one element of an own row that is lent.
-/
import Derived.Test.YtjbgafbijamckaaGreatDoorDl0
import Derived.Test.YtjbgafbijamckaaGreatDoorN18
import Derived.Deep.Upon
namespace Go.Proofs.YtjbgafbijamckaaGreatDoor
open Go.RowKit
set_option linter.unusedVariables false
set_option linter.unusedSimpArgs false
namespace dl
section
variable {κ : Type} {X : Cx κ}
theorem size_set (b : Nat) : ∀ (vs : List Value) (o : Nat) (w : World), (w.setCells b o vs).heap.size = w.heap.size
  | [], _, _ => rfl
  | v :: r, o, w => by
    show ((w.setCell ⟨b, o, none⟩ v).setCells b (o + 1) r).heap.size = _
    rw [size_set b r (o + 1)]
    simp [World.setCell]
theorem tape_set (b : Nat) : ∀ (vs : List Value) (o : Nat) (w : World), (w.setCells b o vs).tape = w.tape
  | [], _, _ => rfl
  | v :: r, o, w => by
    show ((w.setCell ⟨b, o, none⟩ v).setCells b (o + 1) r).tape = _
    rw [tape_set b r (o + 1)]
    rfl
theorem SpH.del {f : FuncId} {e s : Nat} (hs : (X.T e).size = s) (hE : Ent X.P f) (zz : List Value) (n i : Nat) (hi : i + 1 ≤ n) (F : Nat → Nat → D κ)
    (hc : ∀ b c g w, w.rowIs b e (c * s) g → (∀ k, k < n * s → (g k).oneCell' = true) → n ≤ c → c ≤ 9223372036854775807 → Calls X.P f #[.slice (some ⟨b, 0, none⟩) n c, .int .i64 i, .int .i64 (i + 1 : Nat)] w fun e' w' => e' = .returned (.slice (some ⟨b, 0, none⟩) (n - 1) c) ∧ w' = (w.drew.setCells b (i * s) (cut s (i + 1) n g)).setCells b ((n - 1) * s) zz) :
    SpH X f [.own 2000 s 0 n, .v (.int .i64 i), .v (.int .i64 (i + 1 : Nat))] [(2000, .row e n F)] (.own 2000 s 0 (n - 1)) [(2000, .row e (n - 1) (fun k j => if k < i then F k j else F (k + 1) j))] := by
  subst hs
  refine ⟨hE, fun M β w vs hG hMG hM hl hrr hH hb => ?_⟩
  have h0 := hrr 0 _ rfl
  have h1 := (hrr 1 _ rfl).val.1
  have h2 := (hrr 2 _ rfl).val.1
  obtain ⟨hk, ho⟩ := (hH.ob 2000 _ (List.mem_singleton.2 rfl)).2
  rcases ho with ⟨hβ, hn0⟩ | ⟨b, c, arr, hβ, hA, hsz, hnc, hcm, hby, hcell, hvis⟩
  · omega
  have e0 : vs.getD 0 undef = .slice (some ⟨b, 0, none⟩) n c := by
    generalize vs.getD 0 undef = x at h0
    generalize hN : n = m at h0
    cases h0 with
    | own h _ _ =>
      rw [hβ] at h
      injection h with h
      injection h with h
      injection h with h1 h2
      subst h1 h2
      simp
    | ownE ho _ _ => exact absurd ho (Nat.lt_irrefl _)
    | ownNil h => rw [hβ] at h; cases h
  have evs : vs = #[.slice (some ⟨b, 0, none⟩) n c, .int .i64 i, .int .i64 (i + 1 : Nat)] := by
    have hl : vs.size = 3 := hl
    apply Array.ext
    · simpa using hl
    · intro k q1 q2
      have hk : k < 3 := by omega
      match k, hk with
      | 0, _ => simpa [Array.getD, q1] using e0
      | 1, _ => simpa [Array.getD, q1] using h1
      | 2, _ => simpa [Array.getD, q1] using h2
  rw [evs]
  have hone : ∀ (n' : Nat) (F' : Nat → Nat → D κ) b', blocks β [(2000, (.row e n' F' : Ob κ))] b' ↔ b' = b := fun n' F' b' => by
    constructor
    · rintro ⟨k, o, c', hm, hβ'⟩
      obtain ⟨rfl, _⟩ := Prod.mk.inj (List.mem_singleton.1 hm)
      rw [hβ] at hβ'
      injection hβ' with hβ'
      injection hβ' with hβ'
      injection hβ' with hβ' _
      exact hβ'.symm
    · rintro rfl
      exact ⟨2000, _, c, List.mem_singleton.2 rfl, hβ⟩
  have hlt : b < w.heap.size := by
    rcases Nat.lt_or_ge b w.heap.size with h | h
    · exact h
    · rw [Array.getElem?_eq_none h] at hA; cases hA
  have hR : w.rowIs b e (c * (X.T e).size) (fun k => arr.getD k undef) := ⟨arr, hA, hsz, fun k hk => by
    have hk' : k < arr.size := by omega
    simp [Array.getD, hk']⟩
  have hg1 : ∀ k, k < n * (X.T e).size → (arr.getD k undef).oneCell' = true := fun k hk => by
    have hpos : 0 < (X.T e).size := by
      rcases Nat.eq_zero_or_pos (X.T e).size with h | h
      · rw [h] at hk; omega
      · exact h
    have h3 := (hcell (k / (X.T e).size) (k % (X.T e).size) (Nat.div_lt_of_lt_mul (by rw [Nat.mul_comm]; exact hk)) (Nat.mod_lt _ hpos)).1
    rwa [Nat.div_add_mod'] at h3
  refine (hc b c _ w hR hg1 hnc hcm).mono ?_
  rintro e' w' ⟨rfl, rfl⟩
  have hR2 := rowIs_setCells zz ((n - 1) * (X.T e).size) _ _ (rowIs_setCells (cut (X.T e).size (i + 1) n (fun k => arr.getD k undef)) (i * (X.T e).size) _ _ (row_drew hR))
  have hblk : ∀ k, k < w.heap.size → k ≠ b → ((w.drew.setCells b (i * (X.T e).size) (cut (X.T e).size (i + 1) n (fun k => arr.getD k undef))).setCells b ((n - 1) * (X.T e).size) zz).heap[k]? = w.heap[k]? := fun k hk hne => by
    rw [World.heap_setCells_other _ _ _ _ (by rw [size_set]; exact hk) hne, World.heap_setCells_other _ _ _ _ (by exact hk) hne]
    rfl
  have hsize : ((w.drew.setCells b (i * (X.T e).size) (cut (X.T e).size (i + 1) n (fun k => arr.getD k undef))).setCells b ((n - 1) * (X.T e).size) zz).heap.size = w.heap.size := by
    rw [size_set, size_set]; rfl
  refine ⟨_, M, β, rfl, ⟨by rw [World.os_setCells, World.os_setCells]; rfl, by rw [tape_set, tape_set]; rfl, by rw [World.output_setCells, World.output_setCells]; rfl, by omega, fun k hk hs => hblk k hk (fun h => hs ((hone _ _ k).2 h))⟩, fun _ _ _ => rfl, fun _ _ h => h, fun _ _ h => .inl h, ?_, ⟨fun l o hm => ?_, fun l o l' o' b1 c1 c2 hm hm' q1 q2 => ?_⟩, fun b' hb' => .inl ((hone _ _ b').2 ((hone _ _ b').1 hb'))⟩
  · have := Rep.own (V := X.V) (M := M) (w := (w.drew.setCells b (i * (X.T e).size) (cut (X.T e).size (i + 1) n (fun k => arr.getD k undef))).setCells b ((n - 1) * (X.T e).size) zz) (s := (X.T e).size) (o := 0) (n := n - 1) hβ (by omega) hcm
    simpa using this
  · obtain ⟨rfl, rfl⟩ := Prod.mk.inj (List.mem_singleton.1 hm)
    obtain ⟨arr', q1, q2, q3⟩ := hR2
    refine ⟨rfl, hk, .inr ⟨b, c, arr', hβ, q1, q2, by omega, hcm, Nat.le_trans (Nat.mul_le_mul_right _ (Nat.sub_le _ _)) hby, fun k j hk2 hj => ?_, hvis⟩⟩
    have hx1 : k * (X.T e).size + j < (n - 1) * (X.T e).size := by
      have := Nat.mul_le_mul_right (X.T e).size (show k + 1 ≤ n - 1 by omega)
      rw [Nat.succ_mul] at this
      omega
    have hx2 : (n - 1) * (X.T e).size ≤ c * (X.T e).size := Nat.mul_le_mul_right _ (by omega)
    have h3 := q3 (k * (X.T e).size + j) (by omega)
    have hcut : (cut (X.T e).size (i + 1) n (fun k => arr.getD k undef)).length = (n - (i + 1)) * (X.T e).size := by simp [cut]
    have hval : arr'.getD (k * (X.T e).size + j) undef = if k < i then arr.getD (k * (X.T e).size + j) undef else arr.getD ((k + 1) * (X.T e).size + j) undef := by
      have h4 : arr'.getD (k * (X.T e).size + j) undef = (arr'[k * (X.T e).size + j]?).getD undef := by simp [Array.getD_eq_getD_getElem?]
      rw [h4, h3, Option.getD_some]
      dsimp only
      rw [if_neg (by omega), hcut]
      by_cases hki : k < i
      · have : k * (X.T e).size + j < i * (X.T e).size := by
          have := Nat.mul_le_mul_right (X.T e).size (show k + 1 ≤ i by omega)
          rw [Nat.succ_mul] at this
          omega
        rw [if_neg (by omega), if_pos hki]
      · have h5 : i * (X.T e).size ≤ k * (X.T e).size := Nat.mul_le_mul_right _ (by omega)
        have h6 : (n - (i + 1)) * (X.T e).size + i * (X.T e).size = (n - 1) * (X.T e).size := by rw [← Nat.add_mul]; congr 1; omega
        rw [if_pos (by omega), if_neg hki]
        unfold cut
        rw [List.getElem?_map, List.getElem?_range (by omega)]
        show arr.getD ((i + 1) * (X.T e).size + (k * (X.T e).size + j - i * (X.T e).size)) undef = _
        congr 1
        rw [Nat.succ_mul, Nat.succ_mul]
        omega
    have hrep : ∀ {d : D κ} {x : Value}, Rep X.V M w b0 d x → Rep X.V M ((w.drew.setCells b (i * (X.T e).size) (cut (X.T e).size (i + 1) n (fun k => arr.getD k undef))).setCells b ((n - 1) * (X.T e).size) zz) b0 d x := fun h => h.mono (fun _ _ h => h) (fun b' o hm => by
      have hne : b' ≠ b := fun e => hvis o (e ▸ hm)
      have := hblk b' (hM _ _ hm) hne
      unfold World.cell?
      rw [this])
    rw [hval]
    by_cases hki : k < i
    · obtain ⟨g1, g2⟩ := hcell k j (by omega) hj
      simp only [if_pos hki]
      exact ⟨g1, hrep g2⟩
    · obtain ⟨g1, g2⟩ := hcell (k + 1) j (by omega) hj
      simp only [if_neg hki]
      exact ⟨g1, hrep g2⟩
  · obtain ⟨rfl, _⟩ := Prod.mk.inj (List.mem_singleton.1 hm)
    obtain ⟨rfl, _⟩ := Prod.mk.inj (List.mem_singleton.1 hm')
    rfl
end
section
variable (E : Env)
theorem delV_at (n i : Nat) (hi : i + 1 ≤ n) (F : Nat → Nat → DD) : SpH (cx Tryz.prog mixed tyT_ok E) 55 [.own 2000 6 0 n, i64 i, i64 (i + 1 : Nat)] [(2000, .row 25 n F)] (.own 2000 6 0 (n - 1)) [(2000, .row 25 (n - 1) (fun k j => if k < i then F k j else F (k + 1) j))] :=
  SpH.del (X := (cx Tryz.prog mixed tyT_ok E)) (e := 25) (s := 6) (by kernel_rfl) ⟨_, _, Tryz.func55, by kernel_rfl, rfl⟩ zV n i hi F (fun b c g w hR h1 hn hm => delV b n c i (i + 1) rfl g w hR h1 hi hn hm)
theorem delS_at (n i : Nat) (hi : i + 1 ≤ n) (F : Nat → Nat → DD) : SpH (cx Tryz.prog mixed tyT_ok E) 56 [.own 2000 1 0 n, i64 i, i64 (i + 1 : Nat)] [(2000, .row 9 n F)] (.own 2000 1 0 (n - 1)) [(2000, .row 9 (n - 1) (fun k j => if k < i then F k j else F (k + 1) j))] :=
  SpH.del (X := (cx Tryz.prog mixed tyT_ok E)) (e := 9) (s := 1) (by kernel_rfl) ⟨_, _, Tryz.func56, by kernel_rfl, rfl⟩ zS n i hi F (fun b c g w hR h1 hn hm => delS b n c i (i + 1) rfl g w hR h1 hi hn hm)
end
end dl
end Go.Proofs.YtjbgafbijamckaaGreatDoor
