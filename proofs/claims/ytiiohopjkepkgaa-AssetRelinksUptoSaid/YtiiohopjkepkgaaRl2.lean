/-
  asset.relinked over data; maps of names.
-/
import Derived.Test.YtiiohopjkepkgaaRl1
import Derived.Test.YtiiohopjkepkgaaLk2
namespace Go.Proofs.Ytiiohopjkepkgaa
open Go.RowKit
set_option linter.unusedVariables false
set_option linter.unusedSimpArgs false
namespace rl
open tk
/-- The map of the first k names. -/
noncomputable def mpN (l : List Nm) : Nat → List (Value × DD)
  | 0 => []
  | k + 1 => mset (mpN l k) (.string (l.getD k nz).1) (dS (l.getD k nz).2)
theorem mset_memN {κ : Type} {es : List (Value × D κ)} {k : Value} {d : D κ} {p : Value × D κ} (h : p ∈ mset es k d) : p = (k, d) ∨ (p ∈ es ∧ p.1 ≠ k) := by
  unfold mset at h
  split at h
  · obtain ⟨q, hq, e⟩ := List.mem_map.1 h
    split at e
    · exact .inl e.symm
    · rename_i hne
      subst e
      exact .inr ⟨hq, hne⟩
  · rename_i hne
    rcases List.mem_append.1 h with h | h
    · exact .inr ⟨h, fun e => hne ⟨p, h, e⟩⟩
    · exact .inl (List.mem_singleton.1 h)
theorem mset_newN {κ : Type} (es : List (Value × D κ)) (k : Value) (d : D κ) : (k, d) ∈ mset es k d := by
  unfold mset
  split
  · rename_i h
    obtain ⟨q, hq, e⟩ := h
    exact List.mem_map.2 ⟨q, hq, by rw [if_pos e]⟩
  · exact List.mem_append_right _ (List.mem_singleton.2 rfl)
theorem mset_oldN {κ : Type} {es : List (Value × D κ)} {k : Value} {d : D κ} {p : Value × D κ} (h : p ∈ es) (hne : p.1 ≠ k) : p ∈ mset es k d := by
  unfold mset
  split
  · exact List.mem_map.2 ⟨p, h, by rw [if_neg hne]⟩
  · exact List.mem_append_left _ h
theorem look_names {l : List Nm} {s : ByteArray} : ∀ k, k ≤ l.length → (∀ i, i < k → dupN l i = false) → Look (mpN l k) (.string s) (dS ⟨#[]⟩) ((nmL (l.take k) s).isSome, dS ((nmL (l.take k) s).getD ⟨#[]⟩))
  | 0, _, _ => .inr ⟨fun p hp => by simp [mpN] at hp, by simp [nmL]⟩
  | k + 1, hk, hd => by
    have ih := look_names (l := l) (s := s) k (by omega) (fun i hi => hd i (by omega))
    have hdk := hd k (by omega)
    rw [nmL_take (by omega)]
    by_cases h : (l.getD k nz).1 = s
    · unfold dupN at hdk
      rw [h] at hdk
      have hn : nmL (l.take k) s = none := by simpa using hdk
      rw [hn, if_pos h]
      refine .inl ⟨_, mset_newN _ _ _, ?_, rfl⟩
      show Value.string _ = _
      rw [h]
    · rw [if_neg h, Option.or_none]
      rcases ih with ⟨p, hp, h1, h2⟩ | ⟨h1, h2⟩
      · refine .inl ⟨p, mset_oldN hp (fun e => h ?_), h1, h2⟩
        rw [h1] at e
        injection e with e
        exact e.symm
      · refine .inr ⟨fun p hp => ?_, h2⟩
        rcases mset_memN hp with rfl | ⟨hp, _⟩
        · intro e
          injection e with e
          exact h e
        · exact h1 p hp
section
variable (E : Env)
set_option maxRecDepth 100000
theorem relinked_sp (s : ByteArray) (L : List Lk) (lb : Nat) (es : List (Value × DD)) (nm : ByteArray → Option ByteArray) (hl : L.length ≤ 1000000) (ho : Ord s L) (hs : s.size ≤ 1000000) (hps : ∀ j, j < L.length → (L.getD j .zero).p.size ≤ maxLen)
    (hnm : ∀ p x, nm p = some x → x.size ≤ 1048576) (hlk : ∀ p, Look es (.string p) (dS ⟨#[]⟩) ((nm p).isSome, dS ((nm p).getD ⟨#[]⟩))) :
    SpH (cx Try.prog mixed tyT_ok E) 8 [dS s, .sl 3 32 L.length (rowL L), .mp lb] [(lb, .map 27 es)] (dS (rlS s nm L)) [(lb, .map 27 es)] := by
  refine ⟨⟨_, _, Try.func8, by kernel_rfl, rfl⟩, fun M β w vs hG hMG hM hlv hr hp hb => ?_⟩
  have h0 := (hr 0 _ rfl).val.1
  have h1 := hr 1 _ rfl
  have h2 := hr 2 _ rfl
  obtain ⟨mb, mc, hβ, hv2⟩ : ∃ b c, β lb = some (some (b, c)) ∧ vs.getD 2 undef = .map (some b) := by
    cases hq : vs.getD 2 undef <;> rw [hq] at h2 <;> cases h2
    rename_i h
    exact ⟨_, _, h, rfl⟩
  obtain ⟨A, c, hv1, hA⟩ : ∃ A c, vs.getD 1 undef = .slice A L.length c ∧ (L.length = 0 ∨ ∃ b o, A = some ⟨b, o, none⟩ ∧ b < w.heap.size ∧ ∀ j, j < L.length → w.cell? ⟨b, o + j * 3, none⟩ = some (.int .i64 (L.getD j .zero).f) ∧ w.cell? ⟨b, o + j * 3 + 1, none⟩ = some (.int .i64 (L.getD j .zero).e) ∧ w.cell? ⟨b, o + j * 3 + 2, none⟩ = some (.string (L.getD j .zero).p)) := by
    generalize vs.getD 1 undef = x at h1
    generalize hn : L.length = n at h1
    cases h1 with
    | nil hc hA => exact ⟨_, _, rfl, .inl rfl⟩
    | @sl _ _ _ _ c b o _ u hc hm hb hu hr =>
      rcases Nat.eq_zero_or_pos n with h0 | h0
      · subst h0; exact ⟨_, _, rfl, .inl rfl⟩
      · have key : ∀ i j, i < n → j < 3 → ∃ x, rowL L i j = .v x ∧ w.cell? ⟨b, o + i * 3 + j, none⟩ = some x := fun i j hi hj => by
          obtain ⟨q1, q2, _⟩ := hu i j hi hj
          have q3 := hr i j hi hj
          match j, hj with
          | 0, _ => exact ⟨_, rfl, by rw [q2, q3.val.1]⟩
          | 1, _ => exact ⟨_, rfl, by rw [q2, q3.val.1]⟩
          | 2, _ => exact ⟨_, rfl, by rw [q2, q3.val.1]⟩
        refine ⟨_, _, rfl, .inr ⟨b, o, rfl, hM _ _ (hu 0 0 h0 (by omega)).1, fun j hj => ?_⟩⟩
        obtain ⟨x0, e0, g0⟩ := key j 0 hj (by omega)
        obtain ⟨x1, e1, g1⟩ := key j 1 hj (by omega)
        obtain ⟨x2, e2, g2⟩ := key j 2 hj (by omega)
        injection e0 with e0
        injection e1 with e1
        injection e2 with e2
        exact ⟨by rw [e0]; exact g0, by rw [e1]; exact g1, by rw [e2]; exact g2⟩
  have evs : vs = #[.string s, .slice A L.length c, .map (some mb)] := by
    apply Array.ext
    · simpa using hlv
    · intro i g1 g2
      have hi : i < 3 := by simpa using g2
      match i, hi with
      | 0, _ => simpa [Array.getD, g1] using h0
      | 1, _ => simpa [Array.getD, g1] using hv1
      | 2, _ => simpa [Array.getD, g1] using hv2
  rw [evs]
  obtain ⟨_, hob⟩ := hp.ob lb _ (List.mem_singleton.2 rfl)
  have hmb : mb < w.heap.size := by
    obtain ⟨_, _, b', c', arr, clk, g1, g2, _⟩ := hob
    rw [hβ] at g1
    injection g1 with g1
    injection g1 with g1
    injection g1 with g1 _
    subst g1
    exact (Array.getElem?_eq_some_iff.1 g2).1
  have hkt : ((cx Try.prog mixed tyT_ok E).T 27).k = .map .str 9 9 := by kernel_rfl
  have key := relinked_raw s A L.length c L nm mb w rfl hl ho hs hnm hA hmb (fun W j hj hW => look_run hob hkt hβ (key := .string (L.getD j .zero).p) ⟨_, rfl, hps j hj⟩ (hlk _) hW)
  have hsz := rlS_size (nm := nm) ho
  have hgr := szK_max (nm := nm) ho hnm L.length (Nat.le_refl _)
  refine key.mono fun e w' ⟨he, hw⟩ => ?_
  refine ⟨_, M, β, he, Kp.of hw _, fun _ _ _ => rfl, fun _ _ h => h, fun _ _ h => .inl h, .v (decide_eq_true (by unfold maxLen; omega)), ⟨fun l o hm => ?_, fun l o l' o' b c c' hm hm' _ _ => ?_⟩, fun b ⟨l, o, c, hm, hβ'⟩ => .inl ⟨l, o, c, hm, hβ'⟩⟩
  · obtain ⟨rfl, rfl⟩ := Prod.mk.inj (List.mem_singleton.1 hm)
    refine ⟨rfl, ?_⟩
    obtain ⟨hz, hK, b', c', arr, clk, g1, g2, g3, g4, g5⟩ := hob
    exact ⟨hz, hK, b', c', arr, clk, g1, (hw.block b' (Array.getElem?_eq_some_iff.1 g2).1).trans g2, g3, fun i d h => (g4 i d h).mono (fun _ _ h => h) (fun b o hm => hw.cell (p := ⟨b, o, none⟩) (hM b o hm)), g5⟩
  · obtain ⟨rfl, _⟩ := Prod.mk.inj (List.mem_singleton.1 hm)
    obtain ⟨rfl, _⟩ := Prod.mk.inj (List.mem_singleton.1 hm')
    rfl
end
end rl
end Go.Proofs.Ytiiohopjkepkgaa
