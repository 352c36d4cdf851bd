/-
  asset.joined over data.
-/
import Derived.Test.YtdmbodlkkdeaoaaBl1
import Derived.Test.YtdmbodlkkdeaoaaN18
import Derived.Test.YtdmbodlkkdeaoaaQ1
namespace Go.Proofs.Ytdmbodlkkdeaoaa
open Go.RowKit
set_option linter.unusedVariables false
set_option linter.unusedSimpArgs false
namespace bl
/-- Tokens: kinds and texts. -/
abbrev Tok := Int × ByteArray
def tokR (l : List Tok) (i j : Nat) : DD := match j with
  | 0 => i64 (l.getD i (0, ⟨#[]⟩)).1
  | 1 => dS (l.getD i (0, ⟨#[]⟩)).2
  | _ => .opq
def encToks (l : List Tok) : DD := .sl 2 24 l.length (tokR l)
def txts (l : List Tok) : List ByteArray := l.map (·.2)
section
variable (E : Env)
set_option maxRecDepth 100000
/-- A row of tokens in the world. -/
theorem rep_toks {M : Nat → Nat → Prop} {w : World} {β : Bt} {l : List Tok} {x : Value} (h : Rep view M w β (encToks l) x) :
    ∃ A c, x = .slice A l.length c ∧ l.length ≤ c ∧ c ≤ maxLen ∧ (l.length = 0 ∨ ∃ b o, A = some ⟨b, o, none⟩ ∧ ∀ j, j < l.length → M b (o + j * 2) ∧ w.cell? ⟨b, o + j * 2, none⟩ = some (.int .i64 (l.getD j (0, ⟨#[]⟩)).1) ∧ w.cell? ⟨b, o + j * 2 + 1, none⟩ = some (.string (l.getD j (0, ⟨#[]⟩)).2)) := by
  unfold encToks at h
  generalize hn : l.length = n at h
  cases h with
  | nil hc hA => exact ⟨_, _, rfl, Nat.zero_le _, hc, .inl rfl⟩
  | @sl _ _ _ _ c b o _ u hc hm hb hu hr =>
    refine ⟨_, _, rfl, hc, hm, .inr ⟨b, o, rfl, fun j hj => ?_⟩⟩
    obtain ⟨h1, h2, _⟩ := hu j 0 hj (by omega)
    obtain ⟨g1, g2, _⟩ := hu j 1 hj (by omega)
    have h3 := (hr j 0 hj (by omega)).val.1
    have g3 := (hr j 1 hj (by omega)).val.1
    rw [Nat.add_zero] at h1 h2
    rw [h3] at h2
    rw [g3] at g2
    exact ⟨h1, h2, g2⟩
theorem joined_sp (l : List Tok) (hl : l.length ≤ 1000000000000) (hs : (catS (txts l)).size ≤ 140737488355328) : Sp (cx Try.prog mixed tyT_ok E) 16 [encToks l] (dS (catS (txts l))) := by
  refine .inl ⟨⟨_, _, Try.func16, by kernel_rfl, rfl⟩, fun M β w vs hG hMG hM hlv hr hp hb => ?_⟩
  obtain ⟨A, c, h1, h2, h3, h4⟩ := rep_toks (hr 0 _ rfl)
  have evs : vs = #[.slice A l.length c] := by
    apply Array.ext
    · simpa using hlv
    · intro i g1 g2
      obtain rfl : i = 0 := by simp at g2; exact g2
      simpa [Array.getD, g1] using h1
  rw [evs]
  have key := joined_raw A l.length c (fun j => (l.getD j (0, ⟨#[]⟩)).1) (txts l) w (List.length_map ..) hl (by
    rcases Nat.eq_zero_or_pos l.length with h0 | h0
    · exact .inl h0
    · obtain ⟨b, o, e, g⟩ := h4.resolve_left (by omega)
      refine .inr ⟨b, o, e, hM b (o + 0 * 2) (g 0 h0).1, fun j hj => ⟨(g j hj).2.1, ?_⟩⟩
      rw [(g j hj).2.2]
      simp [txts, List.getD, hj]) hs
  refine key.mono fun e w' ⟨he, hw⟩ => ?_
  exact ⟨_, M, β, he, Kp.of hw _, fun _ _ _ => rfl, fun _ _ h => h, fun _ _ h => .inl h, .v (decide_eq_true (by unfold maxLen; omega)), ⟨fun l o hm => (by cases hm), fun l o l' o' b c c' hm => (by cases hm)⟩, fun b ⟨l, o, c, hm, _⟩ => (by cases hm)⟩
end
end bl
end Go.Proofs.Ytdmbodlkkdeaoaa
