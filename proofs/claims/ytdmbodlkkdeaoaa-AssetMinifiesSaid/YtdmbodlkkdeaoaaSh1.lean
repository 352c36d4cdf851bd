/-
  Tokens made smaller: among, needed, idle, tokensFault.
-/
import Derived.Test.YtdmbodlkkdeaoaaSh0
import Derived.Test.YtdmbodlkkdeaoaaTk2
namespace Go.Proofs.Ytdmbodlkkdeaoaa
open Go.RowKit
set_option linter.unusedVariables false
set_option linter.unusedSimpArgs false
namespace sh
open bl tk
section
variable (E : Env)
set_option maxRecDepth 100000
theorem contains_sp (hML : ∀ w, E.G w → ML w) (s p : ByteArray) (hs : s.size < 4294967281) : Sp (cx Try.prog mixed tyT_ok E) 108 [dS s, dS p] (dB (Lib.contains s.data.toList p.data.toList)) :=
  Sp.of_v (vs := [.string s, .string p]) ⟨_, _, Try.func108, by kernel_rfl, rfl⟩ rfl (fun w hG => by
    obtain ⟨m, hm⟩ := hML w hG
    exact (Try.strings_Contains s p m w hs hm).mono fun e w' ⟨he, hb⟩ => ⟨he, hb ▸ Below.refl _ _⟩)
theorem among_sp (hML : ∀ w, E.G w → ML w) (t : Tok) (m : ByteArray) (hm : m.size < 4294967281) : Sp (cx Try.prog mixed tyT_ok E) 92 [.agg [i64 t.1, dS t.2], dS m] (dB (amT t m)) := by
  have h1 := contains_sp E hML m t.2 hm
  unfold amT
  generalize Lib.contains m.data.toList t.2.data.toList = b at *
  refine Sp.body Try.func92 (by kernel_rfl) rfl (by kernel_rfl) (by kernel_rfl) (by kernel_rfl) ?_
  repeat' first
    | (refine facW_intro ?_; intro _)
    | refine Or.inl ?_
    | ((conv => whnf); first | (refine condW_dec ?_ ?_ <;> intro _ <;> try (exfalso; omega)) | refine condW_not ?_ | (refine condW_bool ?_ ?_ <;> intro _ <;> try (exfalso; omega)) | (refine nbC_t (fun _ => ?_) ?_) | (refine nbC_f ?_ (fun _ => ?_)))
    | refine And.intro (by first | omega | (simp only [Int.toNat_natCast] at *; omega) | (simp only [Nat.reduceAdd, Int.cast_ofNat_Int, true_and, and_true]; omega) | kernel_rfl) ?_
    | refine RegW.run ?_
    | refine ⟨_, h1, ?_⟩
    | fail
  all_goals first
    | exact Dle.bo (by first | (simp_all; done) | (simp_all; omega))
    | trace_state
theorem isMark_sp (hML : ∀ w, E.G w → ML w) (t : Tok) (m : ByteArray) (hm : m.size < 4294967281) : Sp (cx Try.prog mixed tyT_ok E) 93 [.agg [i64 t.1, dS t.2], dS m] (dB (amT t m)) := by
  have h1 := contains_sp E hML m t.2 hm
  unfold amT
  generalize Lib.contains m.data.toList t.2.data.toList = b at *
  refine Sp.body Try.func93 (by kernel_rfl) rfl (by kernel_rfl) (by kernel_rfl) (by kernel_rfl) ?_
  repeat' first
    | (refine facW_intro ?_; intro _)
    | refine Or.inl ?_
    | ((conv => whnf); first | (refine condW_dec ?_ ?_ <;> intro _ <;> try (exfalso; omega)) | refine condW_not ?_ | (refine condW_bool ?_ ?_ <;> intro _ <;> try (exfalso; omega)) | (refine nbC_t (fun _ => ?_) ?_) | (refine nbC_f ?_ (fun _ => ?_)))
    | refine And.intro (by first | omega | (simp only [Int.toNat_natCast] at *; omega) | (simp only [Nat.reduceAdd, Int.cast_ofNat_Int, true_and, and_true]; omega) | kernel_rfl) ?_
    | refine RegW.run ?_
    | refine ⟨_, h1, ?_⟩
    | fail
  all_goals first
    | exact Dle.bo (by first | (simp_all; done) | (simp_all; omega))
    | trace_state
end
end sh
end Go.Proofs.Ytdmbodlkkdeaoaa
