/-
  AssetCodes: for every string, asset.Encode64 and asset.Decode64 answer what the reference answers.
-/
import Derived.Test.YtkldjnopapipfaaDecOf
import Derived.Test.YtkldjnopapipfaaL1
import Derived.ChangeMaps5
namespace Go.Proofs.Ytkldjnopapipfaa.codes
open Go.RowKit Go.WideShapes Go.ChangeShapes Go.ChangeAt
set_option linter.unusedVariables false

def Ret (f : Nat) (s S : ByteArray) (z : Int) : Prop := ∀ w : World, Calls Try.prog f #[.string s] w fun e w' => e = .returned (.tuple #[.string S, .int .i64 z]) ∧ Below w.heap.size w w'

set_option maxRecDepth 100000 in
theorem large0 (s : ByteArray) (hs : ¬ s.size ≤ 20000) : Ret 11 s ⟨#[]⟩ 4 := by
  intro w
  have h' : (20000 : Int) < (s.size : Int) := by omega
  clear hs
  go_enter Try.func11, Try.ntmps11
  go_wp2
  go_ret2
  exact ⟨rfl, Below.refl _ _⟩

set_option maxRecDepth 100000 in
theorem large1 (s : ByteArray) (hs : ¬ s.size ≤ 20000) : Ret 12 s ⟨#[]⟩ 4 := by
  intro w
  have h' : (20000 : Int) < (s.size : Int) := by omega
  clear hs
  go_enter Try.func12, Try.ntmps12
  go_wp2
  go_ret2
  exact ⟨rfl, Below.refl _ _⟩

set_option maxRecDepth 100000 in
theorem large2 (s : ByteArray) (hs : ¬ s.size ≤ 200000) : Ret 13 s ⟨#[]⟩ 4 := by
  intro w
  have h' : (200000 : Int) < (s.size : Int) := by omega
  clear hs
  go_enter Try.func13, Try.ntmps13
  go_wp2
  go_ret2
  exact ⟨rfl, Below.refl _ _⟩

set_option maxRecDepth 100000 in
theorem large3 (s : ByteArray) (hs : ¬ s.size ≤ 200000) : Ret 14 s ⟨#[]⟩ 4 := by
  intro w
  have h' : (200000 : Int) < (s.size : Int) := by omega
  clear hs
  go_enter Try.func14, Try.ntmps14
  go_wp2
  go_ret2
  exact ⟨rfl, Below.refl _ _⟩

theorem enc_two (s : ByteArray) : ∃ S z, Ret 11 s S z ∧ Ret 12 s S z := by
  by_cases hs : s.size ≤ 20000
  · exact ⟨_, _, fun w => encode_any s w hs, fun w => encodeOf_any s w hs⟩
  · exact ⟨_, _, large0 s hs, large1 s hs⟩

theorem dec_two (s : ByteArray) : ∃ S z, Ret 13 s S z ∧ Ret 14 s S z := by
  by_cases hs : s.size ≤ 200000
  · by_cases hr : right s
    · refine ⟨strOf (outLen s.size) (byt s), 0, fun w => (decode_any s w hs).mono ?_, fun w => (decodeOf_any s w hs).mono ?_⟩
      all_goals
        rintro e w' ⟨h, hb⟩
        rcases h with ⟨_, h⟩ | ⟨h, _⟩
        · exact ⟨h, hb⟩
        · exact absurd hr h
    · refine ⟨⟨#[]⟩, 8, fun w => (decode_any s w hs).mono ?_, fun w => (decodeOf_any s w hs).mono ?_⟩
      all_goals
        rintro e w' ⟨h, hb⟩
        rcases h with ⟨h, _⟩ | ⟨_, h⟩
        · exact absurd h hr
        · exact ⟨h, hb⟩
  · exact ⟨_, _, large2 s hs, large3 s hs⟩

set_option maxHeartbeats 1000000 in
set_option maxRecDepth 100000 in
theorem walk (s : ByteArray) (w : World) :
    Calls Try.prog 4 #[.string s] w fun e w' => e = .returned (.bool true) ∧ Below w.heap.size w w' := by
  obtain ⟨S, z, E1, E2⟩ := enc_two s
  obtain ⟨S', z', D1, D2⟩ := dec_two s
  have HE1 := hide E1; have HE2 := hide E2; have HD1 := hide D1; have HD2 := hide D2
  clear E1 E2 D1 D2
  go_enter Try.func4, Try.ntmps4
  go_wp2_with (first
    | (go_at_call 11; refine (HE1.out _).mono ?_; rintro e w1 ⟨rfl, hb1⟩)
    | (go_at_call 12; refine (HE2.out _).mono ?_; rintro e w2 ⟨rfl, hb2⟩)
    | (go_at_call 13; refine (HD1.out _).mono ?_; rintro e w3 ⟨rfl, hb3⟩)
    | (go_at_call 14; refine (HD2.out _).mono ?_; rintro e w4 ⟨rfl, hb4⟩))
  go_ret
  have B2 := hb1.trans (hb2.mono hb1.size)
  have B3 := B2.trans (hb3.mono B2.size)
  exact ⟨rfl, B3.trans (hb4.mono B3.size)⟩


theorem own : ownKnob Try.prog.godebug = none := by kernel_rfl
theorem laidOut : laidOutB Try.prog = true := by kernel_rfl

set_option maxRecDepth 100000 in
theorem lifted (os : Os) (started : os.Started) (H : Type) (enc : TypeId × Value → H) :
    ReturnsInHanded {} Try.checked os 4 .any (Rows.assetCodesSpec.pre6 enc Try.prog Try.f4 Rows.assetCodesRow.domain false) (Rows.assetCodesSpec.post enc Try.prog Try.f4 false true false false) := by
  refine returnsInHanded_of_change (C := Try.checked) own started (by kernel_rfl) Try.func4
    (ChangeSpec.witness6 (enc := enc) (C := Try.checked) false ⟨#[], #[.string ⟨#[]⟩], []⟩ 8 (by kernel_rfl) (by kernel_rfl) (by kernel_rfl) (by kernel_rfl)) ?_
  intro W base args ds gs before hval0 hW _ _
  have hval : ∀ (j : Nat) t v, Try.f4.params[j]? = some t → args[j]? = some v → Value.okWide Try.prog W .any base t v := hval0
  have hW' := hW
  obtain ⟨p, q, hA0, hV, rfl, hfz, hnd⟩ := hW
  have hA : DataW.TrodAll enc Try.prog W 0 (fun _ => true) true Try.f4.params.toList args.toList ds p := hA0
  rw [Try.params4] at hA hval
  obtain ⟨v0, vs0, d0, ds0, p0, q0, hargs, rfl, rfl, h0, r0⟩ := trodAll_cons hA
  obtain ⟨rfl, rfl, rfl⟩ := trodAll_nil r0
  obtain rfl : args = #[v0] := by cases args; simp_all
  obtain ⟨a0, rfl, _, _, w0⟩ := Go.ChangeMaps.open_string Try.underlying9 (hval 0 9 v0 rfl rfl) h0
  refine (walk a0 W).mono fun e W' ⟨he, hg⟩ => ?_
  subst he
  exact ⟨_, rfl, law_post laidOut (by kernel_rfl) (by kernel_rfl) Try.underlying4 rfl (fun ds h => by rw [Try.params4] at h; obtain ⟨_, rfl⟩ := ds_one h; rfl) hW' hg⟩

theorem over : Rows.assetCodesRow.holds Try.pinned (OpenSpec.ofChange Rows.assetCodesSpec) :=
  OpenClaim.holds_of_wide 4 Try.f4 rfl rfl rfl rfl rfl rfl rfl ⟨rfl, rfl, rfl, rfl, rfl⟩ rfl rfl rfl rfl rfl (by kernel_rfl) Try.func4 (by kernel_rfl)
    (of_decide_eq_true (by kernel_rfl)) (by unfold Func.isWrapper; first | (rw [if_pos (by decide +kernel)]; kernel_rfl) | (rw [if_neg (by decide +kernel)]; exact ⟨rfl, rfl⟩))
    (fun os started H enc _ => lifted os started H enc)

/-- The statement. -/
theorem proved : Rows.AssetCodesSaid :=
  over
#print axioms proved
end Go.Proofs.Ytkldjnopapipfaa.codes
