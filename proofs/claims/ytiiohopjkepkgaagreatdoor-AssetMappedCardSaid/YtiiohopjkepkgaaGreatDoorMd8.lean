/-
  What the variable strconv.ErrRange holds, by the list of variables.
-/
import Derived.Test.YtiiohopjkepkgaaGreatDoorMd2
import Derived.Test.YtiiohopjkepkgaaGreatDoorCard
namespace Go.Proofs.YtiiohopjkepkgaaGreatDoor
open Go.RowKit Go.WideShapes Go.ChangeShapes Go.ChangeAt
set_option linter.unusedVariables false
set_option linter.unusedSimpArgs false
namespace md
theorem trod_ifc {H : Type} {enc : TypeId × Value → H} {P : Program} {w : World} {base : Nat} {spare : Nat → Bool} {held : Bool} {fuel : Nat} {t : TypeId} {cs : List Value} {x : DataW H × List MemPlace} {ms : Array (String × TypeId)} (ht : P.underlying t = some (.interface ms)) (h : DataW.trod enc P w base spare held fuel t cs = some x) :
    ∃ ev, cs = [ev] ∧ (ev = .nilIface ∨ ∃ te pe, ev = .iface te pe) := by
  cases fuel with
  | zero => simp [DataW.trod] at h
  | succ n =>
    unfold DataW.trod at h
    rw [ht] at h
    split at h <;> simp_all
theorem iface_at {P : Program} {W : World} {name : String} {g : Nat} {t : TypeId} {ms : Array (String × TypeId)} (hg : P.globalNamed name = some g) (hty : (P.globals[g]?).map (·.type) = some t) (ht : P.underlying t = some (.interface ms)) :
    ∀ (laid : List (String × DataW Unit)) (i : Nat) (ps : List MemPlace) (d : DataW Unit), laid[i]? = some (name, d) → DataW.LaidVars P W laid ps → ∃ ev, W.cell? ⟨g, 0, none⟩ = some ev ∧ (ev = .nilIface ∨ ∃ te pe, ev = .iface te pe)
  | [], i, _, _, h, _ => by simp at h
  | (n', d) :: r, 0, ps, d', h, hl => by
    simp at h
    obtain ⟨rfl, rfl⟩ := h
    obtain ⟨g', t', cs, fuel, p, q, hg', ht', hvar, hd, _, _⟩ := hl
    obtain rfl := Option.some.inj (hg.symm.trans hg')
    obtain rfl := Option.some.inj (hty.symm.trans ht')
    have hcell : ∀ k v, cs[k]? = some v → W.cell? ⟨g, k, none⟩ = some v := by
      intro k v hk
      unfold World.var? at hvar
      rw [hg] at hvar
      simp only [Option.bind_some] at hvar
      split at hvar
      · rename_i arr u v' hh
        injection hvar with hvar
        subst hvar
        unfold World.cell?
        simp [hh, hk]
      · cases hvar
    obtain ⟨ev, h1, h2⟩ := trod_ifc ht hd
    refine ⟨ev, hcell 0 ev ?_, h2⟩
    have : cs.toList[0]? = some ev := by rw [h1]; rfl
    simpa using this
  | (n', d) :: r, i + 1, ps, d', h, hl => by
    obtain ⟨g', t', cs, fuel, p, q, _, _, _, _, hr, _⟩ := hl
    exact iface_at hg hty ht r i q d' (by simpa using h) hr
theorem ER.lt {w : World} (h : ER w) : 2 + 1 ≤ w.heap.size := by
  obtain ⟨ev, h, _⟩ := h
  exact World.block_lt_of_cell? _ _ h
theorem ER.kp {B : Nat} {w w' : World} (h : ER w) (hB : 2 < B) (hk : Kp B noS w w') : ER w' := by
  obtain ⟨ev, h, he⟩ := h
  exact ⟨ev, (hk.below.cell (p := ⟨2, 0, none⟩) hB).trans h, he⟩
end md
end Go.Proofs.YtiiohopjkepkgaaGreatDoor
