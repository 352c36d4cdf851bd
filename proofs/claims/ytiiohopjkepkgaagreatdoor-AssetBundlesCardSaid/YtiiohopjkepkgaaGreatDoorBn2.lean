/-
  A strings.Builder of a call's own, beside other own rows: the text. asset.Bundle in the world: what stays where one of its variables changes.
-/
import Derived.Test.YtiiohopjkepkgaaGreatDoorBu0
import Derived.Test.YtiiohopjkepkgaaGreatDoorBn0
namespace Go.Proofs.YtiiohopjkepkgaaGreatDoor.bl
open Go.RowKit Go.Shelf
set_option linter.unusedVariables false
set_option linter.unusedSimpArgs false
/-! ## The text -/
/-- What the making of the text leaves: blocks of other types. -/
def KtB (w w' : World) : Prop := ∀ (k : Nat) (arr : Array Value) (e : TypeId) (sh : Nat × Nat), w.heap[k]? = some (Obj.cells arr e sh) → e ≠ TB → e ≠ TY → w'.heap[k]? = w.heap[k]?
theorem freeze_other (w : World) (g n k : Nat) (h : k ≠ g) : (w.freeze ⟨g, 0, none⟩ n).heap[k]? = w.heap[k]? := by
  unfold World.freeze
  split
  · rfl
  · simp [Array.getElem?_modify, Ne.symm h]
theorem none_run (W : World) (q : Option Addr) : (Builtin.unsafeString_ #[155, 3] 9 #[.pointer q, .int .i64 0]).run Tryz.prog W = .ok (.string .empty) W := Lib.run_unsafeString_none W _ _ _ q
theorem cellsY : Tryz.prog.cellsOf TY = 1 := by kernel_rfl
set_option maxHeartbeats 1000000 in
set_option maxRecDepth 100000 in
theorem string_some (B b : Nat) (l : List UInt8) (p : Value) (w : World) (h : Lib.BuilderAt TB TY B b p (Lib.byteCells l) w) (h0 : l ≠ []) :
    Calls Tryz.prog 21 #[.pointer (some ⟨b, 0, none⟩)] w fun e w' => e = .returned (.string ⟨l.toArray⟩) ∧ Below B w w' ∧ KtB w w' := by
  obtain ⟨hB, v, hbk, hown, hne⟩ := h
  have hl0 : l.length ≠ 0 := by simpa using h0
  rw [Lib.byteCells_length] at hown
  obtain ⟨g, cap, cur, rfl, hbg, hg, hnc, hcm, hcs, htake⟩ : ∃ g cap cur, v = .slice (some ⟨g, 0, none⟩) l.length cap ∧ B ≤ g ∧ w.heap[g]? = some (.cells cur TY (0, 0)) ∧ l.length ≤ cap ∧ cap ≤ maxLen ∧ cur.size = cap * 1 ∧ cur.toList.take (l.length * 1) = Lib.byteCells l := by
    rcases hown.2 with ⟨_, hz⟩ | ⟨g, cap, cur, hv, r⟩
    · exact absurd hz hl0
    · exact ⟨g, cap, cur, hv, r⟩
  have c1 : w.drew.cell? ⟨b, 1, none⟩ = some (.slice (some ⟨g, 0, none⟩) l.length cap) := by
    have : w.drew.heap[b]? = some (.cells #[p, .slice (some ⟨g, 0, none⟩) l.length cap] TB (0, 0)) := hbk
    rw [Lib.cell_of_heap this]; rfl
  have hSD : (Builtin.unsafeSliceData_ #[51] 155 #[.slice (some ⟨g, 0, none⟩) l.length cap]).run Tryz.prog w.drew = .ok (.pointer (some ⟨g, 0, none⟩)) w.drew :=
    Lib.run_unsafeSliceData_row _ _ _ _ _ _ (by omega)
  have hUS : (Builtin.unsafeString_ #[155, 3] 9 #[.pointer (some ⟨g, 0, none⟩), .int .i64 l.length]).run Tryz.prog w.drew = .ok (.string ⟨l.toArray⟩) (w.drew.freeze ⟨g, 0, none⟩ l.length) := by
    refine Lib.run_unsafeString_row w.drew 155 3 9 TY Tryz.underlying155 cellsY g cur.size (by have hg' : w.drew.heap[g]? = some (.cells cur TY (0, 0)) := hg; simp [World.shape?, hg']) l h0 (by omega) (by unfold maxLen at hcm; omega) ?_
    intro j x hx
    have := hown.cells (g := g) rfl j (.int .u8 x.toNat) (by simp [Lib.byteCells, hx])
    exact this
  have hK : KtB w (w.drew.freeze ⟨g, 0, none⟩ l.length) := fun k arr e sh hk h1 h2 => by
    refine freeze_other _ _ _ _ (fun e' => ?_)
    subst e'
    rw [hg] at hk
    injection hk with hk
    injection hk with _ hk _
    exact h2 hk.symm
  have mixed : Tryz.prog.follows .mixedOrders = true := by kernel_rfl
  go_enter Tryz.func21, Tryz.ntmps21
  go_wp2
  go_region_o
  all_goals (go_wp2; go_ret; exact ⟨rfl, Lib.below_freeze (Below.drew (Below.refl B w)) (p := ⟨g, 0, none⟩) hbg _, hK⟩)
set_option maxHeartbeats 2000000 in
set_option maxRecDepth 100000 in
theorem string_none (B b : Nat) (p : Value) (w : World) (hBw : B ≤ w.heap.size) (h : Lib.BuilderAt TB TY B b p [] w) :
    Calls Tryz.prog 21 #[.pointer (some ⟨b, 0, none⟩)] w fun e w' => e = .returned (.string ⟨#[]⟩) ∧ Below B w w' ∧ KtB w w' := by
  obtain ⟨hB, v, hbk, hown, hne⟩ := h
  have hUS := none_run
  have mixed : Tryz.prog.follows .mixedOrders = true := by kernel_rfl
  have hlt : b < w.heap.size := (Array.getElem?_eq_some_iff.1 hbk).1
  rcases hown.2 with ⟨rfl, _⟩ | ⟨g, cap, cur, rfl, hbg, hg, _, _, _, _⟩
  · have c1 : w.drew.cell? ⟨b, 1, none⟩ = some (.slice none 0 0) := by
      have : w.drew.heap[b]? = some (.cells #[p, .slice none 0 0] TB (0, 0)) := hbk
      rw [Lib.cell_of_heap this]; rfl
    have hSD : (Builtin.unsafeSliceData_ #[51] 155 #[.slice none 0 0]).run Tryz.prog w.drew = .ok (.pointer none) w.drew := rfl
    go_enter Tryz.func21, Tryz.ntmps21
    go_wp2
    go_region_o
    all_goals (go_wp2; go_ret; exact ⟨rfl, Below.drew (Below.refl B w), fun _ _ _ _ _ _ _ => rfl⟩)
  · by_cases hc0 : cap = 0
    · subst hc0
      have hSD : (Builtin.unsafeSliceData_ #[51] 155 #[.slice (some ⟨g, 0, none⟩) 0 0]).run Tryz.prog w.drew = .ok (.pointer (some ⟨w.drew.heap.size, 0, none⟩)) (w.drew.alloc (.view ⟨g, 0, none⟩ TY)) :=
        Lib.run_unsafeSliceData_zero w.drew _ _ TY Tryz.underlying155 ⟨g, 0, none⟩ 0 (TY, cur.size) (by have hg' : w.drew.heap[g]? = some (.cells cur TY (0, 0)) := hg; simp [World.shape?, hg'])
      have c2 : (w.drew.alloc (.view ⟨g, 0, none⟩ TY)).cell? ⟨b, 1, none⟩ = some (.slice (some ⟨g, 0, none⟩) 0 0) := by
        have : (w.drew.alloc (.view ⟨g, 0, none⟩ TY)).heap[b]? = _ := (Lib.alloc_old w.drew _ b hlt).trans hbk
        rw [Lib.cell_of_heap this]; rfl
      have c3 : (w.alloc (.view ⟨g, 0, none⟩ TY)).drew.cell? ⟨b, 1, none⟩ = some (.slice (some ⟨g, 0, none⟩) 0 0) := c2
      have c0 : w.cell? ⟨b, 1, none⟩ = some (.slice (some ⟨g, 0, none⟩) 0 0) := by rw [Lib.cell_of_heap hbk]; rfl
      have c1 : w.drew.cell? ⟨b, 1, none⟩ = some (.slice (some ⟨g, 0, none⟩) 0 0) := c0
      have hK : ∀ o, KtB w (w.alloc o) := fun o k arr e sh hk _ _ => Lib.alloc_old w o k (Array.getElem?_eq_some_iff.1 hk).1
      go_enter Tryz.func21, Tryz.ntmps21
      go_wp2
      go_region_o
      all_goals (go_wp2; go_ret; exact ⟨rfl, (Below.drew (Below.refl B w)).alloc hBw _, hK _⟩)
    · have c1 : w.drew.cell? ⟨b, 1, none⟩ = some (.slice (some ⟨g, 0, none⟩) 0 cap) := by
        have : w.drew.heap[b]? = some (.cells #[p, .slice (some ⟨g, 0, none⟩) 0 cap] TB (0, 0)) := hbk
        rw [Lib.cell_of_heap this]; rfl
      have hSD : (Builtin.unsafeSliceData_ #[51] 155 #[.slice (some ⟨g, 0, none⟩) 0 cap]).run Tryz.prog w.drew = .ok (.pointer (some ⟨g, 0, none⟩)) w.drew :=
        Lib.run_unsafeSliceData_row _ _ _ _ _ _ hc0
      clear hc0
      go_enter Tryz.func21, Tryz.ntmps21
      go_wp2
      go_region_o
      all_goals (go_wp2; go_ret; exact ⟨rfl, Below.drew (Below.refl B w), fun _ _ _ _ _ _ _ => rfl⟩)
theorem string_raw (B b : Nat) (l : List UInt8) (w : World) (hBw : B ≤ w.heap.size) (h : Lib.IsBuilder TB TY B b (Lib.byteCells l) w) :
    Calls Tryz.prog 21 #[.pointer (some ⟨b, 0, none⟩)] w fun e w' => e = .returned (.string ⟨l.toArray⟩) ∧ Below B w w' ∧ KtB w w' := by
  obtain ⟨p, h⟩ : ∃ p, Lib.BuilderAt TB TY B b p (Lib.byteCells l) w := by
    rcases h with h | h
    · exact ⟨_, h⟩
    · exact ⟨_, h⟩
  cases l with
  | nil => exact string_none B b p w hBw h
  | cons x r => exact string_some B b (x :: r) p w h (by simp)
end Go.Proofs.YtiiohopjkepkgaaGreatDoor.bl
namespace Go.Proofs.YtiiohopjkepkgaaGreatDoor
open Go.RowKit Go.Shelf
set_option linter.unusedVariables false
set_option linter.unusedSimpArgs false
namespace bn
open mp32 md bl
abbrev TS : TypeId := 9
abbrev TI : TypeId := 3
abbrev TA : TypeId := 26
abbrev TF : TypeId := 49
/-- The variables of a run of Bundle: the result, the bundle's struct, its two rows, the builder. -/
structure S3 (B H : Nat) (w W : World) (s X Y P Q : Value) (ps qs bs : List Value) : Prop where
  res : W.heap[B]? = some (.cells #[.string ⟨#[]⟩, .slice none 0 0, .slice none 0 0] TA (0, 0))
  stc : W.heap[H]? = some (.cells #[s, X, Y] TA (0, 0))
  rp : W.ownsRow B TS 1 P ps.length ps
  rq : W.ownsRow B TI 1 Q qs.length qs
  bld : Lib.IsBuilder TB TY B (H + 1) bs W
  bel : Below B w W
  hB : B < H
theorem gb {W W' : World} {B n sz : Nat} {e : TypeId} {v : Value} {xs : List Value} (ho : W.ownsRow B e sz v n xs) (hg : W.grownBy W' v.ownBlock) {k : Nat} {arr : Array Value} {e' : TypeId} {sh : Nat × Nat} (hk : W.heap[k]? = some (.cells arr e' sh)) (hne : e' ≠ e) : W'.heap[k]? = W.heap[k]? := by
  refine hg.block k (Array.getElem?_eq_some_iff.1 hk).1 (fun e1 => ?_)
  rcases ho.2 with ⟨rfl, _⟩ | ⟨g, cap, cur, rfl, _, hgb, _⟩
  · cases e1
  · have e1 : k = g := by simpa [Value.ownBlock] using e1
    subst e1
    rw [hk] at hgb
    injection hgb with hgb
    injection hgb with _ hgb _
    exact hne hgb
theorem row_of {W W' : World} {B n sz : Nat} {e : TypeId} {v : Value} {xs : List Value} (ho : W.ownsRow B e sz v n xs) (h : ∀ (k : Nat) (arr : Array Value), W.heap[k]? = some (.cells arr e (0, 0)) → W'.heap[k]? = W.heap[k]?) : W'.ownsRow B e sz v n xs := by
  refine ⟨ho.1, ho.2.imp id ?_⟩
  rintro ⟨g, cap, cur, h1, h2, h3, h4⟩
  exact ⟨g, cap, cur, h1, h2, (h g cur h3).trans h3, h4⟩
theorem bld_of {W W' : World} {B b : Nat} {bs : List Value} (hb : Lib.IsBuilder TB TY B b bs W) (h : ∀ (k : Nat) (arr : Array Value), W.heap[k]? = some (.cells arr TB (0, 0)) → W'.heap[k]? = W.heap[k]?) (h2 : ∀ (k : Nat) (arr : Array Value), W.heap[k]? = some (.cells arr TY (0, 0)) → W'.heap[k]? = W.heap[k]?) : Lib.IsBuilder TB TY B b bs W' := by
  have one : ∀ p, Lib.BuilderAt TB TY B b p bs W → Lib.BuilderAt TB TY B b p bs W' := fun p ⟨hB, v, hb, ho, hne⟩ => ⟨hB, v, (h b _ hb).trans hb, row_of ho h2, hne⟩
  exact hb.imp (one _) (one _)
variable {B H : Nat} {w W W' : World} {s X Y P Q v : Value} {ps qs bs ps' qs' bs' : List Value}
theorem S3.alloc (h : S3 B H w W s X Y P Q ps qs bs) (o : Obj) : S3 B H w (W.alloc o) s X Y P Q ps qs bs := by
  have key : ∀ (k : Nat) (x : Obj), W.heap[k]? = some x → (W.alloc o).heap[k]? = W.heap[k]? := fun k x hk => Lib.alloc_old W o k (Array.getElem?_eq_some_iff.1 hk).1
  exact ⟨(key _ _ h.res).trans h.res, (key _ _ h.stc).trans h.stc, h.rp.alloc o, h.rq.alloc o, bld_of h.bld (fun k arr hk => key k _ hk) (fun k arr hk => key k _ hk), h.bel.alloc (Nat.le_of_lt (Array.getElem?_eq_some_iff.1 h.res).1) o, h.hB⟩
theorem S3.growP (h : S3 B H w W s X Y P Q ps qs bs) (ho : W'.ownsRow B TS 1 v ps'.length ps') (hg : W.grownBy W' P.ownBlock) (hb : Below B w W') : S3 B H w W' s X Y v Q ps' qs bs :=
  ⟨(gb h.rp hg h.res (by decide)).trans h.res, (gb h.rp hg h.stc (by decide)).trans h.stc, ho, row_of h.rq (fun k arr hk => gb h.rp hg hk (by decide)), bld_of h.bld (fun k arr hk => gb h.rp hg hk (by decide)) (fun k arr hk => gb h.rp hg hk (by decide)), hb, h.hB⟩
theorem S3.growQ (h : S3 B H w W s X Y P Q ps qs bs) (ho : W'.ownsRow B TI 1 v qs'.length qs') (hg : W.grownBy W' Q.ownBlock) (hb : Below B w W') : S3 B H w W' s X Y P v ps qs' bs :=
  ⟨(gb h.rq hg h.res (by decide)).trans h.res, (gb h.rq hg h.stc (by decide)).trans h.stc, row_of h.rp (fun k arr hk => gb h.rq hg hk (by decide)), ho, bld_of h.bld (fun k arr hk => gb h.rq hg hk (by decide)) (fun k arr hk => gb h.rq hg hk (by decide)), hb, h.hB⟩
theorem set_at {W : World} {H i : Nat} {arr : Array Value} {T : TypeId} {v : Value} (h : W.heap[H]? = some (.cells arr T (0, 0))) (hi : i < arr.size) : (W.setCell ⟨H, i, none⟩ v).heap[H]? = some (.cells (arr.set i v hi) T (0, 0)) := by
  show (W.heap.modify H _)[H]? = _
  rw [Array.getElem?_modify, if_pos rfl, h]
  simp [Array.setIfInBounds, hi]
theorem S3.setC (h : S3 B H w W s X Y P Q ps qs bs) (i : Nat) (hi : i < 3) {s' X' Y' : Value} (he : (#[s, X, Y] : Array Value).set i v hi = #[s', X', Y']) : S3 B H w (W.setCell ⟨H, i, none⟩ v) s' X' Y' P Q ps qs bs := by
  have hBH := h.hB
  have oth : ∀ (k : Nat) (arr : Array Value) (e : TypeId), W.heap[k]? = some (.cells arr e (0, 0)) → e ≠ TA → (W.setCell ⟨H, i, none⟩ v).heap[k]? = W.heap[k]? := fun k arr e hk hne => Below.heap_setCell _ _ _ _ (fun e1 => by
    have e1 : k = H := e1
    subst e1
    rw [h.stc] at hk
    injection hk with hk
    injection hk with _ hk _
    exact hne hk.symm)
  refine ⟨(Below.heap_setCell _ _ _ _ (show B ≠ H by omega)).trans h.res, ?_, row_of h.rp (fun k arr hk => oth k arr _ hk (by decide)), row_of h.rq (fun k arr hk => oth k arr _ hk (by decide)), bld_of h.bld (fun k arr hk => oth k arr _ hk (by decide)) (fun k arr hk => oth k arr _ hk (by decide)), h.bel.setCell (p := ⟨H, i, none⟩) (Nat.le_of_lt hBH) _, hBH⟩
  rw [set_at h.stc (by exact hi), he]
theorem S3.kt (h : S3 B H w W s X Y P Q ps qs bs) (hk : Kt W W') (hb : Below B W W') (hl : Lib.IsBuilder TB TY B (H + 1) bs' W') : S3 B H w W' s X Y P Q ps qs bs' :=
  ⟨(hk.block _ _ _ _ h.res (by decide) (by decide)).trans h.res, (hk.block _ _ _ _ h.stc (by decide) (by decide)).trans h.stc, hk.row h.rp (by decide) (by decide), hk.row h.rq (by decide) (by decide), hl, h.bel.trans hb, h.hB⟩
theorem S3.keep (h : S3 B H w W s X Y P Q ps qs bs) (hb : Below W.heap.size W W') : S3 B H w W' s X Y P Q ps qs bs := by
  have key : ∀ (k : Nat) (x : Obj), W.heap[k]? = some x → W'.heap[k]? = W.heap[k]? := fun k x hk => hb.block k (Array.getElem?_eq_some_iff.1 hk).1
  exact ⟨(key _ _ h.res).trans h.res, (key _ _ h.stc).trans h.stc, row_of h.rp (fun k arr hk => key k _ hk), row_of h.rq (fun k arr hk => key k _ hk), bld_of h.bld (fun k arr hk => key k _ hk) (fun k arr hk => key k _ hk), h.bel.trans (hb.mono (Nat.le_of_lt (Array.getElem?_eq_some_iff.1 h.res).1)), h.hB⟩
theorem S3.drew (h : S3 B H w W s X Y P Q ps qs bs) (hb : Below B w W.drew) : S3 B H w W.drew s X Y P Q ps qs bs :=
  ⟨h.res, h.stc, row_of h.rp (fun _ _ _ => rfl), row_of h.rq (fun _ _ _ => rfl), bld_of h.bld (fun _ _ _ => rfl) (fun _ _ _ => rfl), hb, h.hB⟩
/-- .. without the builder; the result's variable may be written. -/
structure R3 (B H : Nat) (w W : World) (a b c s X Y P Q : Value) (ps qs : List Value) : Prop where
  res : W.heap[B]? = some (.cells #[a, b, c] TA (0, 0))
  stc : W.heap[H]? = some (.cells #[s, X, Y] TA (0, 0))
  rp : W.ownsRow B TS 1 P ps.length ps
  rq : W.ownsRow B TI 1 Q qs.length qs
  bel : Below B w W
  hB : B < H
variable {a b c : Value}
theorem S3.ktB (h : S3 B H w W s X Y P Q ps qs bs) (hk : KtB W W') (hb : Below B W W') : R3 B H w W' (.string ⟨#[]⟩) (.slice none 0 0) (.slice none 0 0) s X Y P Q ps qs :=
  ⟨(hk _ _ _ _ h.res (by decide) (by decide)).trans h.res, (hk _ _ _ _ h.stc (by decide) (by decide)).trans h.stc, row_of h.rp (fun k arr hk' => hk k _ _ _ hk' (by decide) (by decide)), row_of h.rq (fun k arr hk' => hk k _ _ _ hk' (by decide) (by decide)), h.bel.trans hb, h.hB⟩
theorem R3.setH (h : R3 B H w W a b c s X Y P Q ps qs) (i : Nat) (hi : i < 3) {s' X' Y' : Value} (he : (#[s, X, Y] : Array Value).set i v hi = #[s', X', Y']) : R3 B H w (W.setCell ⟨H, i, none⟩ v) a b c s' X' Y' P Q ps qs := by
  have hBH := h.hB
  have oth : ∀ (k : Nat) (arr : Array Value) (e : TypeId), W.heap[k]? = some (.cells arr e (0, 0)) → e ≠ TA → (W.setCell ⟨H, i, none⟩ v).heap[k]? = W.heap[k]? := fun k arr e hk hne => Below.heap_setCell _ _ _ _ (fun e1 => by
    have e1 : k = H := e1
    subst e1
    rw [h.stc] at hk
    injection hk with hk
    injection hk with _ hk _
    exact hne hk.symm)
  refine ⟨(Below.heap_setCell _ _ _ _ (show B ≠ H by omega)).trans h.res, ?_, row_of h.rp (fun k arr hk => oth k arr _ hk (by decide)), row_of h.rq (fun k arr hk => oth k arr _ hk (by decide)), h.bel.setCell (p := ⟨H, i, none⟩) (Nat.le_of_lt hBH) _, hBH⟩
  rw [set_at h.stc (by exact hi), he]
theorem R3.setB (h : R3 B H w W a b c s X Y P Q ps qs) (i : Nat) (hi : i < 3) {s' X' Y' : Value} (he : (#[a, b, c] : Array Value).set i v hi = #[s', X', Y']) : R3 B H w (W.setCell ⟨B, i, none⟩ v) s' X' Y' s X Y P Q ps qs := by
  have hBH := h.hB
  have oth : ∀ (k : Nat) (arr : Array Value) (e : TypeId), W.heap[k]? = some (.cells arr e (0, 0)) → e ≠ TA → (W.setCell ⟨B, i, none⟩ v).heap[k]? = W.heap[k]? := fun k arr e hk hne => Below.heap_setCell _ _ _ _ (fun e1 => by
    have e1 : k = B := e1
    subst e1
    rw [h.res] at hk
    injection hk with hk
    injection hk with _ hk _
    exact hne hk.symm)
  refine ⟨?_, (Below.heap_setCell _ _ _ _ (show H ≠ B by omega)).trans h.stc, row_of h.rp (fun k arr hk => oth k arr _ hk (by decide)), row_of h.rq (fun k arr hk => oth k arr _ hk (by decide)), h.bel.setCell (p := ⟨B, i, none⟩) (Nat.le_refl _) _, hBH⟩
  rw [set_at h.res (by exact hi), he]
end bn
end Go.Proofs.YtiiohopjkepkgaaGreatDoor
