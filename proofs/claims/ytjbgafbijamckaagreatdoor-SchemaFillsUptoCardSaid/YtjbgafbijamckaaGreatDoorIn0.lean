/-
  slices.Insert of one element: rows of values, rows of strings. (Turned from the library's own walks at rows of one-cell elements.)
-/
import Derived.Test.YtjbgafbijamckaaGreatDoorDl0
import Derived.Lib.Overlaps
import Derived.Lib.AppendZeros
import Derived.Lib.AppendZerosOnto
import Derived.Lib.JoinLaws
import Derived.Laws.Externs
import Derived.Laws.IdiomCopy
import Derived.Laws.NewBlocks
namespace Go.Proofs.YtjbgafbijamckaaGreatDoor
open Go.RowKit Go.Lib
set_option linter.unusedVariables false
set_option linter.unusedSimpArgs false
namespace ins
open dl
section
variable {P : Program}
/-- 'copy' at elements of s cells: all is read before anything is written. -/
theorem run_copy_size (w : World) (dT sT ty elem : TypeId) (s b o dLen dCap : Nat) (a : Addr) (sLen sCap : Nat) (cs : List Value)
    (hu : P.underlying dT = some (.slice elem)) (hs : (P.info? elem).map (·.size) = some s) (hn : cs.length = Nat.min sLen dLen * s)
    (hsrc : ∀ j v, cs[j]? = some v → w.cell? (a.add j) = some v) (hc : ∀ j, j < cs.length → (w.cell? ⟨b, o + j, none⟩).isSome = true) (hf : ∀ j, j < cs.length → w.frozen? ⟨b, o + j, none⟩ = false) (h1 : ∀ v ∈ cs, v.oneCell' = true) :
    (Builtin.copy_ #[dT, sT] ty #[.slice (some ⟨b, o, none⟩) dLen dCap, .slice (some a) sLen sCap]).run P w = .ok (goInt (Nat.min sLen dLen)) (w.setCells b o cs) := by
  have hl := run_loadCells_list (P := P) w a cs hsrc
  have hst := run_storeCells_cells (P := P) b o cs 0 w (by simpa using hc) (by simpa using hf) h1
  cases hq : P.info? elem with
  | none => simp [hq] at hs
  | some i =>
    have hi : i.size = s := by simpa [hq] using hs
    simp [Builtin.copy_, run_underlying hu, Builtin.lenOf, Builtin.firstCells, sizeOf, typeInfo, hq, hi, ← hn, hl, hst]
theorem wp_copy_at (w : World) {o : Oper} {a : Act} {K : Act → World → Prop} {Q : Exit → Act → World → Prop} (d s : Operand) (t t' : TypeId)
    (ho : o.op = .call { callee := .builtin .copy, args := #[d, s], argTypes := #[t, t'] }) (v u : Value) (hd : a.eval d = v) (hs : a.eval s = u) {v' : Value} {w' : World}
    (hr : (Builtin.copy_ #[t, t'] o.type #[v, u]).run P w = .ok v' w') (h : K (a.put o.dst v') w') : o.wp P a w K Q := by
  unfold Oper.wp execOp
  simp only [ho, resolve, invoke, builtin, Sem.run_bind, Sem.run_pure, Result.andThen_ok, List.map_toArray, List.map_cons, List.map_nil, hd, hs, hr]
  exact h
theorem wpList_copy_at (w : World) {ops : Array Oper} {rest : List Oper} {o : Oper} {a : Act} {Q : Exit → Act → World → Prop} (hgd : o.guard = none) (d s : Operand) (t t' : TypeId)
    (ho : o.op = .call { callee := .builtin .copy, args := #[d, s], argTypes := #[t, t'] }) (v u : Value) (hd : a.eval d = v) (hs : a.eval s = u) {v' : Value} {w' : World}
    (hr : (Builtin.copy_ #[t, t'] o.type #[v, u]).run P w = .ok v' w') (h : wpList P ops Q rest (a.put o.dst v') w') : wpList P ops Q (o :: rest) a w :=
  wpList_plain hgd fun _ hK => wp_copy_at w d s t t' ho v u hd hs hr (hK _ _ h)
theorem step_copy_at {ops : Array Oper} {o : Oper} {a : Act} {w : World} {K : Act → World → Prop} {Q : Exit → Act → World → Prop} {E : Prop}
    (hg : o.guard = none) (d x : Operand) (dT sT : TypeId) (hop : o.op = Op.call { callee := Callee.builtin Builtin.copy, args := #[d, x], argTypes := #[dT, sT] })
    (v u : Value) (hd : a.eval d = v) (hx : a.eval x = u) {v' : Value} {w' : World} (hr : (Builtin.copy_ #[dT, sT] o.type #[v, u]).run P w = .ok v' w') (hK : K (a.put o.dst v') w') :
    if Region.wanted o (yielded ops a.tmps) = true then Oper.wp P o a w K Q else E := by
  have hw : Region.wanted o (yielded ops a.tmps) = true := by simp [Region.wanted, hg]
  rw [if_pos hw]
  unfold Oper.wp
  simp [execOp, hop, resolve, invoke, builtin, hd, hx, hr, Result.andThen]
  exact hK
end
/-- The cells from element i on. -/
def tl (s i n : Nat) (g : Nat → Value) : List Value := (List.range ((n - i) * s)).map fun t => g (i * s + t)
theorem tl_len (s i n : Nat) (g : Nat → Value) : (tl s i n g).length = (n - i) * s := by simp [tl]
theorem tl_get (s i n : Nat) (g : Nat → Value) {t : Nat} (ht : t < (n - i) * s) : (tl s i n g)[t]? = some (g (i * s + t)) := by
  unfold tl
  rw [List.getElem?_map, List.getElem?_range ht]
  rfl
set_option maxHeartbeats 4000000 in
set_option maxRecDepth 1000000 in
/-- There is room, i < n: in place. -/
theorem insV_shift (b n c i vb m vc : Nat) (g h : Nat → Value) (w : World) (hm0 : 0 < m) (hR : w.rowIs b 25 (c * 6) g) (hX : w.rowIs vb 25 (vc * 6) h) (hmv : m ≤ vc) (hvb : vb ≠ b) (h1 : ∀ k, k < n * 6 → (g k).oneCell' = true) (h2 : ∀ k, k < m * 6 → (h k).oneCell' = true) (hi : i < n) (hroom : n + m ≤ c) (hm : c ≤ 9223372036854775807) :
    Calls Tryz.prog 47 #[.slice (some ⟨b, 0, none⟩) n c, .int .i64 i, .slice (some ⟨vb, 0, none⟩) m vc] w fun e w' => e = .returned (.slice (some ⟨b, 0, none⟩) (n + m) c) ∧ w' = (w.drew.setCells b ((i + m) * 6) (tl 6 i n g)).setCells b (i * 6) (tl 6 0 m h) := by
  have t31 := Tryz.underlying22
  have hsz : (Tryz.prog.info? 25).map (·.size) = some 6 := by kernel_rfl
  have hov : ∀ lb cb, (callFunc 73 #[.slice (some ⟨vb, 0, none⟩) m vc, .slice (some ⟨b, (i + m) * 6, none⟩) lb cb]).run Tryz.prog w = .ok (.value (.bool false)) w := fun lb cb => by
    obtain ⟨ca, q1, q2, q3⟩ := hX
    obtain ⟨cb', r1, r2, r3⟩ := hR
    rw [run_callFunc_extern Tryz.func73 (by kernel_rfl) (by kernel_rfl) (by kernel_rfl) (e := Extern.SlicesOverlaps.overlaps #[22, 22] #[4]) (by kernel_rfl),
      Lib.run_overlaps_apart w 22 4 25 t31 6 (fun w => by kernel_rfl) ⟨vb, 0, none⟩ ⟨b, (i + m) * 6, none⟩ m vc lb cb hvb 25 25 (vc * 6) (c * 6) (by simp [World.shape?, q1, q2]) (by simp [World.shape?, r1, r2]) (by omega) (by simp [World.frozen?, q1]) (by simp [World.frozen?, q1])]
    rfl
  have hcp1 : ∀ ty dc sc, (Builtin.copy_ #[22, 22] ty #[.slice (some ⟨b, (i + m) * 6, none⟩) (n + m - (i + m)) dc, .slice (some ⟨b, i * 6, none⟩) (n + m - i) sc]).run Tryz.prog w.drew = .ok (goInt (Nat.min (n + m - i) (n + m - (i + m)))) (w.drew.setCells b ((i + m) * 6) (tl 6 i n g)) := fun ty dc sc =>
    run_copy_size w.drew _ _ ty 25 6 b _ _ _ ⟨b, i * 6, none⟩ _ _ (tl 6 i n g) t31 hsz (by rw [tl_len]; simp only [Nat.min_def]; split <;> omega)
      (fun j v hj => by
        have hlt := (List.getElem?_eq_some_iff.1 hj).1
        rw [tl_len] at hlt
        rw [tl_get _ _ _ _ hlt] at hj
        rw [Addr.add_lit]
        refine Eq.trans ?_ hj
        have := (row_cell hR (k := i * 6 + j) (by omega)).1
        simpa using this)
      (fun j hj => by rw [tl_len] at hj; have := (row_cell hR (k := (i + m) * 6 + j) (by omega)).1; show (w.cell? _).isSome = true; rw [this]; rfl)
      (fun j hj => by rw [tl_len] at hj; exact (row_cell hR (k := (i + m) * 6 + j) (by omega)).2)
      (fun v hv => by
        obtain ⟨t, ht, rfl⟩ := List.mem_map.1 hv
        exact h1 _ (by have := List.mem_range.1 ht; omega))
  obtain ⟨W1, hW1⟩ : ∃ W1, W1 = w.drew.setCells b ((i + m) * 6) (tl 6 i n g) := ⟨_, rfl⟩
  obtain ⟨g1, hR1⟩ : ∃ g1, W1.rowIs b 25 (c * 6) g1 := ⟨_, by rw [hW1]; exact rowIs_setCells _ _ _ _ (row_drew hR)⟩
  have hX1 : W1.rowIs vb 25 (vc * 6) h := by rw [hW1]; exact rowIs_setCells_other hvb _ _ _ (row_drew hX)
  have hcp2 : ∀ (W : World), (∀ x, W.cell? x = W1.cell? x) → (∀ x, W.frozen? x = W1.frozen? x) → ∀ ty dc, (Builtin.copy_ #[22, 22] ty #[.slice (some ⟨b, i * 6, none⟩) (n + m - i) dc, .slice (some ⟨vb, 0, none⟩) m vc]).run Tryz.prog W = .ok (goInt (Nat.min m (n + m - i))) (W.setCells b (i * 6) (tl 6 0 m h)) := fun W hWc hWf ty dc =>
    run_copy_size W _ _ ty 25 6 b _ _ _ ⟨vb, 0, none⟩ _ _ (tl 6 0 m h) t31 hsz (by rw [tl_len]; simp only [Nat.min_def]; split <;> omega)
      (fun j v hj => by
        have hlt := (List.getElem?_eq_some_iff.1 hj).1
        rw [tl_len] at hlt
        rw [tl_get _ _ _ _ hlt] at hj
        rw [Addr.add_lit, hWc]
        refine Eq.trans ?_ hj
        have := (row_cell hX1 (k := 0 * 6 + j) (by omega)).1
        simpa using this)
      (fun j hj => by rw [tl_len] at hj; rw [hWc, (row_cell hR1 (k := i * 6 + j) (by omega)).1]; rfl)
      (fun j hj => by rw [tl_len] at hj; rw [hWf]; exact (row_cell hR1 (k := i * 6 + j) (by omega)).2)
      (fun v hv => by
        obtain ⟨t, ht, rfl⟩ := List.mem_map.1 hv
        exact h2 _ (by have := List.mem_range.1 ht; omega))
  rw [← hW1] at hcp1
  have hz1 : ¬ ((m : Int) = 0) := by omega
  have hz2 : ¬ ((i : Int) = (n : Int)) := by omega
  have hw1 : IntKind.i64.wrap ((i : Int) + (m : Int)) = (i : Int) + (m : Int) := by rw [IntKind.wrap_i64]; omega
  have hw2 : IntKind.i64.wrap ((n : Int) + (m : Int)) = (n : Int) + (m : Int) := by rw [IntKind.wrap_i64]; omega
  have hb1 : (0 : Int) ≤ (i : Int) + (m : Int) := by omega
  have hin : i ≤ n := by omega
  have htn : ((i : Int) + (m : Int)).toNat = i + m := by omega
  have htn2 : ((n : Int) + (m : Int)).toNat = n + m := by omega
  have hb2 : ¬ (c = i + m) := by omega
  have hb3 : (i : Int) ≤ (n : Int) + (m : Int) := by omega
  have hb4 : ¬ (c = i) := by omega
  have hb5 : ¬ ((c : Int) < (n : Int) + (m : Int)) := by omega
  have hb6 : (n : Int) + (m : Int) ≤ (c : Int) := by omega
  have hb7 : i + m ≤ n + m := by omega
  have mx := mixed
  have hW := hide hW1
  clear hW1 hR1 hX1 hR hX h1 h2
  go_enter Tryz.func47, Tryz.ntmps47
  go_wp2_with (simp only [hov])
  go_region_law_o (refine step_copy_at rfl _ _ 22 22 rfl _ _ (by simp [Act.eval, Act.put]) (by simp [Act.eval, Act.put]) (hcp1 _ _ _) ?_)
  go_wp2_with (at_builtin; refine wpList_copy_at _ rfl _ _ 22 22 rfl _ _ rfl rfl (hcp2 _ (fun _ => rfl) (fun _ => rfl) _ _) ?_)
  go_ret
  exact ⟨rfl, by rw [hW.out]⟩
set_option maxHeartbeats 4000000 in
set_option maxRecDepth 1000000 in
/-- There is no room, i < n: a new row. -/
theorem insV_grow (b n c i vb m vc : Nat) (g h : Nat → Value) (w : World) (hm0 : 0 < m) (hR : w.rowIs b 25 (c * 6) g) (hX : w.rowIs vb 25 (vc * 6) h) (hmv : m ≤ vc) (h1 : ∀ k, k < n * 6 → (g k).oneCell' = true) (h2 : ∀ k, k < m * 6 → (h k).oneCell' = true) (hi : i < n) (hnc : n ≤ c) (hroom : c < n + m) (hm : c ≤ 9223372036854775807) (hbig : (n + m) * 88 ≤ 140737488355328) :
    Calls Tryz.prog 47 #[.slice (some ⟨b, 0, none⟩) n c, .int .i64 i, .slice (some ⟨vb, 0, none⟩) m vc] w fun e w' => ∃ (G : Nat) (ROW : Array Value), n + m ≤ G ∧ G ≤ maxLen ∧ ROW.size = G * 6 ∧ (∀ k, k < i * 6 → ROW[k]? = some (g k)) ∧ e = .returned (.slice (some ⟨w.heap.size, 0, none⟩) (n + m) G) ∧
      w' = (((w.alloc (.cells ROW 25)).drew.setCells w.heap.size (i * 6) (tl 6 0 m h)).drew).setCells w.heap.size ((i + m) * 6) (tl 6 i n g) := by
  have t31 := Tryz.underlying22
  have tint := Tryz.underlying3
  have hsz : (Tryz.prog.info? 25).map (·.size) = some 6 := by kernel_rfl
  obtain ⟨i0, hi0, hzs, hzb, hz0⟩ : ∃ i0, Tryz.prog.info? 25 = some i0 ∧ i0.size = 6 ∧ i0.bytes = 88 ∧ i0.zero = some (.agg #[.int .i64 0, .bool false, .int .i64 0, .string ⟨#[]⟩, .slice none 0 0, .slice none 0 0]) := ⟨_, rfl, by kernel_rfl, by kernel_rfl, by kernel_rfl⟩
  have hbw : b < w.heap.size := by
    have := (row_cell hR (k := 0) (by omega)).1
    exact World.block_lt_of_cell? w ⟨b, 0, none⟩ this
  have hvw : vb < w.heap.size := by
    have := (row_cell hX (k := 0) (by omega)).1
    exact World.block_lt_of_cell? w ⟨vb, 0, none⟩ this
  have hkk : (n : Int) + (m : Int) - (i : Int) = ((n + m - i : Nat) : Int) := by omega
  have hik : i + (n + m - i) = n + m := by omega
  obtain ⟨hd, hhd⟩ : ∃ hd, hd = (List.range (i * 6)).map g := ⟨_, rfl⟩
  have hdl : hd.length = i * 6 := by rw [hhd]; simp
  have hold : (Builtin.firstCells i0.size i (.slice (some ⟨b, 0, none⟩) i c)).run Tryz.prog w.drew = .ok hd.toArray w.drew := by
    rw [hzs]
    exact run_firstCells_some w.drew 6 i ⟨b, 0, none⟩ i c hd hdl (fun j v hj => by
      have hlt := (List.getElem?_eq_some_iff.1 hj).1
      rw [hdl] at hlt
      rw [hhd, List.getElem?_map, List.getElem?_range hlt] at hj
      rw [Addr.add_lit]
      refine Eq.trans ?_ hj
      have := (row_cell hR (k := j) (by omega)).1
      simpa using this)
  have hrz : ∀ ty, (Builtin.append_ #[22, 3] ty #[.slice (some ⟨b, 0, none⟩) i c, .int .i64 ((n : Int) + (m : Int) - (i : Int))]).run Tryz.prog w =
      .ok (.slice (some ⟨w.heap.size, 0, none⟩) (n + m) (grownCap w (n + m) c 25)) (w.drew.alloc (.cells (hd.toArray ++ Builtin.zeroCells (Value.cells (.agg #[.int .i64 0, .bool false, .int .i64 0, .string ⟨#[]⟩, .slice none 0 0, .slice none 0 0])) (n + m - i) ++ Builtin.zeroCells (Value.cells (.agg #[.int .i64 0, .bool false, .int .i64 0, .string ⟨#[]⟩, .slice none 0 0, .slice none 0 0])) (grownCap w (n + m) c 25 - (n + m))) 25)) := fun ty => by
    have h := Lib.run_append_grow_zeros w 22 3 ty 25 i0 _ .i64 .i64 t31 tint hi0 hz0 (some ⟨b, 0, none⟩) i c hd hold (n + m - i) (by omega) (by omega) (by omega) (by omega) (by rw [hzb]; omega) (by rw [hzb, hik]; exact growslice_fits hroom hbig)
    rw [hik] at h
    rw [hkk]
    exact h
  obtain ⟨G, hG⟩ : ∃ G, G = grownCap w (n + m) c 25 := ⟨_, rfl⟩
  rw [← hG] at hrz
  have hGn : n + m ≤ G := by rw [hG]; exact grownCap_ge w _ _ _
  have hGm : G ≤ maxLen := by rw [hG]; exact grownCap_le_maxLen w (n + m) c 25 (by unfold maxLen; omega)
  have hG63 : G ≤ 9223372036854775807 := by unfold maxLen at hGm; omega
  obtain ⟨ROW, hROW⟩ : ∃ ROW : Array Value, ROW = hd.toArray ++ Builtin.zeroCells (Value.cells (.agg #[.int .i64 0, .bool false, .int .i64 0, .string ⟨#[]⟩, .slice none 0 0, .slice none 0 0])) (n + m - i) ++ Builtin.zeroCells (Value.cells (.agg #[.int .i64 0, .bool false, .int .i64 0, .string ⟨#[]⟩, .slice none 0 0, .slice none 0 0])) (G - (n + m)) := ⟨_, rfl⟩
  rw [← hROW] at hrz
  have hzc : (Value.cells (.agg #[.int .i64 0, .bool false, .int .i64 0, .string ⟨#[]⟩, .slice none 0 0, .slice none 0 0])).size = 6 := by kernel_rfl
  have hRs : ROW.size = G * 6 := by
    rw [hROW]
    simp only [Array.size_append, List.size_toArray, size_zeroCells, hzc, hdl]
    omega
  have hRg : ∀ k, k < i * 6 → ROW[k]? = some (g k) := fun k hk => by
    rw [hROW, Array.getElem?_append_left (by simp only [Array.size_append, List.size_toArray, hdl]; omega), Array.getElem?_append_left (by simp only [List.size_toArray, hdl]; omega), List.getElem?_toArray, hhd, List.getElem?_map, List.getElem?_range hk]
    rfl
  obtain ⟨W1, hW1⟩ : ∃ W1, W1 = w.drew.alloc (.cells ROW 25) := ⟨_, rfl⟩
  rw [← hW1] at hrz
  have hN1 : W1.rowIs w.heap.size 25 (G * 6) (fun k => ROW[k]?.getD default) := by
    have := World.rowIs_alloc w.drew ROW 25 (fun k => ROW[k]?.getD default) (fun k hk => by rw [Array.getElem?_eq_getElem hk]; rfl)
    rw [hRs] at this
    rw [hW1]
    exact this
  have hOb : ∀ j, j < c * 6 → W1.cell? ⟨b, j, none⟩ = some (g j) := fun j hj => by rw [hW1, World.cell?_alloc_past (w := w.drew) _ b j hbw]; exact (row_cell hR hj).1
  have hOv : ∀ j, j < vc * 6 → W1.cell? ⟨vb, j, none⟩ = some (h j) := fun j hj => by rw [hW1, World.cell?_alloc_past (w := w.drew) _ vb j hvw]; exact (row_cell hX hj).1
  have hcpA : ∀ (W : World), (∀ x, W.cell? x = W1.cell? x) → (∀ x, W.frozen? x = W1.frozen? x) → ∀ ty dc, (Builtin.copy_ #[22, 22] ty #[.slice (some ⟨w.heap.size, i * 6, none⟩) (n + m - i) dc, .slice (some ⟨vb, 0, none⟩) m vc]).run Tryz.prog W = .ok (goInt (Nat.min m (n + m - i))) (W.setCells w.heap.size (i * 6) (tl 6 0 m h)) := fun W hWc hWf ty dc =>
    run_copy_size W _ _ ty 25 6 w.heap.size _ _ _ ⟨vb, 0, none⟩ _ _ (tl 6 0 m h) t31 hsz (by rw [tl_len]; simp only [Nat.min_def]; split <;> omega)
      (fun j v hj => by
        have hlt := (List.getElem?_eq_some_iff.1 hj).1
        rw [tl_len] at hlt
        rw [tl_get _ _ _ _ hlt] at hj
        rw [Addr.add_lit, hWc]
        refine Eq.trans ?_ hj
        have := hOv (0 * 6 + j) (by omega)
        simpa using this)
      (fun j hj => by rw [tl_len] at hj; rw [hWc, (row_cell hN1 (k := i * 6 + j) (by omega)).1]; rfl)
      (fun j hj => by rw [tl_len] at hj; rw [hWf]; exact (row_cell hN1 (k := i * 6 + j) (by omega)).2)
      (fun v hv => by
        obtain ⟨t, ht, rfl⟩ := List.mem_map.1 hv
        exact h2 _ (by have := List.mem_range.1 ht; omega))
  have hbN : b ≠ w.heap.size := by omega
  obtain ⟨W2, hW2⟩ : ∃ W2, W2 = W1.setCells w.heap.size (i * 6) (tl 6 0 m h) := ⟨_, rfl⟩
  obtain ⟨g2, hN2⟩ : ∃ g2, W2.rowIs w.heap.size 25 (G * 6) g2 := ⟨_, by rw [hW2]; exact rowIs_setCells _ _ _ _ hN1⟩
  have hOb2 : ∀ j, j < c * 6 → W2.cell? ⟨b, j, none⟩ = some (g j) := fun j hj => by rw [hW2, World.cell?_setCells_out _ _ _ _ _ (fun h _ => absurd h hbN)]; exact hOb j hj
  have hcpB : ∀ (W : World), (∀ x, W.cell? x = W2.cell? x) → (∀ x, W.frozen? x = W2.frozen? x) → ∀ ty dc sc, (Builtin.copy_ #[22, 22] ty #[.slice (some ⟨w.heap.size, (i + m) * 6, none⟩) (n + m - (i + m)) dc, .slice (some ⟨b, i * 6, none⟩) (n - i) sc]).run Tryz.prog W = .ok (goInt (Nat.min (n - i) (n + m - (i + m)))) (W.setCells w.heap.size ((i + m) * 6) (tl 6 i n g)) := fun W hWc hWf ty dc sc =>
    run_copy_size W _ _ ty 25 6 w.heap.size _ _ _ ⟨b, i * 6, none⟩ _ _ (tl 6 i n g) t31 hsz (by rw [tl_len]; simp only [Nat.min_def]; split <;> omega)
      (fun j v hj => by
        have hlt := (List.getElem?_eq_some_iff.1 hj).1
        rw [tl_len] at hlt
        rw [tl_get _ _ _ _ hlt] at hj
        rw [Addr.add_lit, hWc]
        refine Eq.trans ?_ hj
        have := hOb2 (i * 6 + j) (by omega)
        simpa using this)
      (fun j hj => by rw [tl_len] at hj; rw [hWc, (row_cell hN2 (k := (i + m) * 6 + j) (by omega)).1]; rfl)
      (fun j hj => by rw [tl_len] at hj; rw [hWf]; exact (row_cell hN2 (k := (i + m) * 6 + j) (by omega)).2)
      (fun v hv => by
        obtain ⟨t, ht, rfl⟩ := List.mem_map.1 hv
        exact h1 _ (by have := List.mem_range.1 ht; omega))
  subst hW2
  subst hW1
  have hE1 : ∀ x, ((w.alloc (.cells ROW 25)).drew).cell? x = (w.drew.alloc (.cells ROW 25)).cell? x := fun x => rfl
  have hE2 : ∀ x, ((w.alloc (.cells ROW 25)).drew).frozen? x = (w.drew.alloc (.cells ROW 25)).frozen? x := fun x => rfl
  have hF1 : ∀ x, (((w.alloc (.cells ROW 25)).drew.setCells w.heap.size (i * 6) (tl 6 0 m h)).drew).cell? x = ((w.drew.alloc (.cells ROW 25)).setCells w.heap.size (i * 6) (tl 6 0 m h)).cell? x := fun x => rfl
  have hF2 : ∀ x, (((w.alloc (.cells ROW 25)).drew.setCells w.heap.size (i * 6) (tl 6 0 m h)).drew).frozen? x = ((w.drew.alloc (.cells ROW 25)).setCells w.heap.size (i * 6) (tl 6 0 m h)).frozen? x := fun x => rfl
  have hz1 : ¬ ((m : Int) = 0) := by omega
  have hz2 : ¬ ((i : Int) = (n : Int)) := by omega
  have hz3 : (c : Int) < (n : Int) + (m : Int) := by omega
  have hGi : ¬ (G = i) := by omega
  have hGim : ¬ (G = i + m) := by omega
  have hci : ¬ (c = i) := by omega
  have hw1 : IntKind.i64.wrap ((i : Int) + (m : Int)) = (i : Int) + (m : Int) := by rw [IntKind.wrap_i64]; omega
  have hw2 : IntKind.i64.wrap ((n : Int) + (m : Int)) = (n : Int) + (m : Int) := by rw [IntKind.wrap_i64]; omega
  have hw3 : IntKind.i64.wrap ((n : Int) + (m : Int) - (i : Int)) = (n : Int) + (m : Int) - (i : Int) := by rw [IntKind.wrap_i64]; omega
  have hb1 : (0 : Int) ≤ (i : Int) + (m : Int) := by omega
  have hin : i ≤ n := by omega
  have htn : ((i : Int) + (m : Int)).toNat = i + m := by omega
  have hb3 : (i : Int) ≤ (n : Int) := by omega
  have mx := mixed
  clear hkk hik hold hG hROW hN1 hN2 hOb hOb2 hOv hR hX h1 h2 hhd
  go_enter Tryz.func47, Tryz.ntmps47
  go_wp2_with (first
    | (at_builtin; refine Lib.wpList_append_run _ rfl _ _ _ _ rfl _ _ rfl rfl _ _ (hrz _) ?_)
    | (at_builtin; refine wpList_copy_at _ rfl _ _ 22 22 rfl _ _ rfl rfl (hcpA _ hE1 hE2 _ _) ?_)
    | (at_builtin; refine wpList_copy_at _ rfl _ _ 22 22 rfl _ _ rfl rfl (hcpB _ (fun _ => rfl) (fun _ => rfl) _ _ _) ?_))
  go_region_law_o (refine step_copy_at rfl _ _ 22 22 rfl (.slice (some ⟨w.heap.size, (i + m) * 6, none⟩) (n + m - (i + m)) (G - (i + m))) (.slice (some ⟨b, i * 6, none⟩) (n - i) (c - i)) (by simp [Act.eval, Act.put]) (by simp [Act.eval, Act.put]) (hcpB _ hF1 hF2 3 (G - (i + m)) (c - i)) ?_)
  go_wp2
  go_ret
  exact ⟨G, ROW, hGn, hGm, hRs, hRg, rfl, rfl⟩
set_option maxHeartbeats 4000000 in
set_option maxRecDepth 1000000 in
/-- There is room, i = n: in place. -/
theorem insV_endroom (b n c vb m vc : Nat) (g h : Nat → Value) (w : World) (hm0 : 0 < m) (hR : w.rowIs b 25 (c * 6) g) (hX : w.rowIs vb 25 (vc * 6) h) (hmv : m ≤ vc) (h2 : ∀ k, k < m * 6 → (h k).oneCell' = true) (hroom : n + m ≤ c) (hm : c ≤ 9223372036854775807) :
    Calls Tryz.prog 47 #[.slice (some ⟨b, 0, none⟩) n c, .int .i64 n, .slice (some ⟨vb, 0, none⟩) m vc] w fun e w' => e = .returned (.slice (some ⟨b, 0, none⟩) (n + m) c) ∧ w' = w.setCells b (n * 6) (tl 6 0 m h) := by
  have t31 := Tryz.underlying22
  obtain ⟨i0, hi0, hzs⟩ : ∃ i0, Tryz.prog.info? 25 = some i0 ∧ i0.size = 6 := ⟨_, rfl, by kernel_rfl⟩
  have hsrc : Src Tryz.prog i0.size 22 (.slice (some ⟨vb, 0, none⟩) m vc) m (tl 6 0 m h) w := by
    rw [hzs]
    exact Src.ofSlice w t31 ⟨vb, 0, none⟩ m vc (tl 6 0 m h) (by rw [tl_len]; omega) (fun j u hj => by
      have hlt := (List.getElem?_eq_some_iff.1 hj).1
      rw [tl_len] at hlt
      rw [tl_get _ _ _ _ hlt] at hj
      rw [Addr.add_lit]
      refine Eq.trans ?_ hj
      have := (row_cell hX (k := 0 * 6 + j) (by omega)).1
      simpa using this) (fun v hv => by
      obtain ⟨t, ht, rfl⟩ := List.mem_map.1 hv
      exact h2 _ (by have := List.mem_range.1 ht; omega))
  have hrun : ∀ ty, (Builtin.append_ #[22, 22] ty #[.slice (some ⟨b, 0, none⟩) n c, .slice (some ⟨vb, 0, none⟩) m vc]).run Tryz.prog w = .ok (.slice (some ⟨b, 0, none⟩) (n + m) c) (w.setCells b (n * 6) (tl 6 0 m h)) := fun ty => by
    have := run_append_room_src w 22 22 ty 25 i0 t31 hi0 b 0 n c _ m (tl 6 0 m h) hsrc hroom
      (fun j hj => by rw [tl_len] at hj; rw [hzs, (row_cell hR (k := 0 + n * 6 + j) (by omega)).1]; rfl)
      (fun j hj => by rw [tl_len] at hj; rw [hzs]; exact (row_cell hR (k := 0 + n * 6 + j) (by omega)).2)
    rw [hzs] at this
    simpa using this
  have hz1 : ¬ ((m : Int) = 0) := by omega
  have hnc : n ≤ c := by omega
  have mx := mixed
  clear hR hX hsrc h2
  go_enter Tryz.func47, Tryz.ntmps47
  go_wp2_with (at_builtin; refine Lib.wpList_append_run _ rfl _ _ _ _ rfl _ _ rfl rfl _ _ (hrun _) ?_)
  go_ret
  exact ⟨rfl, by first | rfl | simp only [Nat.mul_one]⟩
set_option maxHeartbeats 4000000 in
set_option maxRecDepth 1000000 in
/-- There is no room, i = n: a new row. -/
theorem insV_endgrow (b n c vb m vc : Nat) (g h : Nat → Value) (w : World) (hm0 : 0 < m) (hR : w.rowIs b 25 (c * 6) g) (hX : w.rowIs vb 25 (vc * 6) h) (hmv : m ≤ vc) (h2 : ∀ k, k < m * 6 → (h k).oneCell' = true) (hnc : n ≤ c) (hroom : c < n + m) (hbig : (n + m) * 88 ≤ 140737488355328) :
    Calls Tryz.prog 47 #[.slice (some ⟨b, 0, none⟩) n c, .int .i64 n, .slice (some ⟨vb, 0, none⟩) m vc] w fun e w' => ∃ (G : Nat) (ROW : Array Value), n + m ≤ G ∧ G ≤ maxLen ∧ ROW.size = G * 6 ∧ (∀ k, k < n * 6 → ROW[k]? = some (g k)) ∧ (∀ k, k < m * 6 → ROW[n * 6 + k]? = some (h k)) ∧ e = .returned (.slice (some ⟨w.heap.size, 0, none⟩) (n + m) G) ∧
      w' = w.drew.alloc (.cells ROW 25) := by
  have t31 := Tryz.underlying22
  obtain ⟨i0, hi0, hzs, hzb, hz0⟩ : ∃ i0, Tryz.prog.info? 25 = some i0 ∧ i0.size = 6 ∧ i0.bytes = 88 ∧ i0.zero = some (.agg #[.int .i64 0, .bool false, .int .i64 0, .string ⟨#[]⟩, .slice none 0 0, .slice none 0 0]) := ⟨_, rfl, by kernel_rfl, by kernel_rfl, by kernel_rfl⟩
  have hsrc : Src Tryz.prog i0.size 22 (.slice (some ⟨vb, 0, none⟩) m vc) m (tl 6 0 m h) w := by
    rw [hzs]
    exact Src.ofSlice w t31 ⟨vb, 0, none⟩ m vc (tl 6 0 m h) (by rw [tl_len]; omega) (fun j u hj => by
      have hlt := (List.getElem?_eq_some_iff.1 hj).1
      rw [tl_len] at hlt
      rw [tl_get _ _ _ _ hlt] at hj
      rw [Addr.add_lit]
      refine Eq.trans ?_ hj
      have := (row_cell hX (k := 0 * 6 + j) (by omega)).1
      simpa using this) (fun v hv => by
      obtain ⟨t, ht, rfl⟩ := List.mem_map.1 hv
      exact h2 _ (by have := List.mem_range.1 ht; omega))
  obtain ⟨hd, hhd⟩ : ∃ hd, hd = (List.range (n * 6)).map g := ⟨_, rfl⟩
  have hdl : hd.length = n * 6 := by rw [hhd]; simp
  have hold : (Builtin.firstCells i0.size n (.slice (some ⟨b, 0, none⟩) n c)).run Tryz.prog w.drew = .ok hd.toArray w.drew := by
    rw [hzs]
    exact run_firstCells_some w.drew 6 n ⟨b, 0, none⟩ n c hd hdl (fun j v hj => by
      have hlt := (List.getElem?_eq_some_iff.1 hj).1
      rw [hdl] at hlt
      rw [hhd, List.getElem?_map, List.getElem?_range hlt] at hj
      rw [Addr.add_lit]
      refine Eq.trans ?_ hj
      have := (row_cell hR (k := j) (by omega)).1
      simpa using this)
  have hrz : ∀ ty, (Builtin.append_ #[22, 22] ty #[.slice (some ⟨b, 0, none⟩) n c, .slice (some ⟨vb, 0, none⟩) m vc]).run Tryz.prog w = _ := fun ty =>
    run_append_grow_src w 22 22 ty 25 i0 _ t31 hi0 hz0 (some ⟨b, 0, none⟩) n c hd hold _ m (tl 6 0 m h) hsrc hroom (by omega) (by rw [hzb]; exact growslice_fits hroom hbig)
  obtain ⟨G, hG⟩ : ∃ G, G = grownCap w (n + m) c 25 := ⟨_, rfl⟩
  rw [← hG] at hrz
  have hGn : n + m ≤ G := by rw [hG]; exact grownCap_ge w _ _ _
  have hGm : G ≤ maxLen := by rw [hG]; exact grownCap_le_maxLen w (n + m) c 25 (by unfold maxLen; omega)
  obtain ⟨ROW, hROW⟩ : ∃ ROW : Array Value, ROW = (hd ++ tl 6 0 m h).toArray ++ Builtin.zeroCells (Value.cells (.agg #[.int .i64 0, .bool false, .int .i64 0, .string ⟨#[]⟩, .slice none 0 0, .slice none 0 0])) (G - (n + m)) := ⟨_, rfl⟩
  rw [← hROW] at hrz
  have hzc : (Value.cells (.agg #[.int .i64 0, .bool false, .int .i64 0, .string ⟨#[]⟩, .slice none 0 0, .slice none 0 0])).size = 6 := by kernel_rfl
  have hRs : ROW.size = G * 6 := by
    rw [hROW]
    simp only [Array.size_append, List.size_toArray, size_zeroCells, hzc, List.length_append, tl_len, hdl]
    omega
  have hRg : ∀ k, k < n * 6 → ROW[k]? = some (g k) := fun k hk => by
    rw [hROW, Array.getElem?_append_left (by simp only [List.size_toArray, List.length_append, hdl]; omega), List.getElem?_toArray, List.getElem?_append_left (by rw [hdl]; omega), hhd, List.getElem?_map, List.getElem?_range hk]
    rfl
  have hRh : ∀ k, k < m * 6 → ROW[n * 6 + k]? = some (h k) := fun k hk => by
    rw [hROW, Array.getElem?_append_left (by simp only [List.size_toArray, List.length_append, tl_len, hdl]; omega), List.getElem?_toArray, List.getElem?_append_right (by rw [hdl]; omega), hdl, Nat.add_sub_cancel_left, tl_get _ _ _ _ (by omega)]
    simp
  have hz1 : ¬ ((m : Int) = 0) := by omega
  have mx := mixed
  clear hR hX hsrc h2 hold hG hROW hhd
  go_enter Tryz.func47, Tryz.ntmps47
  go_wp2_with (at_builtin; refine Lib.wpList_append_run _ rfl _ _ _ _ rfl _ _ rfl rfl _ _ (hrz _) ?_)
  all_goals (go_ret; exact ⟨G, hGn, hGm, ROW, by simpa using hRs, by simpa using hRg, by simpa using hRh, rfl, rfl⟩)
set_option maxHeartbeats 4000000 in
set_option maxRecDepth 1000000 in
/-- There is no room, the nil slice: a new row. -/
theorem insV_endnil (vb m vc : Nat) (h : Nat → Value) (w : World) (hm0 : 0 < m) (hX : w.rowIs vb 25 (vc * 6) h) (hmv : m ≤ vc) (h2 : ∀ k, k < m * 6 → (h k).oneCell' = true) (hbig : m * 88 ≤ 140737488355328) :
    Calls Tryz.prog 47 #[.slice none 0 0, .int .i64 0, .slice (some ⟨vb, 0, none⟩) m vc] w fun e w' => ∃ (G : Nat) (ROW : Array Value), m ≤ G ∧ G ≤ maxLen ∧ ROW.size = G * 6 ∧ (∀ k, k < m * 6 → ROW[k]? = some (h k)) ∧ e = .returned (.slice (some ⟨w.heap.size, 0, none⟩) m G) ∧
      w' = w.drew.alloc (.cells ROW 25) := by
  have t31 := Tryz.underlying22
  obtain ⟨i0, hi0, hzs, hzb, hz0⟩ : ∃ i0, Tryz.prog.info? 25 = some i0 ∧ i0.size = 6 ∧ i0.bytes = 88 ∧ i0.zero = some (.agg #[.int .i64 0, .bool false, .int .i64 0, .string ⟨#[]⟩, .slice none 0 0, .slice none 0 0]) := ⟨_, rfl, by kernel_rfl, by kernel_rfl, by kernel_rfl⟩
  have hsrc : Src Tryz.prog i0.size 22 (.slice (some ⟨vb, 0, none⟩) m vc) m (tl 6 0 m h) w := by
    rw [hzs]
    exact Src.ofSlice w t31 ⟨vb, 0, none⟩ m vc (tl 6 0 m h) (by rw [tl_len]; omega) (fun j u hj => by
      have hlt := (List.getElem?_eq_some_iff.1 hj).1
      rw [tl_len] at hlt
      rw [tl_get _ _ _ _ hlt] at hj
      rw [Addr.add_lit]
      refine Eq.trans ?_ hj
      have := (row_cell hX (k := 0 * 6 + j) (by omega)).1
      simpa using this) (fun v hv => by
      obtain ⟨t, ht, rfl⟩ := List.mem_map.1 hv
      exact h2 _ (by have := List.mem_range.1 ht; omega))
  have hold : (Builtin.firstCells i0.size 0 (.slice none 0 0)).run Tryz.prog w.drew = .ok ([] : List Value).toArray w.drew := by
    rw [hzs]
    exact run_firstCells_none w.drew 6 0 0 0
  have hrz : ∀ ty, (Builtin.append_ #[22, 22] ty #[.slice none 0 0, .slice (some ⟨vb, 0, none⟩) m vc]).run Tryz.prog w = _ := fun ty =>
    run_append_grow_src w 22 22 ty 25 i0 _ t31 hi0 hz0 none 0 0 [] hold _ m (tl 6 0 m h) hsrc (by omega) (by omega) (by rw [hzb]; exact growslice_fits (by omega) (by omega))
  simp only [Nat.zero_add, List.nil_append] at hrz
  obtain ⟨G, hG⟩ : ∃ G, G = grownCap w m 0 25 := ⟨_, rfl⟩
  rw [← hG] at hrz
  have hGn : m ≤ G := by rw [hG]; exact grownCap_ge w _ _ _
  have hGm : G ≤ maxLen := by rw [hG]; exact grownCap_le_maxLen w m 0 25 (by unfold maxLen; omega)
  obtain ⟨ROW, hROW⟩ : ∃ ROW : Array Value, ROW = (tl 6 0 m h).toArray ++ Builtin.zeroCells (Value.cells (.agg #[.int .i64 0, .bool false, .int .i64 0, .string ⟨#[]⟩, .slice none 0 0, .slice none 0 0])) (G - m) := ⟨_, rfl⟩
  rw [← hROW] at hrz
  have hzc : (Value.cells (.agg #[.int .i64 0, .bool false, .int .i64 0, .string ⟨#[]⟩, .slice none 0 0, .slice none 0 0])).size = 6 := by kernel_rfl
  have hRs : ROW.size = G * 6 := by
    rw [hROW]
    simp only [Array.size_append, List.size_toArray, size_zeroCells, hzc, tl_len]
    omega
  have hRh : ∀ k, k < m * 6 → ROW[k]? = some (h k) := fun k hk => by
    rw [hROW, Array.getElem?_append_left (by simp only [List.size_toArray, tl_len]; omega), List.getElem?_toArray, tl_get _ _ _ _ (by omega)]
    simp
  have hz1 : ¬ ((m : Int) = 0) := by omega
  have mx := mixed
  clear hX hsrc h2 hold hG hROW
  go_enter Tryz.func47, Tryz.ntmps47
  go_wp2_with (at_builtin; refine Lib.wpList_append_run _ rfl _ _ _ _ rfl _ _ rfl rfl _ _ (hrz _) ?_)
  all_goals (go_ret; first | exact ⟨G, ROW, hGn, hGm, by simpa using hRs, by simpa using hRh, rfl, rfl⟩ | exact ⟨G, hGn, hGm, ROW, by simpa using hRs, by simpa using hRh, rfl, rfl⟩)
set_option maxHeartbeats 4000000 in
set_option maxRecDepth 1000000 in
/-- There is room, i < n: in place. -/
theorem insS_shift (b n c i vb m vc : Nat) (g h : Nat → Value) (w : World) (hm0 : 0 < m) (hR : w.rowIs b 9 (c * 1) g) (hX : w.rowIs vb 9 (vc * 1) h) (hmv : m ≤ vc) (hvb : vb ≠ b) (h1 : ∀ k, k < n * 1 → (g k).oneCell' = true) (h2 : ∀ k, k < m * 1 → (h k).oneCell' = true) (hi : i < n) (hroom : n + m ≤ c) (hm : c ≤ 9223372036854775807) :
    Calls Tryz.prog 46 #[.slice (some ⟨b, 0, none⟩) n c, .int .i64 i, .slice (some ⟨vb, 0, none⟩) m vc] w fun e w' => e = .returned (.slice (some ⟨b, 0, none⟩) (n + m) c) ∧ w' = (w.drew.setCells b (i + m) (tl 1 i n g)).setCells b (i) (tl 1 0 m h) := by
  have t31 := Tryz.underlying23
  have hsz : (Tryz.prog.info? 9).map (·.size) = some 1 := by kernel_rfl
  have hov : ∀ lb cb, (callFunc 71 #[.slice (some ⟨vb, 0, none⟩) m vc, .slice (some ⟨b, i + m, none⟩) lb cb]).run Tryz.prog w = .ok (.value (.bool false)) w := fun lb cb => by
    obtain ⟨ca, q1, q2, q3⟩ := hX
    obtain ⟨cb', r1, r2, r3⟩ := hR
    rw [run_callFunc_extern Tryz.func71 (by kernel_rfl) (by kernel_rfl) (by kernel_rfl) (e := Extern.SlicesOverlaps.overlaps #[23, 23] #[4]) (by kernel_rfl),
      Lib.run_overlaps_apart w 23 4 9 t31 1 (fun w => by kernel_rfl) ⟨vb, 0, none⟩ ⟨b, i + m, none⟩ m vc lb cb hvb 9 9 (vc * 1) (c * 1) (by simp [World.shape?, q1, q2]) (by simp [World.shape?, r1, r2]) (by omega) (by simp [World.frozen?, q1]) (by simp [World.frozen?, q1])]
    rfl
  have hcp1 : ∀ ty dc sc, (Builtin.copy_ #[23, 23] ty #[.slice (some ⟨b, i + m, none⟩) (n + m - (i + m)) dc, .slice (some ⟨b, i, none⟩) (n + m - i) sc]).run Tryz.prog w.drew = .ok (goInt (Nat.min (n + m - i) (n + m - (i + m)))) (w.drew.setCells b (i + m) (tl 1 i n g)) := fun ty dc sc =>
    run_copy_size w.drew _ _ ty 9 1 b _ _ _ ⟨b, i, none⟩ _ _ (tl 1 i n g) t31 hsz (by rw [tl_len]; simp only [Nat.min_def]; split <;> omega)
      (fun j v hj => by
        have hlt := (List.getElem?_eq_some_iff.1 hj).1
        rw [tl_len] at hlt
        rw [tl_get _ _ _ _ hlt] at hj
        rw [Addr.add_lit]
        refine Eq.trans ?_ hj
        have := (row_cell hR (k := i * 1 + j) (by omega)).1
        simpa using this)
      (fun j hj => by rw [tl_len] at hj; have := (row_cell hR (k := i + m + j) (by omega)).1; show (w.cell? _).isSome = true; rw [this]; rfl)
      (fun j hj => by rw [tl_len] at hj; exact (row_cell hR (k := i + m + j) (by omega)).2)
      (fun v hv => by
        obtain ⟨t, ht, rfl⟩ := List.mem_map.1 hv
        exact h1 _ (by have := List.mem_range.1 ht; omega))
  obtain ⟨W1, hW1⟩ : ∃ W1, W1 = w.drew.setCells b (i + m) (tl 1 i n g) := ⟨_, rfl⟩
  obtain ⟨g1, hR1⟩ : ∃ g1, W1.rowIs b 9 (c * 1) g1 := ⟨_, by rw [hW1]; exact rowIs_setCells _ _ _ _ (row_drew hR)⟩
  have hX1 : W1.rowIs vb 9 (vc * 1) h := by rw [hW1]; exact rowIs_setCells_other hvb _ _ _ (row_drew hX)
  have hcp2 : ∀ (W : World), (∀ x, W.cell? x = W1.cell? x) → (∀ x, W.frozen? x = W1.frozen? x) → ∀ ty dc, (Builtin.copy_ #[23, 23] ty #[.slice (some ⟨b, i, none⟩) (n + m - i) dc, .slice (some ⟨vb, 0, none⟩) m vc]).run Tryz.prog W = .ok (goInt (Nat.min m (n + m - i))) (W.setCells b (i) (tl 1 0 m h)) := fun W hWc hWf ty dc =>
    run_copy_size W _ _ ty 9 1 b _ _ _ ⟨vb, 0, none⟩ _ _ (tl 1 0 m h) t31 hsz (by rw [tl_len]; simp only [Nat.min_def]; split <;> omega)
      (fun j v hj => by
        have hlt := (List.getElem?_eq_some_iff.1 hj).1
        rw [tl_len] at hlt
        rw [tl_get _ _ _ _ hlt] at hj
        rw [Addr.add_lit, hWc]
        refine Eq.trans ?_ hj
        have := (row_cell hX1 (k := 0 * 1 + j) (by omega)).1
        simpa using this)
      (fun j hj => by rw [tl_len] at hj; rw [hWc, (row_cell hR1 (k := i + j) (by omega)).1]; rfl)
      (fun j hj => by rw [tl_len] at hj; rw [hWf]; exact (row_cell hR1 (k := i + j) (by omega)).2)
      (fun v hv => by
        obtain ⟨t, ht, rfl⟩ := List.mem_map.1 hv
        exact h2 _ (by have := List.mem_range.1 ht; omega))
  rw [← hW1] at hcp1
  have hz1 : ¬ ((m : Int) = 0) := by omega
  have hz2 : ¬ ((i : Int) = (n : Int)) := by omega
  have hw1 : IntKind.i64.wrap ((i : Int) + (m : Int)) = (i : Int) + (m : Int) := by rw [IntKind.wrap_i64]; omega
  have hw2 : IntKind.i64.wrap ((n : Int) + (m : Int)) = (n : Int) + (m : Int) := by rw [IntKind.wrap_i64]; omega
  have hb1 : (0 : Int) ≤ (i : Int) + (m : Int) := by omega
  have hin : i ≤ n := by omega
  have htn : ((i : Int) + (m : Int)).toNat = i + m := by omega
  have htn2 : ((n : Int) + (m : Int)).toNat = n + m := by omega
  have hb2 : ¬ (c = i + m) := by omega
  have hb3 : (i : Int) ≤ (n : Int) + (m : Int) := by omega
  have hb4 : ¬ (c = i) := by omega
  have hb5 : ¬ ((c : Int) < (n : Int) + (m : Int)) := by omega
  have hb6 : (n : Int) + (m : Int) ≤ (c : Int) := by omega
  have hb7 : i + m ≤ n + m := by omega
  have mx := mixed
  have hW := hide hW1
  clear hW1 hR1 hX1 hR hX h1 h2
  go_enter Tryz.func46, Tryz.ntmps46
  go_wp2_with (simp only [hov])
  go_region_law_o (refine step_copy_at rfl _ _ 23 23 rfl _ _ (by simp [Act.eval, Act.put]) (by simp [Act.eval, Act.put]) (hcp1 _ _ _) ?_)
  go_wp2_with (at_builtin; refine wpList_copy_at _ rfl _ _ 23 23 rfl _ _ rfl rfl (hcp2 _ (fun _ => rfl) (fun _ => rfl) _ _) ?_)
  go_ret
  exact ⟨rfl, by rw [hW.out]⟩
set_option maxHeartbeats 4000000 in
set_option maxRecDepth 1000000 in
/-- There is no room, i < n: a new row. -/
theorem insS_grow (b n c i vb m vc : Nat) (g h : Nat → Value) (w : World) (hm0 : 0 < m) (hR : w.rowIs b 9 (c * 1) g) (hX : w.rowIs vb 9 (vc * 1) h) (hmv : m ≤ vc) (h1 : ∀ k, k < n * 1 → (g k).oneCell' = true) (h2 : ∀ k, k < m * 1 → (h k).oneCell' = true) (hi : i < n) (hnc : n ≤ c) (hroom : c < n + m) (hm : c ≤ 9223372036854775807) (hbig : (n + m) * 16 ≤ 140737488355328) :
    Calls Tryz.prog 46 #[.slice (some ⟨b, 0, none⟩) n c, .int .i64 i, .slice (some ⟨vb, 0, none⟩) m vc] w fun e w' => ∃ (G : Nat) (ROW : Array Value), n + m ≤ G ∧ G ≤ maxLen ∧ ROW.size = G * 1 ∧ (∀ k, k < i * 1 → ROW[k]? = some (g k)) ∧ e = .returned (.slice (some ⟨w.heap.size, 0, none⟩) (n + m) G) ∧
      w' = (((w.alloc (.cells ROW 9)).drew.setCells w.heap.size (i) (tl 1 0 m h)).drew).setCells w.heap.size (i + m) (tl 1 i n g) := by
  have t31 := Tryz.underlying23
  have tint := Tryz.underlying3
  have hsz : (Tryz.prog.info? 9).map (·.size) = some 1 := by kernel_rfl
  obtain ⟨i0, hi0, hzs, hzb, hz0⟩ : ∃ i0, Tryz.prog.info? 9 = some i0 ∧ i0.size = 1 ∧ i0.bytes = 16 ∧ i0.zero = some (.string ⟨#[]⟩) := ⟨_, rfl, by kernel_rfl, by kernel_rfl, by kernel_rfl⟩
  have hbw : b < w.heap.size := by
    have := (row_cell hR (k := 0) (by omega)).1
    exact World.block_lt_of_cell? w ⟨b, 0, none⟩ this
  have hvw : vb < w.heap.size := by
    have := (row_cell hX (k := 0) (by omega)).1
    exact World.block_lt_of_cell? w ⟨vb, 0, none⟩ this
  have hkk : (n : Int) + (m : Int) - (i : Int) = ((n + m - i : Nat) : Int) := by omega
  have hik : i + (n + m - i) = n + m := by omega
  obtain ⟨hd, hhd⟩ : ∃ hd, hd = (List.range (i * 1)).map g := ⟨_, rfl⟩
  have hdl : hd.length = i * 1 := by rw [hhd]; simp
  have hold : (Builtin.firstCells i0.size i (.slice (some ⟨b, 0, none⟩) i c)).run Tryz.prog w.drew = .ok hd.toArray w.drew := by
    rw [hzs]
    exact run_firstCells_some w.drew 1 i ⟨b, 0, none⟩ i c hd hdl (fun j v hj => by
      have hlt := (List.getElem?_eq_some_iff.1 hj).1
      rw [hdl] at hlt
      rw [hhd, List.getElem?_map, List.getElem?_range hlt] at hj
      rw [Addr.add_lit]
      refine Eq.trans ?_ hj
      have := (row_cell hR (k := j) (by omega)).1
      simpa using this)
  have hrz : ∀ ty, (Builtin.append_ #[23, 3] ty #[.slice (some ⟨b, 0, none⟩) i c, .int .i64 ((n : Int) + (m : Int) - (i : Int))]).run Tryz.prog w =
      .ok (.slice (some ⟨w.heap.size, 0, none⟩) (n + m) (grownCap w (n + m) c 9)) (w.drew.alloc (.cells (hd.toArray ++ Builtin.zeroCells (Value.cells (.string ⟨#[]⟩)) (n + m - i) ++ Builtin.zeroCells (Value.cells (.string ⟨#[]⟩)) (grownCap w (n + m) c 9 - (n + m))) 9)) := fun ty => by
    have h := Lib.run_append_grow_zeros w 23 3 ty 9 i0 _ .i64 .i64 t31 tint hi0 hz0 (some ⟨b, 0, none⟩) i c hd hold (n + m - i) (by omega) (by omega) (by omega) (by omega) (by rw [hzb]; omega) (by rw [hzb, hik]; exact growslice_fits hroom hbig)
    rw [hik] at h
    rw [hkk]
    exact h
  obtain ⟨G, hG⟩ : ∃ G, G = grownCap w (n + m) c 9 := ⟨_, rfl⟩
  rw [← hG] at hrz
  have hGn : n + m ≤ G := by rw [hG]; exact grownCap_ge w _ _ _
  have hGm : G ≤ maxLen := by rw [hG]; exact grownCap_le_maxLen w (n + m) c 9 (by unfold maxLen; omega)
  have hG63 : G ≤ 9223372036854775807 := by unfold maxLen at hGm; omega
  obtain ⟨ROW, hROW⟩ : ∃ ROW : Array Value, ROW = hd.toArray ++ Builtin.zeroCells (Value.cells (.string ⟨#[]⟩)) (n + m - i) ++ Builtin.zeroCells (Value.cells (.string ⟨#[]⟩)) (G - (n + m)) := ⟨_, rfl⟩
  rw [← hROW] at hrz
  have hzc : (Value.cells (.string ⟨#[]⟩)).size = 1 := by kernel_rfl
  have hRs : ROW.size = G * 1 := by
    rw [hROW]
    simp only [Array.size_append, List.size_toArray, size_zeroCells, hzc, hdl]
    omega
  have hRg : ∀ k, k < i * 1 → ROW[k]? = some (g k) := fun k hk => by
    rw [hROW, Array.getElem?_append_left (by simp only [Array.size_append, List.size_toArray, hdl]; omega), Array.getElem?_append_left (by simp only [List.size_toArray, hdl]; omega), List.getElem?_toArray, hhd, List.getElem?_map, List.getElem?_range hk]
    rfl
  obtain ⟨W1, hW1⟩ : ∃ W1, W1 = w.drew.alloc (.cells ROW 9) := ⟨_, rfl⟩
  rw [← hW1] at hrz
  have hN1 : W1.rowIs w.heap.size 9 (G * 1) (fun k => ROW[k]?.getD default) := by
    have := World.rowIs_alloc w.drew ROW 9 (fun k => ROW[k]?.getD default) (fun k hk => by rw [Array.getElem?_eq_getElem hk]; rfl)
    rw [hRs] at this
    rw [hW1]
    exact this
  have hOb : ∀ j, j < c * 1 → W1.cell? ⟨b, j, none⟩ = some (g j) := fun j hj => by rw [hW1, World.cell?_alloc_past (w := w.drew) _ b j hbw]; exact (row_cell hR hj).1
  have hOv : ∀ j, j < vc * 1 → W1.cell? ⟨vb, j, none⟩ = some (h j) := fun j hj => by rw [hW1, World.cell?_alloc_past (w := w.drew) _ vb j hvw]; exact (row_cell hX hj).1
  have hcpA : ∀ (W : World), (∀ x, W.cell? x = W1.cell? x) → (∀ x, W.frozen? x = W1.frozen? x) → ∀ ty dc, (Builtin.copy_ #[23, 23] ty #[.slice (some ⟨w.heap.size, i, none⟩) (n + m - i) dc, .slice (some ⟨vb, 0, none⟩) m vc]).run Tryz.prog W = .ok (goInt (Nat.min m (n + m - i))) (W.setCells w.heap.size (i) (tl 1 0 m h)) := fun W hWc hWf ty dc =>
    run_copy_size W _ _ ty 9 1 w.heap.size _ _ _ ⟨vb, 0, none⟩ _ _ (tl 1 0 m h) t31 hsz (by rw [tl_len]; simp only [Nat.min_def]; split <;> omega)
      (fun j v hj => by
        have hlt := (List.getElem?_eq_some_iff.1 hj).1
        rw [tl_len] at hlt
        rw [tl_get _ _ _ _ hlt] at hj
        rw [Addr.add_lit, hWc]
        refine Eq.trans ?_ hj
        have := hOv (0 * 1 + j) (by omega)
        simpa using this)
      (fun j hj => by rw [tl_len] at hj; rw [hWc, (row_cell hN1 (k := i + j) (by omega)).1]; rfl)
      (fun j hj => by rw [tl_len] at hj; rw [hWf]; exact (row_cell hN1 (k := i + j) (by omega)).2)
      (fun v hv => by
        obtain ⟨t, ht, rfl⟩ := List.mem_map.1 hv
        exact h2 _ (by have := List.mem_range.1 ht; omega))
  have hbN : b ≠ w.heap.size := by omega
  obtain ⟨W2, hW2⟩ : ∃ W2, W2 = W1.setCells w.heap.size (i) (tl 1 0 m h) := ⟨_, rfl⟩
  obtain ⟨g2, hN2⟩ : ∃ g2, W2.rowIs w.heap.size 9 (G * 1) g2 := ⟨_, by rw [hW2]; exact rowIs_setCells _ _ _ _ hN1⟩
  have hOb2 : ∀ j, j < c * 1 → W2.cell? ⟨b, j, none⟩ = some (g j) := fun j hj => by rw [hW2, World.cell?_setCells_out _ _ _ _ _ (fun h _ => absurd h hbN)]; exact hOb j hj
  have hcpB : ∀ (W : World), (∀ x, W.cell? x = W2.cell? x) → (∀ x, W.frozen? x = W2.frozen? x) → ∀ ty dc sc, (Builtin.copy_ #[23, 23] ty #[.slice (some ⟨w.heap.size, i + m, none⟩) (n + m - (i + m)) dc, .slice (some ⟨b, i, none⟩) (n - i) sc]).run Tryz.prog W = .ok (goInt (Nat.min (n - i) (n + m - (i + m)))) (W.setCells w.heap.size (i + m) (tl 1 i n g)) := fun W hWc hWf ty dc sc =>
    run_copy_size W _ _ ty 9 1 w.heap.size _ _ _ ⟨b, i, none⟩ _ _ (tl 1 i n g) t31 hsz (by rw [tl_len]; simp only [Nat.min_def]; split <;> omega)
      (fun j v hj => by
        have hlt := (List.getElem?_eq_some_iff.1 hj).1
        rw [tl_len] at hlt
        rw [tl_get _ _ _ _ hlt] at hj
        rw [Addr.add_lit, hWc]
        refine Eq.trans ?_ hj
        have := hOb2 (i * 1 + j) (by omega)
        simpa using this)
      (fun j hj => by rw [tl_len] at hj; rw [hWc, (row_cell hN2 (k := i + m + j) (by omega)).1]; rfl)
      (fun j hj => by rw [tl_len] at hj; rw [hWf]; exact (row_cell hN2 (k := i + m + j) (by omega)).2)
      (fun v hv => by
        obtain ⟨t, ht, rfl⟩ := List.mem_map.1 hv
        exact h1 _ (by have := List.mem_range.1 ht; omega))
  subst hW2
  subst hW1
  have hE1 : ∀ x, ((w.alloc (.cells ROW 9)).drew).cell? x = (w.drew.alloc (.cells ROW 9)).cell? x := fun x => rfl
  have hE2 : ∀ x, ((w.alloc (.cells ROW 9)).drew).frozen? x = (w.drew.alloc (.cells ROW 9)).frozen? x := fun x => rfl
  have hF1 : ∀ x, (((w.alloc (.cells ROW 9)).drew.setCells w.heap.size (i) (tl 1 0 m h)).drew).cell? x = ((w.drew.alloc (.cells ROW 9)).setCells w.heap.size (i) (tl 1 0 m h)).cell? x := fun x => rfl
  have hF2 : ∀ x, (((w.alloc (.cells ROW 9)).drew.setCells w.heap.size (i) (tl 1 0 m h)).drew).frozen? x = ((w.drew.alloc (.cells ROW 9)).setCells w.heap.size (i) (tl 1 0 m h)).frozen? x := fun x => rfl
  have hz1 : ¬ ((m : Int) = 0) := by omega
  have hz2 : ¬ ((i : Int) = (n : Int)) := by omega
  have hz3 : (c : Int) < (n : Int) + (m : Int) := by omega
  have hGi : ¬ (G = i) := by omega
  have hGim : ¬ (G = i + m) := by omega
  have hci : ¬ (c = i) := by omega
  have hw1 : IntKind.i64.wrap ((i : Int) + (m : Int)) = (i : Int) + (m : Int) := by rw [IntKind.wrap_i64]; omega
  have hw2 : IntKind.i64.wrap ((n : Int) + (m : Int)) = (n : Int) + (m : Int) := by rw [IntKind.wrap_i64]; omega
  have hw3 : IntKind.i64.wrap ((n : Int) + (m : Int) - (i : Int)) = (n : Int) + (m : Int) - (i : Int) := by rw [IntKind.wrap_i64]; omega
  have hb1 : (0 : Int) ≤ (i : Int) + (m : Int) := by omega
  have hin : i ≤ n := by omega
  have htn : ((i : Int) + (m : Int)).toNat = i + m := by omega
  have hb3 : (i : Int) ≤ (n : Int) := by omega
  have mx := mixed
  clear hkk hik hold hG hROW hN1 hN2 hOb hOb2 hOv hR hX h1 h2 hhd
  go_enter Tryz.func46, Tryz.ntmps46
  go_wp2_with (first
    | (at_builtin; refine Lib.wpList_append_run _ rfl _ _ _ _ rfl _ _ rfl rfl _ _ (hrz _) ?_)
    | (at_builtin; refine wpList_copy_at _ rfl _ _ 23 23 rfl _ _ rfl rfl (hcpA _ hE1 hE2 _ _) ?_)
    | (at_builtin; refine wpList_copy_at _ rfl _ _ 23 23 rfl _ _ rfl rfl (hcpB _ (fun _ => rfl) (fun _ => rfl) _ _ _) ?_))
  go_region_law_o (refine step_copy_at rfl _ _ 23 23 rfl (.slice (some ⟨w.heap.size, i + m, none⟩) (n + m - (i + m)) (G - (i + m))) (.slice (some ⟨b, i, none⟩) (n - i) (c - i)) (by simp [Act.eval, Act.put]) (by simp [Act.eval, Act.put]) (hcpB _ hF1 hF2 3 (G - (i + m)) (c - i)) ?_)
  go_wp2
  go_ret
  exact ⟨G, ROW, hGn, hGm, hRs, hRg, rfl, rfl⟩
set_option maxHeartbeats 4000000 in
set_option maxRecDepth 1000000 in
/-- There is room, i = n: in place. -/
theorem insS_endroom (b n c vb m vc : Nat) (g h : Nat → Value) (w : World) (hm0 : 0 < m) (hR : w.rowIs b 9 (c * 1) g) (hX : w.rowIs vb 9 (vc * 1) h) (hmv : m ≤ vc) (h2 : ∀ k, k < m * 1 → (h k).oneCell' = true) (hroom : n + m ≤ c) (hm : c ≤ 9223372036854775807) :
    Calls Tryz.prog 46 #[.slice (some ⟨b, 0, none⟩) n c, .int .i64 n, .slice (some ⟨vb, 0, none⟩) m vc] w fun e w' => e = .returned (.slice (some ⟨b, 0, none⟩) (n + m) c) ∧ w' = w.setCells b (n * 1) (tl 1 0 m h) := by
  have t31 := Tryz.underlying23
  obtain ⟨i0, hi0, hzs⟩ : ∃ i0, Tryz.prog.info? 9 = some i0 ∧ i0.size = 1 := ⟨_, rfl, by kernel_rfl⟩
  have hsrc : Src Tryz.prog i0.size 23 (.slice (some ⟨vb, 0, none⟩) m vc) m (tl 1 0 m h) w := by
    rw [hzs]
    exact Src.ofSlice w t31 ⟨vb, 0, none⟩ m vc (tl 1 0 m h) (by rw [tl_len]; omega) (fun j u hj => by
      have hlt := (List.getElem?_eq_some_iff.1 hj).1
      rw [tl_len] at hlt
      rw [tl_get _ _ _ _ hlt] at hj
      rw [Addr.add_lit]
      refine Eq.trans ?_ hj
      have := (row_cell hX (k := 0 * 1 + j) (by omega)).1
      simpa using this) (fun v hv => by
      obtain ⟨t, ht, rfl⟩ := List.mem_map.1 hv
      exact h2 _ (by have := List.mem_range.1 ht; omega))
  have hrun : ∀ ty, (Builtin.append_ #[23, 23] ty #[.slice (some ⟨b, 0, none⟩) n c, .slice (some ⟨vb, 0, none⟩) m vc]).run Tryz.prog w = .ok (.slice (some ⟨b, 0, none⟩) (n + m) c) (w.setCells b (n * 1) (tl 1 0 m h)) := fun ty => by
    have := run_append_room_src w 23 23 ty 9 i0 t31 hi0 b 0 n c _ m (tl 1 0 m h) hsrc hroom
      (fun j hj => by rw [tl_len] at hj; rw [hzs, (row_cell hR (k := 0 + n * 1 + j) (by omega)).1]; rfl)
      (fun j hj => by rw [tl_len] at hj; rw [hzs]; exact (row_cell hR (k := 0 + n * 1 + j) (by omega)).2)
    rw [hzs] at this
    simpa using this
  have hz1 : ¬ ((m : Int) = 0) := by omega
  have hnc : n ≤ c := by omega
  have mx := mixed
  clear hR hX hsrc h2
  go_enter Tryz.func46, Tryz.ntmps46
  go_wp2_with (at_builtin; refine Lib.wpList_append_run _ rfl _ _ _ _ rfl _ _ rfl rfl _ _ (hrun _) ?_)
  go_ret
  exact ⟨rfl, by first | rfl | simp only [Nat.mul_one]⟩
set_option maxHeartbeats 4000000 in
set_option maxRecDepth 1000000 in
/-- There is no room, i = n: a new row. -/
theorem insS_endgrow (b n c vb m vc : Nat) (g h : Nat → Value) (w : World) (hm0 : 0 < m) (hR : w.rowIs b 9 (c * 1) g) (hX : w.rowIs vb 9 (vc * 1) h) (hmv : m ≤ vc) (h2 : ∀ k, k < m * 1 → (h k).oneCell' = true) (hnc : n ≤ c) (hroom : c < n + m) (hbig : (n + m) * 16 ≤ 140737488355328) :
    Calls Tryz.prog 46 #[.slice (some ⟨b, 0, none⟩) n c, .int .i64 n, .slice (some ⟨vb, 0, none⟩) m vc] w fun e w' => ∃ (G : Nat) (ROW : Array Value), n + m ≤ G ∧ G ≤ maxLen ∧ ROW.size = G * 1 ∧ (∀ k, k < n * 1 → ROW[k]? = some (g k)) ∧ (∀ k, k < m * 1 → ROW[n * 1 + k]? = some (h k)) ∧ e = .returned (.slice (some ⟨w.heap.size, 0, none⟩) (n + m) G) ∧
      w' = w.drew.alloc (.cells ROW 9) := by
  have t31 := Tryz.underlying23
  obtain ⟨i0, hi0, hzs, hzb, hz0⟩ : ∃ i0, Tryz.prog.info? 9 = some i0 ∧ i0.size = 1 ∧ i0.bytes = 16 ∧ i0.zero = some (.string ⟨#[]⟩) := ⟨_, rfl, by kernel_rfl, by kernel_rfl, by kernel_rfl⟩
  have hsrc : Src Tryz.prog i0.size 23 (.slice (some ⟨vb, 0, none⟩) m vc) m (tl 1 0 m h) w := by
    rw [hzs]
    exact Src.ofSlice w t31 ⟨vb, 0, none⟩ m vc (tl 1 0 m h) (by rw [tl_len]; omega) (fun j u hj => by
      have hlt := (List.getElem?_eq_some_iff.1 hj).1
      rw [tl_len] at hlt
      rw [tl_get _ _ _ _ hlt] at hj
      rw [Addr.add_lit]
      refine Eq.trans ?_ hj
      have := (row_cell hX (k := 0 * 1 + j) (by omega)).1
      simpa using this) (fun v hv => by
      obtain ⟨t, ht, rfl⟩ := List.mem_map.1 hv
      exact h2 _ (by have := List.mem_range.1 ht; omega))
  obtain ⟨hd, hhd⟩ : ∃ hd, hd = (List.range (n * 1)).map g := ⟨_, rfl⟩
  have hdl : hd.length = n * 1 := by rw [hhd]; simp
  have hold : (Builtin.firstCells i0.size n (.slice (some ⟨b, 0, none⟩) n c)).run Tryz.prog w.drew = .ok hd.toArray w.drew := by
    rw [hzs]
    exact run_firstCells_some w.drew 1 n ⟨b, 0, none⟩ n c hd hdl (fun j v hj => by
      have hlt := (List.getElem?_eq_some_iff.1 hj).1
      rw [hdl] at hlt
      rw [hhd, List.getElem?_map, List.getElem?_range hlt] at hj
      rw [Addr.add_lit]
      refine Eq.trans ?_ hj
      have := (row_cell hR (k := j) (by omega)).1
      simpa using this)
  have hrz : ∀ ty, (Builtin.append_ #[23, 23] ty #[.slice (some ⟨b, 0, none⟩) n c, .slice (some ⟨vb, 0, none⟩) m vc]).run Tryz.prog w = _ := fun ty =>
    run_append_grow_src w 23 23 ty 9 i0 _ t31 hi0 hz0 (some ⟨b, 0, none⟩) n c hd hold _ m (tl 1 0 m h) hsrc hroom (by omega) (by rw [hzb]; exact growslice_fits hroom hbig)
  obtain ⟨G, hG⟩ : ∃ G, G = grownCap w (n + m) c 9 := ⟨_, rfl⟩
  rw [← hG] at hrz
  have hGn : n + m ≤ G := by rw [hG]; exact grownCap_ge w _ _ _
  have hGm : G ≤ maxLen := by rw [hG]; exact grownCap_le_maxLen w (n + m) c 9 (by unfold maxLen; omega)
  obtain ⟨ROW, hROW⟩ : ∃ ROW : Array Value, ROW = (hd ++ tl 1 0 m h).toArray ++ Builtin.zeroCells (Value.cells (.string ⟨#[]⟩)) (G - (n + m)) := ⟨_, rfl⟩
  rw [← hROW] at hrz
  have hzc : (Value.cells (.string ⟨#[]⟩)).size = 1 := by kernel_rfl
  have hRs : ROW.size = G * 1 := by
    rw [hROW]
    simp only [Array.size_append, List.size_toArray, size_zeroCells, hzc, List.length_append, tl_len, hdl]
    omega
  have hRg : ∀ k, k < n * 1 → ROW[k]? = some (g k) := fun k hk => by
    rw [hROW, Array.getElem?_append_left (by simp only [List.size_toArray, List.length_append, hdl]; omega), List.getElem?_toArray, List.getElem?_append_left (by rw [hdl]; omega), hhd, List.getElem?_map, List.getElem?_range hk]
    rfl
  have hRh : ∀ k, k < m * 1 → ROW[n * 1 + k]? = some (h k) := fun k hk => by
    rw [hROW, Array.getElem?_append_left (by simp only [List.size_toArray, List.length_append, tl_len, hdl]; omega), List.getElem?_toArray, List.getElem?_append_right (by rw [hdl]; omega), hdl, Nat.add_sub_cancel_left, tl_get _ _ _ _ (by omega)]
    simp
  have hz1 : ¬ ((m : Int) = 0) := by omega
  have mx := mixed
  clear hR hX hsrc h2 hold hG hROW hhd
  go_enter Tryz.func46, Tryz.ntmps46
  go_wp2_with (at_builtin; refine Lib.wpList_append_run _ rfl _ _ _ _ rfl _ _ rfl rfl _ _ (hrz _) ?_)
  all_goals (go_ret; exact ⟨G, hGn, hGm, ROW, by simpa using hRs, by simpa using hRg, by simpa using hRh, rfl, rfl⟩)
set_option maxHeartbeats 4000000 in
set_option maxRecDepth 1000000 in
/-- There is no room, the nil slice: a new row. -/
theorem insS_endnil (vb m vc : Nat) (h : Nat → Value) (w : World) (hm0 : 0 < m) (hX : w.rowIs vb 9 (vc * 1) h) (hmv : m ≤ vc) (h2 : ∀ k, k < m * 1 → (h k).oneCell' = true) (hbig : m * 16 ≤ 140737488355328) :
    Calls Tryz.prog 46 #[.slice none 0 0, .int .i64 0, .slice (some ⟨vb, 0, none⟩) m vc] w fun e w' => ∃ (G : Nat) (ROW : Array Value), m ≤ G ∧ G ≤ maxLen ∧ ROW.size = G * 1 ∧ (∀ k, k < m * 1 → ROW[k]? = some (h k)) ∧ e = .returned (.slice (some ⟨w.heap.size, 0, none⟩) m G) ∧
      w' = w.drew.alloc (.cells ROW 9) := by
  have t31 := Tryz.underlying23
  obtain ⟨i0, hi0, hzs, hzb, hz0⟩ : ∃ i0, Tryz.prog.info? 9 = some i0 ∧ i0.size = 1 ∧ i0.bytes = 16 ∧ i0.zero = some (.string ⟨#[]⟩) := ⟨_, rfl, by kernel_rfl, by kernel_rfl, by kernel_rfl⟩
  have hsrc : Src Tryz.prog i0.size 23 (.slice (some ⟨vb, 0, none⟩) m vc) m (tl 1 0 m h) w := by
    rw [hzs]
    exact Src.ofSlice w t31 ⟨vb, 0, none⟩ m vc (tl 1 0 m h) (by rw [tl_len]; omega) (fun j u hj => by
      have hlt := (List.getElem?_eq_some_iff.1 hj).1
      rw [tl_len] at hlt
      rw [tl_get _ _ _ _ hlt] at hj
      rw [Addr.add_lit]
      refine Eq.trans ?_ hj
      have := (row_cell hX (k := 0 * 1 + j) (by omega)).1
      simpa using this) (fun v hv => by
      obtain ⟨t, ht, rfl⟩ := List.mem_map.1 hv
      exact h2 _ (by have := List.mem_range.1 ht; omega))
  have hold : (Builtin.firstCells i0.size 0 (.slice none 0 0)).run Tryz.prog w.drew = .ok ([] : List Value).toArray w.drew := by
    rw [hzs]
    exact run_firstCells_none w.drew 1 0 0 0
  have hrz : ∀ ty, (Builtin.append_ #[23, 23] ty #[.slice none 0 0, .slice (some ⟨vb, 0, none⟩) m vc]).run Tryz.prog w = _ := fun ty =>
    run_append_grow_src w 23 23 ty 9 i0 _ t31 hi0 hz0 none 0 0 [] hold _ m (tl 1 0 m h) hsrc (by omega) (by omega) (by rw [hzb]; exact growslice_fits (by omega) (by omega))
  simp only [Nat.zero_add, List.nil_append] at hrz
  obtain ⟨G, hG⟩ : ∃ G, G = grownCap w m 0 9 := ⟨_, rfl⟩
  rw [← hG] at hrz
  have hGn : m ≤ G := by rw [hG]; exact grownCap_ge w _ _ _
  have hGm : G ≤ maxLen := by rw [hG]; exact grownCap_le_maxLen w m 0 9 (by unfold maxLen; omega)
  obtain ⟨ROW, hROW⟩ : ∃ ROW : Array Value, ROW = (tl 1 0 m h).toArray ++ Builtin.zeroCells (Value.cells (.string ⟨#[]⟩)) (G - m) := ⟨_, rfl⟩
  rw [← hROW] at hrz
  have hzc : (Value.cells (.string ⟨#[]⟩)).size = 1 := by kernel_rfl
  have hRs : ROW.size = G * 1 := by
    rw [hROW]
    simp only [Array.size_append, List.size_toArray, size_zeroCells, hzc, tl_len]
    omega
  have hRh : ∀ k, k < m * 1 → ROW[k]? = some (h k) := fun k hk => by
    rw [hROW, Array.getElem?_append_left (by simp only [List.size_toArray, tl_len]; omega), List.getElem?_toArray, tl_get _ _ _ _ (by omega)]
    simp
  have hz1 : ¬ ((m : Int) = 0) := by omega
  have mx := mixed
  clear hX hsrc h2 hold hG hROW
  go_enter Tryz.func46, Tryz.ntmps46
  go_wp2_with (at_builtin; refine Lib.wpList_append_run _ rfl _ _ _ _ rfl _ _ rfl rfl _ _ (hrz _) ?_)
  all_goals (go_ret; first | exact ⟨G, ROW, hGn, hGm, by simpa using hRs, by simpa using hRh, rfl, rfl⟩ | exact ⟨G, hGn, hGm, ROW, by simpa using hRs, by simpa using hRh, rfl, rfl⟩)
end ins
end Go.Proofs.YtjbgafbijamckaaGreatDoor
