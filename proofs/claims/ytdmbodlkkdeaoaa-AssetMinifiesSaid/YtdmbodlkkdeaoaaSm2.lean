/-
  asset.smaller.
-/
import Derived.Test.YtdmbodlkkdeaoaaSm1
namespace Go.Proofs.Ytdmbodlkkdeaoaa.sm
open Go.RowKit Go.Shelf
open sh bl
set_option linter.unusedVariables false
set_option linter.unusedSimpArgs false
attribute [local go_sem] Oper.semAt_some
abbrev TT : TypeId := 39
abbrev TS : TypeId := 22
def cellsT (l : List Tok) : List Value := l.flatMap (fun t => [.int .i64 t.1, .string t.2])
theorem cellsT_snoc (l : List Tok) (t : Tok) : cellsT (l ++ [t]) = cellsT l ++ [.int .i64 t.1, .string t.2] := by unfold cellsT; rw [List.flatMap_append]; rfl
theorem cell_two_new (W : World) (x y : Value) (T : TypeId) : ∀ (j : Nat) (u : Value), ([x, y] : List Value)[j]? = some u → (W.alloc (.cells #[x, y] T)).cell? ((⟨W.heap.size, 0, none⟩ : Addr).add j) = some u := by
  intro j u hj
  have e : ((⟨W.heap.size, 0, none⟩ : Addr).add j) = ⟨W.heap.size, j, none⟩ := by unfold Addr.add; split <;> simp_all
  rw [e, Lib.cell_of_heap (World.alloc_heap_new W _)]
  match j, hj with
  | 0, hj => exact hj
  | 1, hj => exact hj
theorem cellsT_get : ∀ (l : List Tok) (j : Nat), j < l.length → (cellsT l)[j * 2]? = some (.int .i64 (l.getD j zt).1) ∧ (cellsT l)[j * 2 + 1]? = some (.string (l.getD j zt).2)
  | [], j, h => absurd h (Nat.not_lt_zero _)
  | t :: l, 0, _ => ⟨rfl, rfl⟩
  | t :: l, j + 1, h => by
    have ih := cellsT_get l j (by simpa using h)
    have e : cellsT (t :: l) = .int .i64 t.1 :: .string t.2 :: cellsT l := rfl
    rw [e, show (j + 1) * 2 = j * 2 + 1 + 1 by omega]
    simpa [List.getD] using ih
/-- An own row of tokens, as a slice. -/
theorem own_slice {W : World} {B : Nat} {v : Value} {s : List Tok} (h : W.ownsRow B TT 2 v s.length (cellsT s)) : ∃ A c, v = .slice A s.length c ∧ Toks W.heap.size W v s ∧ (s.length = 0 ∨ ∃ g, A = some ⟨g, 0, none⟩ ∧ B ≤ g ∧ g < W.heap.size ∧ ∀ j, j < s.length → W.cell? ⟨g, j * 2, none⟩ = some (.int .i64 (s.getD j zt).1) ∧ W.cell? ⟨g, j * 2 + 1, none⟩ = some (.string (s.getD j zt).2)) := by
  rcases h.2 with ⟨rfl, h0⟩ | ⟨g, cap, cur, rfl, hB, hg, hn, hm, hs, ht⟩
  · exact ⟨none, 0, by rw [h0], .inl ⟨none, 0, rfl, List.eq_nil_of_length_eq_zero h0, Nat.zero_le _, fun _ => rfl⟩, .inl h0⟩
  · have hlt : g < W.heap.size := (Array.getElem?_eq_some_iff.1 hg).1
    have hcell : ∀ i, i < s.length * 2 → W.cell? ⟨g, i, none⟩ = (cellsT s)[i]? := fun i hi => by
      rw [Lib.cell_of_heap hg, ← ht, List.getElem?_take, if_pos hi, Array.getElem?_toList]
    have hc : ∀ j, j < s.length → W.cell? ⟨g, j * 2, none⟩ = some (.int .i64 (s.getD j zt).1) ∧ W.cell? ⟨g, j * 2 + 1, none⟩ = some (.string (s.getD j zt).2) := fun j hj => by
      rw [hcell _ (by omega), hcell _ (by omega)]
      exact cellsT_get s j hj
    exact ⟨some ⟨g, 0, none⟩, cap, rfl, .inr ⟨g, 0, cap, rfl, hlt, fun j hj => by rw [Nat.zero_add]; exact hc j hj, hn, hm⟩, .inr ⟨g, rfl, hB, hlt, hc⟩⟩
theorem Toks.mono {n m : Nat} {W : World} {v : Value} {zs : List Tok} (h : n ≤ m) : Toks n W v zs → Toks m W v zs
  | .inl e => .inl e
  | .inr ⟨b, off, cap, e, hb, hc⟩ => .inr ⟨b, off, cap, e, Nat.lt_of_lt_of_le hb h, hc⟩
theorem onceP_mem (l : List Tok) : ∀ k, k ≤ l.length → ∀ t ∈ onceP l k, t ∈ l
  | 0, _, t, h => by cases h
  | k + 1, hk, t, h => by
    have ih := onceP_mem l k (by omega)
    rw [onceP] at h
    split at h
    · rcases List.mem_append.1 h with h | h
      · exact ih t h
      · rw [List.mem_singleton.1 h]
        rw [List.getD_eq_getElem?_getD, List.getElem?_eq_getElem (by omega), Option.getD_some]
        exact List.getElem_mem _
    · exact ih t h
theorem own_mono {W : World} {B B' : Nat} {v : Value} {n : Nat} {xs : List Value} (h : W.ownsRow B TT 2 v n xs) (hB : B' ≤ B) : W.ownsRow B' TT 2 v n xs := by
  refine ⟨h.1, h.2.imp id ?_⟩
  rintro ⟨g, cap, cur, h1, h2, h3⟩
  exact ⟨g, cap, cur, h1, Nat.le_trans hB h2, h3⟩
theorem own_below {W W' : World} {B : Nat} {v : Value} {n : Nat} {xs : List Value} (h : W.ownsRow B TT 2 v n xs) (hb : Below W.heap.size W W') : W'.ownsRow B TT 2 v n xs := by
  refine ⟨h.1, h.2.imp id ?_⟩
  rintro ⟨g, cap, cur, h1, h2, h3, h4⟩
  exact ⟨g, cap, cur, h1, h2, (hb.block g (Array.getElem?_eq_some_iff.1 h3).1).trans h3, h4⟩
theorem infoT : (Try.prog.info? TT).map (fun i => (i.zero, i.size, i.bytes)) = some (some (.agg #[.int .i64 0, .string ⟨#[]⟩]), 2, 24) := by kernel_rfl
set_option maxRecDepth 100000 in
set_option maxHeartbeats 4000000 in
theorem smaller_in
    (kd : Int) (A : Option Addr) (c : Nat) (l : List Tok) (hl : l.length ≤ 2000000) (hok : ∀ t ∈ l, t.2.size ≤ maxLen) (w : World) (hI : Toks w.heap.size w (.slice A l.length c) l)
    (hId : ∀ (s : List Tok) (A' : Option Addr) (c' : Nat) (W : World), Below w.heap.size w W → s.length ≤ 2000000 → (∀ t ∈ s, t.2.size ≤ maxLen) → Toks W.heap.size W (.slice A' s.length c') s → Calls Try.prog 50 #[.slice A' s.length c'] W fun e W' => ∃ Ab cb, e = .returned (.slice Ab s.length cb) ∧ (s.length = 0 ∨ ∃ b o, Ab = some ⟨b, o, none⟩ ∧ b < W'.heap.size ∧ ∀ j, j < s.length → W'.cell? ⟨b, o + j, none⟩ = some (.bool (idleT s j))) ∧ Below W.heap.size W W')
    (hNd : ∀ (s : List Tok) (A' : Option Addr) (c' i : Nat) (W : World), Below w.heap.size w W → s.length ≤ 2000000 → (∀ t ∈ s, t.2.size ≤ maxLen) → Toks W.heap.size W (.slice A' s.length c') s → i < s.length → Calls Try.prog 51 #[.int .i64 kd, .slice A' s.length c', .int .i64 i] W fun e W' => e = .returned (.bool (needT kd s i)) ∧ Below W.heap.size W W') :
    CallsIn Fence.wide 8 Try.prog 17 #[.int .i64 kd, .slice A l.length c] w fun e W' => ∃ v, e = .returned v ∧ W'.ownsRow w.heap.size TT 2 v (smallT kd l).length (cellsT (smallT kd l)) ∧ Below w.heap.size w W' := by
  have hro : Fence.wide.round = none := rfl
  obtain ⟨i0, hi, hz0, hz1, hz2⟩ := info_parts infoT
  refine callsIn_of_wp_marks Try.func17 rfl trivial ?_ hro
  simp only [Try.ntmps17, List.size_toArray, List.length_cons, List.length_nil, Nat.reduceAdd, Nat.reduceSub, Array.replicate_succ, Array.replicate_zero, List.push_toArray, List.append_toArray, List.nil_append, List.cons_append]
  gi_wp2
  refine ⟨trivial, ?_⟩
  refine ((callsIn_wide (n := 7)).2 (singles_c _ _ _ _)).mono ?_
  rintro e w' ⟨rfl, rfl⟩
  have bO := Boxed.new w TS (.slice none 0 0)
  have hB0 : Below w.heap.size w (w.alloc (.cells #[.slice none 0 0] TS)) := (Below.refl _ w).alloc (Nat.le_refl _) _
  gi_wp2
  have hB0' : (w.alloc (.cells #[.slice none 0 0] TS)).heap.size = w.heap.size + 1 := by simp
  have bS := Boxed.new (w.alloc (.cells #[.slice none 0 0] TS)) TS (.slice A l.length c)
  rw [hB0'] at bS
  have bO2 : Boxed ((w.alloc (.cells #[.slice none 0 0] TS)).alloc (.cells #[.slice A l.length c] TS)) w.heap.size TS (.slice none 0 0) := bO.alloc _
  have hB2 : Below w.heap.size w ((w.alloc (.cells #[.slice none 0 0] TS)).alloc (.cells #[.slice A l.length c] TS)) := hB0.alloc (by simp) _
  refine wpIn_rangeFunc_ownH hro (by decide) (gf := 91) (lb := #[.pointer (some ⟨w.heap.size + 1, 0, none⟩)]) rfl trivial (enters_of Try.func91 (by kernel_rfl) rfl)
    (singles_stops Fence.wide (8 - 1) trivial hro (by decide) (w.heap.size + 1) 0 w.heap.size (.slice A l.length c) l (by omega) _ (by simp) (by simp; omega) bS.cell (hI.below hB2)) KpB.trans (fun W k o o' hk ho _ _ => ⟨belowK_b (w := w) (Nat.le_refl _) W k o o' (by simp at hk; omega) ho (by assumption) (by assumption), fun _ => World.putObj_heap_other (by simp at hk; omega)⟩) (Below.refl _ _) (fun _ => rfl)
    (fun pre W => ((∃ v, Boxed W w.heap.size TS v ∧ W.ownsRow w.heap.size TT 2 v pre.length (cellsT pre) ∧ (v = .slice none 0 0 ↔ pre = [])) ∧ Boxed W (w.heap.size + 1) TS (.slice A l.length c)) ∧ Below w.heap.size w W)
    (fun _ _ _ => False)
    (OwnFrom.and (OwnFrom.and (Own.from (holdsRow_own w.heap.size w.heap.size TS TT 2 (fun pre => pre.length) (fun pre => cellsT pre) (fun pre v => v = .slice none 0 0 ↔ pre = [])) _) (Own.from (boxed_own (w.heap.size + 1) TS (fun _ => .slice A l.length c)) _)) (ownFrom_below (Nat.le_refl _) (by simp; omega)))
    (fun _ _ _ _ _ hs _ _ => hs)
    ⟨⟨⟨_, bO2, World.ownsRow_nil _ _ _ _, by simp⟩, bS⟩, hB2⟩
    (fun x a' W => ∃ bk, a' = { tmps := #[.int .i64 kd, .slice A l.length c, undef, undef, .slice none 0 0, .pointer (some ⟨w.heap.size, 0, none⟩), .pointer (some ⟨bk, 0, none⟩), undef, undef, undef, undef, .slice A l.length c, .func (.func 91) #[] #[.pointer (some ⟨w.heap.size + 1, 0, none⟩)], encT x, undef, undef, undef, undef, undef, undef, undef, undef, undef, undef, undef, undef, undef, undef, undef, undef, undef, undef, undef, undef, undef, undef, undef, undef, undef, undef, undef, undef, undef, undef, undef, undef, undef, undef, undef, undef, undef, undef, undef], defers := [] } ∧ W.cell? ⟨bk, 0, none⟩ = some (.int .i64 x.1) ∧ W.cell? ⟨bk, 1, none⟩ = some (.string x.2)) ?hAx ?assign ?body ?done ?stop
  case hAx =>
    rintro x a' u W W' row ⟨bk, e, g1, g2⟩ hg hr
    exact ⟨bk, e, cell_kept g1 hg (fun r hr' => (hr r hr').2), cell_kept g2 hg (fun r hr' => (hr r hr').2)⟩
  case assign =>
    rintro k pre ⟨x1, x2⟩ W K ⟨hI1, hB1⟩ hK
    have hs' := hB1.size
    simp only [encT]
    gi_wp2
    exact hK _ _ ((KeepsOthers.alloc W _).from _) (KpB.alloc W hs' _) (by
      obtain ⟨⟨v, hv, hrow, hnil⟩, hS⟩ := hI1
      exact ⟨⟨⟨v, hv.alloc _, hrow.alloc _, hnil⟩, hS.alloc _⟩, hB1.alloc hs' _⟩) ⟨W.heap.size, rfl, cell_two_new _ _ _ _ 0 _ rfl, cell_two_new _ _ _ _ 1 _ rfl⟩
  case body =>
    rintro k pre ⟨x1, x2⟩ a' W hk hr ⟨⟨⟨v, hv, hrow, hnil⟩, hS⟩, hB⟩ ⟨bk, rfl, g1, g2⟩ hlt
    have hc := hv.cell
    simp only [encT]
    gi_wp2_with (gi_at_builtin; apply Classical.byContradiction; intro hno)
    refine hno ?_
    clear hno
    refine wpListIn_append_own _ rfl _ _ TS rfl w.heap.size TT i0 (.agg #[.int .i64 0, .string ⟨#[]⟩]) 2 24 Try.underlying22 hi hz0 hz1 hz2 rfl (by decide) _ _ _ rfl (hrow.alloc _) ⟨W.heap.size, 0, none⟩ 1 1 [.int .i64 x1, .string x2] rfl rfl ?c1 ?c2 ?c3 ?c4 ?c5 ?_
    case c1 => exact cell_two_new _ _ _ _
    case c2 => intro u hu; simp at hu; rcases hu with rfl | rfl <;> rfl
    case c3 => unfold maxLen; omega
    case c4 => omega
    case c5 => have := hB.size; simp; omega
    intro v' w1 hown' hgrow _
    obtain ⟨g', cap', rfl⟩ := ownsRow_succ hown'
    obtain ⟨hv1, hv2, hr2, hk2, hb2⟩ := hv.appended (by decide) hrow hB.size (Nat.le_refl _) hown' hgrow
    have hc1 := hv1.cell
    have hf1 := hv1.frozen
    have hS2 := ((hS.alloc _).kept hgrow (hS.not_row (by decide) hrow)).other (B' := w.heap.size) (by omega) (.slice (some ⟨g', 0, none⟩) (pre.length + 1) cap')
    gi_wp2
    exact ⟨hk2.from _, ⟨hb2, fun _ => hS2.trans hS.symm⟩, ⟨⟨_, hv2, by rw [cellsT_snoc]; simpa using hr2, by simp⟩, hS2⟩, hB.trans hb2⟩
  case done =>
    rintro D ys W hD rfl ⟨⟨⟨v, hv, hrow, hnil⟩, hS⟩, hB⟩ hK
    have hc := hv.cell
    have hlS : (once l).length ≤ l.length := onceP_len l _
    have hokS : ∀ t ∈ once l, t.2.size ≤ maxLen := fun t ht => hok t (onceP_mem l _ (Nat.le_refl _) t ht)
    generalize hse : once l = s at *
    obtain ⟨A', c', rfl, hT, hcs⟩ := own_slice hrow
    have hvlt : w.heap.size < W.heap.size := (Array.getElem?_eq_some_iff.1 hv).1
    gi_wp2
    refine ⟨trivial, ?_⟩
    refine ((callsIn_wide (n := 7)).2 (hId s A' c' W hB (by omega) hokS hT)).mono ?_
    rintro e W1 ⟨Ab, cb, rfl, hbits, hb1⟩
    have hs1 := hb1.size
    have hc1 := (hb1.cell (p := ⟨w.heap.size, 0, none⟩) hvlt).trans hc
    gi_wp2
    gi_loopw [7, 22] (fun o i wr => ∃ k : Nat, k ≤ s.length ∧ i = .int .i64 k ∧ wr.ownsRow W1.heap.size TT 2 o (smallP kd s k).length (cellsT (smallP kd s k)) ∧ Below W1.heap.size W1 wr) (fun _ i _ => s.length - (intOf i).toNat)
    case atStart => exact ⟨0, Nat.zero_le _, rfl, World.ownsRow_nil _ _ _ _, Below.refl _ _⟩
    case round =>
      obtain ⟨k, hk, rfl, hrow2, hbw⟩ := hrel
      have hs2 := hbw.size
      have hcr := (hbw.cell (p := ⟨w.heap.size, 0, none⟩) (by show w.heap.size < _; omega)).trans hc1
      by_cases hlt : k < s.length
      · obtain ⟨g, rfl, hBg, hgl, hcell⟩ := hcs.resolve_left (by omega)
        obtain ⟨bb, bo, rfl, hbbl, hbit⟩ := hbits.resolve_left (by omega)
        have a0 := ((hbw.cell (p := ⟨g, k * 2, none⟩) (by show g < _; omega)).trans (hb1.cell (p := ⟨g, k * 2, none⟩) hgl)).trans (hcell k hlt).1
        have a1 := ((hbw.cell (p := ⟨g, k * 2 + 1, none⟩) (by show g < _; omega)).trans (hb1.cell (p := ⟨g, k * 2 + 1, none⟩) hgl)).trans (hcell k hlt).2
        have hbt := (hbw.cell (p := ⟨bb, bo + k, none⟩) hbbl).trans (hbit k hlt)
        have hki : (k : Int) < s.length := by omega
        have hsk := smallP_len kd s k
        have hstay : stayT kd s k = if (s.getD k zt).1 = 4 then needT kd s k else if kd = 1 then !idleT s k else true := rfl
        have hid4 : (s.getD k zt).1 = 4 → idleT s k = false := fun h => by unfold idleT; rw [if_pos h]
        obtain ⟨x, hx⟩ : ∃ x, s.getD k zt = x := ⟨_, rfl⟩
        rw [hx] at a0 a1 hstay hid4
        obtain ⟨kx, tx⟩ := x
        simp only at a0 a1 hstay hid4
        by_cases h4 : kx = 4
        · subst h4
          have hid := hid4 rfl
          rw [if_pos rfl] at hstay
          rw [hid] at hbt
          have hbA : Below W1.heap.size W1 (wr.alloc (.cells #[.int .i64 4, .string tx] TT)) := hbw.alloc hs2 _
          have hBA : Below w.heap.size w (wr.alloc (.cells #[.int .i64 4, .string tx] TT)) := (hB.trans (hb1.mono (by omega))).trans (hbA.mono (by omega))
          have hTA : Toks (wr.alloc (.cells #[.int .i64 4, .string tx] TT)).heap.size (wr.alloc (.cells #[.int .i64 4, .string tx] TT)) (.slice (some ⟨g, 0, none⟩) s.length c') s := Toks.mono (by simp; omega) (hT.below (hb1.trans (hbA.mono (by omega))))
          have hcA : (wr.alloc (.cells #[.int .i64 4, .string tx] TT)).cell? ⟨w.heap.size, 0, none⟩ = some (.slice (some ⟨g, 0, none⟩) s.length c') := (((Below.refl wr.heap.size wr).alloc (Nat.le_refl _) (.cells #[.int .i64 4, .string tx] TT)).cell (p := ⟨w.heap.size, 0, none⟩) (by show w.heap.size < _; omega)).trans hcr
          have hcall := hNd s (some ⟨g, 0, none⟩) c' k _ hBA (by omega) hokS hTA hlt
          have e0 : (wr.alloc (.cells #[.int .i64 4, .string tx] TT)).cell? ⟨wr.heap.size, 0, none⟩ = some (.int .i64 4) := cell_two_new wr _ _ TT 0 _ rfl
          have e1 : (wr.alloc (.cells #[.int .i64 4, .string tx] TT)).cell? ⟨wr.heap.size, 1, none⟩ = some (.string tx) := cell_two_new wr (.int .i64 4) (.string tx) TT 1 _ rfl
          generalize needT kd s k = nb at hcall hstay
          gi_wp2
          refine ⟨trivial, ?_⟩
          refine ((callsIn_wide (n := 7)).2 hcall).mono ?_
          rintro e wn ⟨rfl, hbn⟩
          have hrn := own_below (hrow2.alloc (.cells #[.int .i64 4, .string tx] TT)) hbn
          have hbn1 : Below W1.heap.size W1 wn := hbA.trans (hbn.mono (by simp; omega))
          have hbtn : wn.cell? ⟨bb, bo + k, none⟩ = some (.bool false) := ((hbn.cell (p := ⟨bb, bo + k, none⟩) (by show bb < _; simp; omega)).trans (((Below.refl wr.heap.size wr).alloc (Nat.le_refl _) (.cells #[.int .i64 4, .string tx] TT)).cell (p := ⟨bb, bo + k, none⟩) (by show bb < _; omega))).trans hbt
          have e0n := (hbn.cell (p := ⟨wr.heap.size, 0, none⟩) (by show wr.heap.size < _; simp)).trans e0
          have e1n := (hbn.cell (p := ⟨wr.heap.size, 1, none⟩) (by show wr.heap.size < _; simp)).trans e1
          cases nb
          · have eN : smallP kd s (k + 1) = smallP kd s k := smallP_no hstay
            gi_wp2
            go_roundw
            case rel => exact ⟨k + 1, by omega, by go_num, by rw [eN]; exact hrn, hbn1⟩
            case measure => simp [intOf]; omega
          · have eY : smallP kd s (k + 1) = smallP kd s k ++ [(4, tx)] := by rw [smallP_yes hstay, hx]
            by_cases hk1 : kd = 1
            · subst hk1
              gi_wp2_with (gi_at_builtin; apply Classical.byContradiction; intro hno)
              refine hno ?_
              clear hno
              refine wpListIn_append_own _ rfl _ _ TS rfl W1.heap.size TT i0 (.agg #[.int .i64 0, .string ⟨#[]⟩]) 2 24 Try.underlying22 hi hz0 hz1 hz2 rfl (by decide) _ _ _ rfl ((hrn).alloc _) ⟨(wn).heap.size, 0, none⟩ 1 1 [.int .i64 4, .string tx] rfl rfl ?c1 ?c2 ?c3 ?c4 ?c5 ?_
              case c1 => exact cell_two_new _ _ _ _
              case c2 => intro u hu; simp at hu; rcases hu with rfl | rfl <;> rfl
              case c3 => unfold maxLen; omega
              case c4 => omega
              case c5 => have := (hbn1).size; simp at this ⊢; omega
              intro v' w1 hown' hgrow _
              have hbw1 := ((hbn1).alloc (by have := (hbn1).size; omega) _).grown hgrow (by have := (hbn1).size; simp at this ⊢; omega) (fun j ej => ((hrn).lt j ej).1)
              gi_wp2
              go_roundw
              case rel => exact ⟨k + 1, by omega, by go_num, by rw [eY, cellsT_snoc]; simpa using hown', hbw1⟩
              case measure => simp [intOf]; omega
            · have hk1b : (kd == 1) = false := beq_eq_false_iff_ne.2 hk1
              gi_wp2_with (gi_at_builtin; apply Classical.byContradiction; intro hno)
              refine hno ?_
              clear hno
              refine wpListIn_append_own _ rfl _ _ TS rfl W1.heap.size TT i0 (.agg #[.int .i64 0, .string ⟨#[]⟩]) 2 24 Try.underlying22 hi hz0 hz1 hz2 rfl (by decide) _ _ _ rfl ((hrn).alloc _) ⟨(wn).heap.size, 0, none⟩ 1 1 [.int .i64 4, .string tx] rfl rfl ?c1 ?c2 ?c3 ?c4 ?c5 ?_
              case c1 => exact cell_two_new _ _ _ _
              case c2 => intro u hu; simp at hu; rcases hu with rfl | rfl <;> rfl
              case c3 => unfold maxLen; omega
              case c4 => omega
              case c5 => have := (hbn1).size; simp at this ⊢; omega
              intro v' w1 hown' hgrow _
              have hbw1 := ((hbn1).alloc (by have := (hbn1).size; omega) _).grown hgrow (by have := (hbn1).size; simp at this ⊢; omega) (fun j ej => ((hrn).lt j ej).1)
              gi_wp2
              go_roundw
              case rel => exact ⟨k + 1, by omega, by go_num, by rw [eY, cellsT_snoc]; simpa using hown', hbw1⟩
              case measure => simp [intOf]; omega
        · have h4b : (kx == 4) = false := beq_eq_false_iff_ne.2 h4
          rw [if_neg h4] at hstay
          have hbA : Below W1.heap.size W1 (wr.alloc (.cells #[.int .i64 kx, .string tx] TT)) := hbw.alloc hs2 _
          have hszA : (wr.alloc (.cells #[.int .i64 kx, .string tx] TT)).heap.size = wr.heap.size + 1 := by simp
          have hrA := hrow2.alloc (.cells #[.int .i64 kx, .string tx] TT)
          have hskip : ∀ f : FuncId, (none : Option FuncId) = some f → Fence.wide.fn f := fun _ _ => trivial
          have hbtA := (((Below.refl wr.heap.size wr).alloc (Nat.le_refl _) (.cells #[.int .i64 kx, .string tx] TT)).cell (p := ⟨bb, bo + k, none⟩) (by show bb < _; omega)).trans hbt
          by_cases hk1 : kd = 1
          · subst hk1
            rw [if_pos rfl] at hstay
            generalize idleT s k = ib at hbtA hbt hstay
            cases ib
            · have eY : smallP 1 s (k + 1) = smallP 1 s k ++ [(kx, tx)] := by rw [smallP_yes (by rw [hstay]; rfl), hx]
              gi_wp2
              refine ⟨trivial, ?_⟩
              gi_wp2_with (gi_at_builtin; apply Classical.byContradiction; intro hno)
              refine hno ?_
              clear hno
              refine wpListIn_append_own _ rfl _ _ TS rfl W1.heap.size TT i0 (.agg #[.int .i64 0, .string ⟨#[]⟩]) 2 24 Try.underlying22 hi hz0 hz1 hz2 rfl (by decide) _ _ _ rfl ((hrA).alloc _) ⟨wr.heap.size + 1, 0, none⟩ 1 1 [.int .i64 kx, .string tx] rfl rfl ?c1 ?c2 ?c3 ?c4 ?c5 ?_
              case c1 => rw [← hszA]; exact cell_two_new _ _ _ _
              case c2 => intro u hu; simp at hu; rcases hu with rfl | rfl <;> rfl
              case c3 => unfold maxLen; omega
              case c4 => omega
              case c5 => have := (hbA).size; simp at this ⊢; omega
              intro v' w1 hown' hgrow _
              have hbw1 := ((hbA).alloc (by have := (hbA).size; omega) _).grown hgrow (by have := (hbA).size; simp at this ⊢; omega) (fun j ej => ((hrA).lt j ej).1)
              gi_wp2
              go_roundw
              case rel => exact ⟨k + 1, by omega, by go_num, by rw [eY, cellsT_snoc]; simpa using hown', hbw1⟩
              case measure => simp [intOf]; omega
            · have eN : smallP 1 s (k + 1) = smallP 1 s k := smallP_no (by rw [hstay]; rfl)
              gi_wp2
              refine ⟨trivial, ?_⟩
              gi_wp2
              go_roundw
              case rel => exact ⟨k + 1, by omega, by go_num, by rw [eN]; exact hrA, hbA⟩
              case measure => simp [intOf]; omega
          · have hk1b : (kd == 1) = false := beq_eq_false_iff_ne.2 hk1
            rw [if_neg hk1] at hstay
            have eY : smallP kd s (k + 1) = smallP kd s k ++ [(kx, tx)] := by rw [smallP_yes hstay, hx]
            gi_wp2
            refine ⟨trivial, ?_⟩
            gi_wp2_with (gi_at_builtin; apply Classical.byContradiction; intro hno)
            refine hno ?_
            clear hno
            refine wpListIn_append_own _ rfl _ _ TS rfl W1.heap.size TT i0 (.agg #[.int .i64 0, .string ⟨#[]⟩]) 2 24 Try.underlying22 hi hz0 hz1 hz2 rfl (by decide) _ _ _ rfl ((hrA).alloc _) ⟨wr.heap.size + 1, 0, none⟩ 1 1 [.int .i64 kx, .string tx] rfl rfl ?c1 ?c2 ?c3 ?c4 ?c5 ?_
            case c1 => rw [← hszA]; exact cell_two_new _ _ _ _
            case c2 => intro u hu; simp at hu; rcases hu with rfl | rfl <;> rfl
            case c3 => unfold maxLen; omega
            case c4 => omega
            case c5 => have := (hbA).size; simp at this ⊢; omega
            intro v' w1 hown' hgrow _
            have hbw1 := ((hbA).alloc (by have := (hbA).size; omega) _).grown hgrow (by have := (hbA).size; simp at this ⊢; omega) (fun j ej => ((hrA).lt j ej).1)
            gi_wp2
            go_roundw
            case rel => exact ⟨k + 1, by omega, by go_num, by rw [eY, cellsT_snoc]; simpa using hown', hbw1⟩
            case measure => simp [intOf]; omega
      · obtain rfl : k = s.length := by omega
        have hKD : wr.heap[D]? = some (.deferred (some [])) := ((hbw.block D (by have := (Array.getElem?_eq_some_iff.1 hK).1; omega)).trans (hb1.block D (Array.getElem?_eq_some_iff.1 hK).1)).trans hK
        have hfin : Below w.heap.size w wr := (hB.trans (hb1.mono (by omega))).trans (hbw.mono (by omega))
        gi_wp2
        refine ⟨by simp, .inl ⟨_, _, rfl, run_takeDeferred hKD, ?_⟩⟩
        refine ⟨_, results_tmp rfl _ _ _, u7, rfl, ?_, hfin.trans (belowK_b (w := w) (Nat.le_refl _) wr D _ _ (by simp at hD; omega) hKD rfl rfl)⟩
        have e : smallT kd l = smallP kd s s.length := by unfold smallT; rw [hse]
        rw [e]
        exact ownsRow_putObj (own_mono hrow2 (by omega)) _ hKD rfl
  case stop =>
    rintro D c pre W _ _ h _
    exact h.elim
end Go.Proofs.Ytdmbodlkkdeaoaa.sm
