/-
  asset.Bundle in the world.
-/
import Derived.Test.YtiiohopjkepkgaaGreatDoorBn2
import Derived.Lib.ReflectliteSwap
import Derived.Laws.ResultCell
import Derived.Deep.RegionWith
import Derived.Deep.AppendLies
import Derived.Deep.RegionLaw
import Derived.StillTailTactics
namespace Go.Proofs.YtiiohopjkepkgaaGreatDoor
open Go.RowKit Go.Shelf
set_option linter.unusedVariables false
set_option linter.unusedSimpArgs false
namespace bn
open mp32 md bl
theorem strTy : SlTy Tryz.prog 23 TS (.string ⟨#[]⟩) 1 16 := ⟨Tryz.underlying23, info_parts (by kernel_rfl), rfl, by decide, by decide⟩
theorem intTy : SlTy Tryz.prog 24 TI (.int .i64 0) 1 8 := ⟨Tryz.underlying24, info_parts (by kernel_rfl), rfl, by decide, by decide⟩
section
variable (E : Env)
/-- A contract over data, of a function with a text, in the world. -/
theorem sp_raw {f : FuncId} {ds : List DD} {d : DD} (h : Sp (cx Tryz.prog mixed tyT_ok E) f ds d) (he : ∀ args w, (callFunc f args).run Tryz.prog w = .ok (.enter f args) w) (w : World) (vs : Array Value) (hG : E.G w) (hl : vs.size = ds.length)
    (hr : ∀ i d, ds[i]? = some d → Rep view (fun b _ => b < w.heap.size) w b0 d (vs.getD i undef)) :
    Calls Tryz.prog f vs w fun e w' => ∃ x M' β', e = .returned x ∧ Below w.heap.size w w' ∧ (∀ b o, M' b o → b < w'.heap.size) ∧ Rep view M' w' β' d x := by
  rcases h with h | h
  · refine (h.2 (fun b _ => b < w.heap.size) b0 w vs hG (fun b o hm => Nat.lt_of_lt_of_le (E.mg b o hm) (E.gsz w hG)) (fun _ _ hm => hm) hl hr ⟨(fun l o hm => by cases hm), fun l o l' o' b c c' hm => by cases hm⟩ (fun b ⟨l, o, c, hm, _⟩ => by cases hm)).mono ?_
    rintro e w' ⟨x, M', β', h1, h2, _, _, h5, h6, _⟩
    refine ⟨x, M', β', h1, ⟨h2.os, h2.tape, h2.output, h2.size, fun k hk => h2.block k hk (fun ⟨l, o, c, hm, _⟩ => by cases hm)⟩, fun b o hm => ?_, h6⟩
    rcases h5 b o hm with h | ⟨l, o, c, hm, _⟩ | h
    · have := h2.size; omega
    · cases hm
    · exact h.2
  · obtain ⟨x, h1, _⟩ := h (fun b _ => b < w.heap.size) b0 w vs hl hr
    have h2 := (he vs w).symm.trans h1
    cases h2
theorem suf_raw (s p : ByteArray) (hs : s.size ≤ maxLen) (hp : p.size ≤ maxLen) (w : World) (hG : E.G w) : Calls Tryz.prog 17 #[.string s, .string p] w fun e w' => e = .returned (.bool (sufS s p)) ∧ Below w.heap.size w w' := by
  refine (sp_raw E (suf_sp E s p) (enters_of Tryz.func17 (by kernel_rfl) rfl) w #[.string s, .string p] hG rfl (fun i d hd => ?_)).mono ?_
  · match i, hd with
    | 0, hd => injection hd with hd; subst hd; exact .v (decide_eq_true hs)
    | 1, hd => injection hd with hd; subst hd; exact .v (decide_eq_true hp)
  · rintro e W' ⟨x, M', β', rfl, hB, _, hr⟩
    exact ⟨by rw [hr.val.1], hB⟩
end
theorem c3 {W : World} {b : Nat} {x y z : Value} {T : TypeId} (h : W.heap[b]? = some (.cells #[x, y, z] T (0, 0))) : (W.cell? ⟨b, 0, none⟩ = some x ∧ W.cell? ⟨b, 1, none⟩ = some y ∧ W.cell? ⟨b, 2, none⟩ = some z) ∧ W.frozen? ⟨b, 0, none⟩ = false ∧ W.frozen? ⟨b, 1, none⟩ = false ∧ W.frozen? ⟨b, 2, none⟩ = false :=
  ⟨⟨by rw [Lib.cell_of_heap h]; rfl, by rw [Lib.cell_of_heap h]; rfl, by rw [Lib.cell_of_heap h]; rfl⟩, Lib.frozen_of_heap h 0, Lib.frozen_of_heap h 1, Lib.frozen_of_heap h 2⟩
set_option maxRecDepth 100000
theorem infoA : (Tryz.prog.info? TA).map (fun i => i.size) = some 3 := by kernel_rfl
theorem aggA : ∀ w, (isAgg TA).run Tryz.prog w = .ok true w := fun _ => by kernel_rfl
theorem load3 {W : World} {b : Nat} {x y z : Value} (h : W.cell? ⟨b, 0, none⟩ = some x ∧ W.cell? ⟨b, 1, none⟩ = some y ∧ W.cell? ⟨b, 2, none⟩ = some z) : (loadVar TA ⟨b, 0, none⟩).run Tryz.prog W = .ok (.agg #[x, y, z]) W := by
  obtain ⟨ie, hie, hs⟩ := Option.map_eq_some_iff.1 infoA
  refine Lib.rl_loadVar_cells TA ie hie aggA b 0 [x, y, z] hs.symm W (fun k v hk => ?_)
  match k, hk with
  | 0, hk => injection hk with hk; subst hk; exact h.1
  | 1, hk => injection hk with hk; subst hk; exact h.2.1
  | 2, hk => injection hk with hk; subst hk; exact h.2.2
theorem bun_ret {R : Ending → World → Prop} {a : Act} {W : World} {b : Nat} {x y z u : Value} (h2 : a.tmps.getD 2 undef = .pointer (some ⟨b, 0, none⟩)) (h3 : a.tmps.getD 3 undef = u) (hd : a.defers = [])
    (h : W.cell? ⟨b, 0, none⟩ = some x ∧ W.cell? ⟨b, 1, none⟩ = some y ∧ W.cell? ⟨b, 2, none⟩ = some z) (hR : R (.returned (.tuple #[.agg #[x, y, z], u])) W) : bodyPost Tryz.prog Tryz.f7 R .ret a W := by
  refine bodyPost_ret (v := .tuple #[.agg #[x, y, z], u]) ?_ hd hR
  rw [results_cell_tmp rfl, h2, h3]
  simp [asAddr, load3 h, Result.andThen]
/-- The result's variable, written anew. -/
theorem c3s {W : World} {b : Nat} {x y z x' y' z' : Value} (h0 : W.cell? ⟨b, 0, none⟩ = some x') (h1 : W.cell? ⟨b, 1, none⟩ = some y') (h2 : W.cell? ⟨b, 2, none⟩ = some z') :
    (((W.setCell ⟨b, 0, none⟩ x).setCell ⟨b, 1, none⟩ y).setCell ⟨b, 2, none⟩ z).cell? ⟨b, 0, none⟩ = some x ∧ (((W.setCell ⟨b, 0, none⟩ x).setCell ⟨b, 1, none⟩ y).setCell ⟨b, 2, none⟩ z).cell? ⟨b, 1, none⟩ = some y ∧ (((W.setCell ⟨b, 0, none⟩ x).setCell ⟨b, 1, none⟩ y).setCell ⟨b, 2, none⟩ z).cell? ⟨b, 2, none⟩ = some z := by
  have o1 : ∀ (V : World) (i j : Nat) (u : Value), i ≠ j → (V.setCell ⟨b, i, none⟩ u).cell? ⟨b, j, none⟩ = V.cell? ⟨b, j, none⟩ := fun V i j u hij => World.cell?_setCell_other V _ _ u (fun e => hij (by injection e))
  have o2 : ∀ (V : World) (i : Nat) (u u' : Value), V.cell? ⟨b, i, none⟩ = some u' → (V.setCell ⟨b, i, none⟩ u).cell? ⟨b, i, none⟩ = some u := fun V i u u' h => World.cell?_setCell_same V _ u h
  refine ⟨?_, ?_, ?_⟩
  · rw [o1 _ 2 0 _ (by decide), o1 _ 1 0 _ (by decide)]
    exact o2 _ _ _ _ h0
  · rw [o1 _ 2 1 _ (by decide)]
    exact o2 _ _ _ y' (by rw [o1 _ 0 1 _ (by decide)]; exact h1)
  · exact o2 _ _ _ z' (by rw [o1 _ 1 2 _ (by decide), o1 _ 0 2 _ (by decide)]; exact h2)
/-- The first paths, the first ends, as values. -/
def strsL (l : List Fl) (q : Nat) : List Value := (List.range q).map (fun i => .string (l.getD i fz).1)
def intsL (l : List Fl) (q : Nat) : List Value := (List.range q).map (fun i => .int .i64 ((bdF l (i + 1)).size : Int))
theorem strsL_s (l : List Fl) (q : Nat) : strsL l (q + 1) = strsL l q ++ [.string (l.getD q fz).1] := by unfold strsL; rw [List.range_succ, List.map_append]; rfl
theorem intsL_s (l : List Fl) (q : Nat) : intsL l (q + 1) = intsL l q ++ [.int .i64 ((bdF l (q + 1)).size : Int)] := by unfold intsL; rw [List.range_succ, List.map_append]; rfl
theorem strsL_len (l : List Fl) (q : Nat) : (strsL l q).length = q := by simp [strsL]
theorem intsL_len (l : List Fl) (q : Nat) : (intsL l q).length = q := by simp [intsL]
theorem bytes_app (a b : ByteArray) : Lib.byteCells a.data.toList ++ Lib.strCells b = Lib.byteCells (a ++ b).data.toList := by
  rw [app_L, Lib.strCells_eq, Lib.byteCells_append]
theorem bytes_ten (a : ByteArray) : Lib.byteCells a.data.toList ++ [.int .u8 10] = Lib.byteCells (a ++ ⟨#[10]⟩).data.toList := by
  rw [← bytes_app]
  rfl
theorem strs_all (l : List Fl) : (pthF l).map .string = strsL l l.length := by
  apply List.ext_getElem?
  intro i
  by_cases h : i < l.length
  · simp [pthF, strsL, h, List.getD]
  · simp [pthF, strsL, h]
theorem ints_all (l : List Fl) (n : Nat) : (endF l n).map (.int .i64) = intsL l n := by simp [endF, intsL]
/-- What Bundle's answer is. -/
def BunPost (l : List Fl) (w : World) (e : Ending) (w' : World) : Prop := ∃ P Q, e = .returned (.tuple #[.agg #[.string (bunR l).b, P, Q], .int .i64 (bunR l).e]) ∧ w'.ownsRow w.heap.size TS 1 P (bunR l).ps.length ((bunR l).ps.map .string) ∧ w'.ownsRow w.heap.size TI 1 Q (bunR l).es.length ((bunR l).es.map (.int .i64)) ∧ Below w.heap.size w w'
theorem post_err {l : List Fl} {w w' : World} {k : Int} (h : bunR l = errD k) (hb : Below w.heap.size w w') : BunPost l w (.returned (.tuple #[.agg #[.string ⟨#[]⟩, .slice none 0 0, .slice none 0 0], .int .i64 k])) w' := by
  unfold BunPost
  rw [h]
  exact ⟨_, _, rfl, World.ownsRow_nil _ _ _ _, World.ownsRow_nil _ _ _ _, hb⟩
/-- What the walk wants of memory. -/
def Fc (B H x : Nat) (w W : World) (s X Y P Q : Value) (ps qs bs : List Value) (pth bod : ByteArray) : Prop :=
  Hid (S3 B H w W s X Y P Q ps qs bs) ∧ ((W.cell? ⟨H, 0, none⟩ = some s ∧ W.cell? ⟨H, 1, none⟩ = some X ∧ W.cell? ⟨H, 2, none⟩ = some Y) ∧ W.frozen? ⟨H, 0, none⟩ = false ∧ W.frozen? ⟨H, 1, none⟩ = false ∧ W.frozen? ⟨H, 2, none⟩ = false) ∧ (W.cell? ⟨x, 0, none⟩ = some (.string pth) ∧ W.cell? ⟨x, 1, none⟩ = some (.string bod)) ∧ Hid (W.heap[x]? = some (.cells #[.string pth, .string bod] TF (0, 0)))
theorem fc_of {B H x : Nat} {w W : World} {s X Y P Q : Value} {ps qs bs : List Value} {pth bod : ByteArray} (h : S3 B H w W s X Y P Q ps qs bs) (hx : W.heap[x]? = some (.cells #[.string pth, .string bod] TF (0, 0))) : Fc B H x w W s X Y P Q ps qs bs pth bod :=
  ⟨hide h, c3 h.stc, ⟨by rw [Lib.cell_of_heap hx]; rfl, by rw [Lib.cell_of_heap hx]; rfl⟩, hide hx⟩
theorem fc_kt {B H x : Nat} {w W W' : World} {s X Y P Q : Value} {ps qs bs bs' : List Value} {pth bod : ByteArray} (h : S3 B H w W s X Y P Q ps qs bs) (hx : W.heap[x]? = some (.cells #[.string pth, .string bod] TF (0, 0))) (hk : Kt W W') (hb : Below B W W') (hl : Lib.BuilderAt TB TY B (H + 1) (.pointer (some ⟨H + 1, 0, none⟩)) bs' W') : Fc B H x w W' s X Y P Q ps qs bs' pth bod :=
  fc_of (h.kt hk hb (.inr hl)) ((hk.block _ _ _ _ hx (by decide) (by decide)).trans hx)
theorem len_b {B b : Nat} {bs : List Value} {w : World} (h : Lib.IsBuilder TB TY B b bs w) (n : Nat) (hn : bs.length = n) : Calls Tryz.prog 19 #[.pointer (some ⟨b, 0, none⟩)] w fun e w' => e = .returned (.int .i64 n) ∧ w' = w := by
  subst hn
  rcases h with h | h
  · exact len_raw B b bs _ w h
  · exact len_raw B b bs _ w h
theorem bld_cell {B b : Nat} {bs : List Value} {w : World} (h : Lib.IsBuilder TB TY B b bs w) (n : Nat) (hn : bs.length = n) : ∃ ao cap, w.cell? ⟨b, 1, none⟩ = some (.slice ao n cap) := by
  subst hn
  have one : ∀ p, Lib.BuilderAt TB TY B b p bs w → ∃ ao cap, w.cell? ⟨b, 1, none⟩ = some (.slice ao bs.length cap) := fun p ⟨hB, v, hbk, hown, hne⟩ => by
    have c1 : w.cell? ⟨b, 1, none⟩ = some v := by rw [Lib.cell_of_heap hbk]; rfl
    obtain ⟨ao, cap, rfl⟩ : ∃ ao cap, v = .slice ao bs.length cap := by
      rcases hown.2 with ⟨hv, h0⟩ | ⟨g, cap, cur, hv, _⟩
      · exact ⟨none, 0, by rw [hv, h0]⟩
      · exact ⟨_, _, hv⟩
    exact ⟨_, _, c1⟩
  rcases h with h | h
  · exact one _ h
  · exact one _ h
theorem stepQ {B H q x : Nat} {w W W' : World} {s X Y P Q v : Value} {l : List Fl} {ps bs : List Value} {pth bod : ByteArray} {z : Int} (h : S3 B H w W s X Y P Q ps (intsL l q) bs) (e2 : intsL l (q + 1) = intsL l q ++ [.int .i64 z]) (hX : W.heap[x]? = some (.cells #[.string pth, .string bod] TF (0, 0))) (o : Obj)
    (ho : W'.ownsRow B TI 1 v (q + 1) (intsL l q ++ [.int .i64 z])) (hg : (W.alloc o).grownBy W' Q.ownBlock) : Fc B H x w W' s X Y P v ps (intsL l (q + 1)) bs pth bod := by
  have h1 := h.alloc o
  have hX1 : (W.alloc o).heap[x]? = some (.cells #[.string pth, .string bod] TF (0, 0)) := (Lib.alloc_old W o x (Array.getElem?_eq_some_iff.1 hX).1).trans hX
  exact fc_of (h1.growQ (by rw [intsL_len, e2]; exact ho) hg (h1.bel.grown hg (Nat.le_of_lt (Array.getElem?_eq_some_iff.1 h1.res).1) (fun k hk => (h1.rq.lt k hk).1))) ((gb h1.rq hg hX1 (by decide)).trans hX1)
theorem x_set {W : World} {H x i : Nat} {v : Value} {pth bod : ByteArray} (hx : W.heap[x]? = some (.cells #[.string pth, .string bod] TF (0, 0))) (h : x ≠ H) : (W.setCell ⟨H, i, none⟩ v).heap[x]? = some (.cells #[.string pth, .string bod] TF (0, 0)) := (Below.heap_setCell _ _ _ _ h).trans hx
theorem bc_len (b : ByteArray) : (Lib.byteCells b.data.toList).length = b.size := by simp [Lib.byteCells]
theorem stepP {B H q x : Nat} {w W W' : World} {s X Y P Q v : Value} {l : List Fl} {qs bs : List Value} {pth bod : ByteArray} (h : S3 B H w W s X Y P Q (strsL l q) qs bs) (e1 : strsL l (q + 1) = strsL l q ++ [.string pth]) (hX : W.heap[x]? = some (.cells #[.string pth, .string bod] TF (0, 0)))
    (ho : W'.ownsRow B TS 1 v (q + 1) (strsL l q ++ (#[.string pth] : Array Value).toList)) (hb : Below B w W') (hg : W.grownBy W' P.ownBlock) :
    Hid (S3 B H w W' s X Y v Q (strsL l (q + 1)) qs bs) ∧ ((W'.cell? ⟨H, 0, none⟩ = some s ∧ W'.cell? ⟨H, 1, none⟩ = some X ∧ W'.cell? ⟨H, 2, none⟩ = some Y) ∧ W'.frozen? ⟨H, 0, none⟩ = false ∧ W'.frozen? ⟨H, 1, none⟩ = false ∧ W'.frozen? ⟨H, 2, none⟩ = false) ∧ (W'.cell? ⟨x, 0, none⟩ = some (.string pth) ∧ W'.cell? ⟨x, 1, none⟩ = some (.string bod)) ∧ Hid (W'.heap[x]? = some (.cells #[.string pth, .string bod] TF (0, 0))) := by
  have hx : W'.heap[x]? = some (.cells #[.string pth, .string bod] TF (0, 0)) := (gb h.rp hg hX (by decide)).trans hX
  have h2 : S3 B H w W' s X Y v Q (strsL l (q + 1)) qs bs := h.growP (by rw [strsL_len, e1]; exact ho) hg hb
  exact ⟨hide h2, c3 h2.stc, ⟨by rw [Lib.cell_of_heap hx]; rfl, by rw [Lib.cell_of_heap hx]; rfl⟩, hide hx⟩
set_option maxHeartbeats 2000000 in
set_option maxRecDepth 100000 in
theorem bundle_raw (A : Option Addr) (n c : Nat) (l : List Fl) (w : World) (hn : l.length = n) (hn2 : n ≤ 4398046511104)
    (hA : n = 0 ∨ ∃ b o, A = some ⟨b, o, none⟩ ∧ b < w.heap.size ∧ ∀ j, j < n → w.cell? ⟨b, o + j * 2, none⟩ = some (.string (l.getD j fz).1) ∧ w.cell? ⟨b, o + j * 2 + 1, none⟩ = some (.string (l.getD j fz).2))
    (hsf : ∀ (s : ByteArray) (W : World), s.size ≤ 20000 → Below w.heap.size w W → Calls Tryz.prog 17 #[.string s, .string ⟨#[10]⟩] W fun e W' => e = .returned (.bool (sufS s ⟨#[10]⟩)) ∧ Below W.heap.size W W')
    (hpf : ∀ (W : World) (P : Value), Below w.heap.size w W → W.ownsRow w.heap.size TS 1 P l.length (strsL l l.length) → l.length ≤ 40 → Calls Tryz.prog 20 #[P] W fun e W' => e = .returned (.int .i64 (pfE (pthF l) 0)) ∧ Below W.heap.size W W') :
    Calls Tryz.prog 7 #[.slice A n c] w (BunPost l w) := by
  have HA := hide hA
  clear hA
  go_enter Tryz.func7, Tryz.ntmps7
  go_wp2_with fail
  go_loopw [13] (fun i wr => ∃ k : Nat, k ≤ n ∧ i = .int .i64 k ∧ Hid (∀ j, j < k → (l.getD j fz).2.size ≤ 20000) ∧ Hid (wr.heap[w.heap.size]? = some (.cells #[.string ⟨#[]⟩, .slice none 0 0, .slice none 0 0] TA (0, 0))) ∧ Hid (Below w.heap.size w wr)) (fun i _ => n - (intOf i).toNat)
  case atStart => exact ⟨0, Nat.zero_le _, rfl, hide (fun j hj => by omega), hide (heap_alloc_new w _), hide ((Below.refl _ w).alloc (Nat.le_refl _) _)⟩
  case round =>
    obtain ⟨k, hk, rfl, HK, HR, HW⟩ := hrel
    by_cases hlt : k < n
    · obtain ⟨b, o, rfl, hbk, hcs⟩ := HA.out.resolve_left (by omega)
      have hki : (k : Int) < n := by omega
      have a0 : wr.cell? ⟨b, o + k * 2, none⟩ = some (.string (l.getD k fz).1) := (HW.out.cell (p := ⟨b, o + k * 2, none⟩) hbk).trans (hcs k hlt).1
      have a1 : wr.cell? ⟨b, o + k * 2 + 1, none⟩ = some (.string (l.getD k fz).2) := (HW.out.cell (p := ⟨b, o + k * 2 + 1, none⟩) hbk).trans (hcs k hlt).2
      have HE := hide (fun h => okSz_no (l := l) (k := k) (by omega) h)
      have HZ := hide (Nat.lt_succ_of_le (Nat.le_refl (l.getD k fz).2.size))
      obtain ⟨pp, hpp⟩ : ∃ pp, pp = l.getD k fz := ⟨_, rfl⟩
      rw [← hpp] at a0 a1
      by_cases hz : pp.2.size ≤ 20000
      · have hzi : ((pp.2.size : Nat) : Int) ≤ 20000 := by omega
        have HK2 := hide (fun j (hj : j < k + 1) => if hjk : j = k then (by rw [hjk, ← hpp]; exact hz : (l.getD j fz).2.size ≤ 20000) else HK.out j (by omega))
        have HR2 := hide ((Lib.alloc_old wr (.cells #[.string pp.1, .string pp.2] TF) w.heap.size (Array.getElem?_eq_some_iff.1 HR.out).1).trans HR.out)
        have HW2 := hide (HW.out.alloc HW.out.size (.cells #[.string pp.1, .string pp.2] TF))
        clear hpp
        go_wp2_with fail
        go_roundw
        case rel => exact ⟨k + 1, by omega, by go_num, HK2, HR2, HW2⟩
        case measure => simp [intOf]; omega
      · have hzi : ¬ ((pp.2.size : Nat) : Int) ≤ 20000 := by omega
        have hzi2 : (20000 : Int) < ((pp.2.size : Nat) : Int) := by omega
        have hR : bunR l = errD 4 := by
          unfold bunR
          rw [if_pos (.inl (HE.out (by rw [← hpp]; exact hz)))]
        have HRR := hide hR
        obtain ⟨⟨r0, r1, r2⟩, g0, g1, g2⟩ := c3 ((Lib.alloc_old wr (.cells #[.string pp.1, .string pp.2] TF) w.heap.size (Array.getElem?_eq_some_iff.1 HR.out).1).trans HR.out)
        clear hpp hR
        go_wp2_with fail
        refine bun_ret (b := w.heap.size) rfl rfl rfl (c3s r0 r1 r2) ?_
        exact post_err HRR.out (((HW.out.alloc HW.out.size _).setCell (Nat.le_refl _) _).setCell (Nat.le_refl _) _ |>.setCell (Nat.le_refl _) _)
    · obtain rfl : k = n := by omega
      have HA2 := hide (okSz_yes (l := l) (fun i hi => HK.out i (by omega)))
      obtain ⟨⟨r0, r1, r2⟩, g0, g1, g2⟩ := c3 HR.out
      by_cases h40 : 40 < k
      · have h40i : (40 : Int) < k := by omega
        have HRR := hide (show bunR l = errD 4 by unfold bunR; rw [if_pos (.inr (by omega))])
        go_wp2_with fail
        refine bun_ret (b := w.heap.size) rfl rfl rfl (c3s r0 r1 r2) ?_
        exact post_err HRR.out (((HW.out.setCell (Nat.le_refl _) _).setCell (Nat.le_refl _) _).setCell (Nat.le_refl _) _)
      · have h40i : ¬ (40 : Int) < k := by omega
        have HF := hide hsf
        clear hsf
        have hbz := bd_size (l := l) (fun i hi => HK.out i (by omega))
        have HBZ := hide hbz
        clear hbz
        go_wp2_with fail
        obtain ⟨H, hH⟩ : ∃ H, wr.heap.size = H := ⟨_, rfl⟩
        rw [hH]
        go_loopw [30] (fun i wl => ∃ q : Nat, q ≤ k ∧ i = .int .i64 q ∧ Hid (∃ P Q, S3 w.heap.size H w wl (.string ⟨#[]⟩) P Q P Q (strsL l q) (intsL l q) (Lib.byteCells (bdF l q).data.toList))) (fun i _ => k - (intOf i).toNat)
        case atStart =>
          refine ⟨0, Nat.zero_le _, rfl, hide ⟨.slice none 0 0, .slice none 0 0, ?_⟩⟩
          have hB := (Array.getElem?_eq_some_iff.1 HR.out).1
          subst hH
          refine ⟨?_, ?_, World.ownsRow_nil _ _ _ _, World.ownsRow_nil _ _ _ _, .inl ⟨?_, .slice none 0 0, ?_, World.ownsRow_nil _ _ _ _, by simp [Value.ownBlock]⟩, (HW.out.alloc HW.out.size _).alloc ?_ _, hB⟩
          · rw [Lib.alloc_old _ _ _ (by simp; omega), Lib.alloc_old _ _ _ hB]
            exact HR.out
          · rw [Lib.alloc_old _ _ _ (by simp)]
            exact heap_alloc_new wr _
          · omega
          · have := heap_alloc_new (wr.alloc (.cells #[.string ⟨#[]⟩, .slice none 0 0, .slice none 0 0] TA)) (.cells #[.pointer none, .slice none 0 0] TB)
            simpa using this
          · simp
            omega
        case round =>
          obtain ⟨q, hq, rfl, HS⟩ := hrel
          by_cases hql : q < k
          · obtain ⟨b, o, rfl, hbk, hcs⟩ := HA.out.resolve_left (by omega)
            have hqi : (q : Int) < k := by omega
            obtain ⟨P, Q, S⟩ := HS.out
            have hBH := S.hB
            have hHl : H < wr.heap.size := (Array.getElem?_eq_some_iff.1 S.stc).1
            have a0 : wr.cell? ⟨b, o + q * 2, none⟩ = some (.string (l.getD q fz).1) := (S.bel.cell (p := ⟨b, o + q * 2, none⟩) hbk).trans (hcs q hql).1
            have a1 : wr.cell? ⟨b, o + q * 2 + 1, none⟩ = some (.string (l.getD q fz).2) := (S.bel.cell (p := ⟨b, o + q * 2 + 1, none⟩) hbk).trans (hcs q hql).2
            have hpz := HK.out q hql
            have e1 := strsL_s l q
            have e2 := intsL_s l q
            have eB : bdF l (q + 1) = bdF l q ++ pcF (l.getD q fz).2 := rfl
            have hbz := HBZ.out q (by omega)
            have hbz2 := HBZ.out (q + 1) (by omega)
            have c1 := pc_nil (b := (l.getD q fz).2)
            have c2 := pc_suf (b := (l.getD q fz).2)
            have c3' := pc_add (b := (l.getD q fz).2)
            have hsu := HF.out (l.getD q fz).2
            generalize l.getD q fz = pp at a0 a1 hpz e1 eB c1 c2 c3' hsu
            obtain ⟨pth, bod⟩ := pp
            simp only at a0 a1 hpz e1 eB c1 c2 c3' hsu
            have hp1 := S.rp
            have hq1 := S.rq
            rw [strsL_len] at hp1
            rw [intsL_len] at hq1
            obtain ⟨AP, cP, rfl⟩ := ownsRow_shape hp1
            obtain ⟨AQ, cQ, rfl⟩ := ownsRow_shape hq1
            have S1 := S.alloc (.cells #[.string pth, .string bod] TF)
            obtain ⟨⟨k0, k1, k2⟩, f0, f1, f2⟩ := c3 S1.stc
            have hX := heap_alloc_new wr (.cells #[.string pth, .string bod] TF)
            have HH := hide (And.intro e1 (And.intro e2 (And.intro eB (And.intro c1 (And.intro c2 (And.intro c3' hsu))))))
            have hp1' := hp1.alloc (.cells #[.string pth, .string bod] TF)
            have HS1 := hide S1
            clear S S1 HS e1 e2 eB c1 c2 c3' hsu
            go_wp2_with (at_builtin; refine app1h strTy _ w (wr.heap.size + 1) (World.size_alloc _ _) rfl _ _ rfl w.heap.size rfl hp1' HS1.out.bel (by simp; omega) _ rfl rfl rfl (by omega) ?_; intro g c' w2 ho2 hb2 hg2 _; obtain ⟨HS2, ⟨⟨m0, m1, m2⟩, n0, n1, n2⟩, ⟨x0, x1⟩, HX2⟩ := stepP HS1.out HH.out.1 hX ho2 hb2 hg2; clear ho2 hb2 hg2 hX k0 k1 k2 f0 f1 f2 a0 a1)
            have hxH : wr.heap.size ≠ H := by omega
            have hbl := bc_len (bdF l q)
            have S3' := HS2.out.setC (v := .slice (some ⟨g, 0, none⟩) (q + 1) c') 1 (by decide) rfl
            have X3' := x_set (H := H) (i := 1) (v := .slice (some ⟨g, 0, none⟩) (q + 1) c') HX2.out hxH
            have HS3 := hide (And.intro S3' X3')
            clear S3' X3' HS2 HX2 m0 m1 m2 n0 n1 n2 x0 x1
            refine (writeString2 w.heap.size (H + 1) _ bod _ HS3.out.1.bld (by rw [hbl]; omega) HS3.out.1.bel.size).mono ?_
            rintro e w4 ⟨rfl, h4, hb4, hk4⟩
            rw [bytes_app] at h4
            obtain ⟨HS4, ⟨⟨m0, m1, m2⟩, n0, n1, n2⟩, ⟨x0, x1⟩, HX4⟩ := fc_kt HS3.out.1 HS3.out.2 hk4 hb4 h4
            clear h4 hb4 hk4 HS3
            by_cases hb0 : bod = ⟨#[]⟩
            · subst hb0
              have eb1 : bdF l q ++ ⟨#[]⟩ = bdF l (q + 1) := by rw [HH.out.2.2.1]; exact (HH.out.2.2.2.1 rfl _).symm
              rw [eb1] at HS4
              clear eb1
              go_wp2_with fail
              have hq5 := HS4.out.rq
              rw [intsL_len] at hq5
              have hbl2 := bc_len (bdF l (q + 1))
              have HD := hide (HS4.out.drew (Below.drew HS4.out.bel))
              have m2a := (c3 (HS4.out.alloc (.cells #[.int .i64 ((bdF l (q + 1)).size : Int)] TI)).stc).1.2.2
              have HQ := hide (show (w4.drew.alloc (.cells #[.int .i64 ((bdF l (q + 1)).size : Int)] TI)).ownsRow w.heap.size TI 1 (.slice AQ q cQ) q (intsL l q) from World.ownsRow.alloc (row_of hq5 (fun _ _ _ => rfl)) _)
              have HNW := hide (World.news_of_block (heap_alloc_new w4.drew (.cells #[.int .i64 ((bdF l (q + 1)).size : Int)] TI)))
              have H1 := hide (show ∀ u ∈ ([.int .i64 ((bdF l (q + 1)).size : Int)] : List Value), u.oneCell' = true from fun u hu => by rw [List.mem_singleton.1 hu]; rfl)
              have HSZ := hide (show w.heap.size ≤ (w4.drew.alloc (.cells #[.int .i64 ((bdF l (q + 1)).size : Int)] TI)).heap.size from (HD.out.alloc _).bel.size)
              have HMX := hide (show q + 1 ≤ maxLen by unfold maxLen; omega)
              have HMB := hide (show (q + 1) * 8 ≤ 140737488355328 by omega)
              obtain ⟨i0, hi0, hz0, hz1, hz2⟩ := intTy.info
              have mixed : Tryz.prog.follows .mixedOrders = true := by kernel_rfl
              go_region_law (first
                | (refine step_append_lies _ rfl (.tmp 55) (.tmp 57) 24 rfl w.heap.size TI i0 (.int .i64 0) 1 8 Tryz.underlying24 hi0 hz0 hz1 hz2 rfl (by decide) (.slice AQ q cQ) q (intsL l q) (by simp [Act.eval, Act.put]) HQ.out ⟨w4.heap.size, 0, none⟩ 1 1 [.int .i64 ((bdF l (q + 1)).size : Int)] (by simp [Act.eval, Act.put]) rfl HNW.out H1.out (by decide) HMX.out HMB.out HSZ.out (w4.heap.size + 1) (World.size_alloc _ _) ?_; intro g2 c2' w7 ho7 hg7 _ _; obtain ⟨HS7, ⟨⟨m0, m1, m2⟩, n0, n1, n2⟩, ⟨x0, x1⟩, HX7⟩ := stepQ HD.out HH.out.2.1 HX4.out _ ho7 hg7; clear ho7 hg7)
                | (go_simp; go_at_call 19; refine (len_b HD.out.bld _ hbl2).mono ?_; rintro e w' ⟨rfl, rfl⟩))
              all_goals
                go_wp2_with fail
                go_roundw
                case rel => exact ⟨q + 1, by omega, by go_num, hide ⟨_, _, HS7.out.setC 2 (by decide) rfl⟩⟩
                case measure => simp [intOf]; omega
            · have hemp : bod.toList.isEmpty = false := by
                rw [← decide_eq_emptyBytes]
                exact decide_eq_false hb0
              have hsu := HH.out.2.2.2.2.2.2
              cases hsf : sufS bod ⟨#[10]⟩
              · rw [hsf] at hsu
                have eb1 : bdF l q ++ bod ++ ⟨#[10]⟩ = bdF l (q + 1) := by rw [HH.out.2.2.1]; exact (HH.out.2.2.2.2.2.1 hb0 hsf _).symm
                have HEB := hide eb1
                clear eb1 hsf
                go_wp2_with fail
                refine (hsu _ hpz HS4.out.bel).mono ?_
                rintro e w5 ⟨rfl, hb5⟩
                obtain ⟨HS5, ⟨⟨m0, m1, m2⟩, n0, n1, n2⟩, ⟨x0, x1⟩, HX5⟩ := fc_of (HS4.out.keep hb5) ((hb5.block _ (Array.getElem?_eq_some_iff.1 HX4.out).1).trans HX4.out)
                clear hb5 HS4 HX4 hsu
                go_wp2_with fail
                refine (writeByte2 w.heap.size (H + 1) _ 10 (by decide) (by decide) _ HS5.out.bld (by rw [bc_len, ByteArray.size_append]; omega) HS5.out.bel.size).mono ?_
                rintro e w6 ⟨rfl, h6, hb6, hk6⟩
                rw [bytes_ten, HEB.out] at h6
                obtain ⟨HS6, ⟨⟨m0, m1, m2⟩, n0, n1, n2⟩, ⟨x0, x1⟩, HX6⟩ := fc_kt HS5.out HX5.out hk6 hb6 h6
                clear h6 hb6 hk6 HS5 HX5
                go_wp2_with fail
                have hq5 := HS6.out.rq
                rw [intsL_len] at hq5
                have hbl2 := bc_len (bdF l (q + 1))
                have HD := hide (HS6.out.drew (Below.drew HS6.out.bel))
                have m2a := (c3 (HS6.out.alloc (.cells #[.int .i64 ((bdF l (q + 1)).size : Int)] TI)).stc).1.2.2
                have HQ := hide (show (w6.drew.alloc (.cells #[.int .i64 ((bdF l (q + 1)).size : Int)] TI)).ownsRow w.heap.size TI 1 (.slice AQ q cQ) q (intsL l q) from World.ownsRow.alloc (row_of hq5 (fun _ _ _ => rfl)) _)
                have HNW := hide (World.news_of_block (heap_alloc_new w6.drew (.cells #[.int .i64 ((bdF l (q + 1)).size : Int)] TI)))
                have H1 := hide (show ∀ u ∈ ([.int .i64 ((bdF l (q + 1)).size : Int)] : List Value), u.oneCell' = true from fun u hu => by rw [List.mem_singleton.1 hu]; rfl)
                have HSZ := hide (show w.heap.size ≤ (w6.drew.alloc (.cells #[.int .i64 ((bdF l (q + 1)).size : Int)] TI)).heap.size from (HD.out.alloc _).bel.size)
                have HMX := hide (show q + 1 ≤ maxLen by unfold maxLen; omega)
                have HMB := hide (show (q + 1) * 8 ≤ 140737488355328 by omega)
                obtain ⟨i0, hi0, hz0, hz1, hz2⟩ := intTy.info
                have mixed : Tryz.prog.follows .mixedOrders = true := by kernel_rfl
                go_region_law (first
                  | (refine step_append_lies _ rfl (.tmp 55) (.tmp 57) 24 rfl w.heap.size TI i0 (.int .i64 0) 1 8 Tryz.underlying24 hi0 hz0 hz1 hz2 rfl (by decide) (.slice AQ q cQ) q (intsL l q) (by simp [Act.eval, Act.put]) HQ.out ⟨w6.heap.size, 0, none⟩ 1 1 [.int .i64 ((bdF l (q + 1)).size : Int)] (by simp [Act.eval, Act.put]) rfl HNW.out H1.out (by decide) HMX.out HMB.out HSZ.out (w6.heap.size + 1) (World.size_alloc _ _) ?_; intro g2 c2' w7 ho7 hg7 _ _; obtain ⟨HS7, ⟨⟨m0, m1, m2⟩, n0, n1, n2⟩, ⟨x0, x1⟩, HX7⟩ := stepQ HD.out HH.out.2.1 HX6.out _ ho7 hg7; clear ho7 hg7)
                  | (go_simp; go_at_call 19; refine (len_b HD.out.bld _ hbl2).mono ?_; rintro e w' ⟨rfl, rfl⟩))
                all_goals
                  go_wp2_with fail
                  go_roundw
                  case rel => exact ⟨q + 1, by omega, by go_num, hide ⟨_, _, HS7.out.setC 2 (by decide) rfl⟩⟩
                  case measure => simp [intOf]; omega
              · rw [hsf] at hsu
                have eb1 : bdF l q ++ bod = bdF l (q + 1) := by rw [HH.out.2.2.1]; exact (HH.out.2.2.2.2.1 hb0 hsf _).symm
                rw [eb1] at HS4
                clear eb1 hsf
                go_wp2_with fail
                refine (hsu _ hpz HS4.out.bel).mono ?_
                rintro e w5 ⟨rfl, hb5⟩
                obtain ⟨HS5, ⟨⟨m0, m1, m2⟩, n0, n1, n2⟩, ⟨x0, x1⟩, HX5⟩ := fc_of (HS4.out.keep hb5) ((hb5.block _ (Array.getElem?_eq_some_iff.1 HX4.out).1).trans HX4.out)
                clear hb5 HS4 HX4 hsu
                go_wp2_with fail
                have hq5 := HS5.out.rq
                rw [intsL_len] at hq5
                have hbl2 := bc_len (bdF l (q + 1))
                have HD := hide (HS5.out.drew (Below.drew HS5.out.bel))
                have m2a := (c3 (HS5.out.alloc (.cells #[.int .i64 ((bdF l (q + 1)).size : Int)] TI)).stc).1.2.2
                have HQ := hide (show (w5.drew.alloc (.cells #[.int .i64 ((bdF l (q + 1)).size : Int)] TI)).ownsRow w.heap.size TI 1 (.slice AQ q cQ) q (intsL l q) from World.ownsRow.alloc (row_of hq5 (fun _ _ _ => rfl)) _)
                have HNW := hide (World.news_of_block (heap_alloc_new w5.drew (.cells #[.int .i64 ((bdF l (q + 1)).size : Int)] TI)))
                have H1 := hide (show ∀ u ∈ ([.int .i64 ((bdF l (q + 1)).size : Int)] : List Value), u.oneCell' = true from fun u hu => by rw [List.mem_singleton.1 hu]; rfl)
                have HSZ := hide (show w.heap.size ≤ (w5.drew.alloc (.cells #[.int .i64 ((bdF l (q + 1)).size : Int)] TI)).heap.size from (HD.out.alloc _).bel.size)
                have HMX := hide (show q + 1 ≤ maxLen by unfold maxLen; omega)
                have HMB := hide (show (q + 1) * 8 ≤ 140737488355328 by omega)
                obtain ⟨i0, hi0, hz0, hz1, hz2⟩ := intTy.info
                have mixed : Tryz.prog.follows .mixedOrders = true := by kernel_rfl
                go_region_law (first
                  | (refine step_append_lies _ rfl (.tmp 55) (.tmp 57) 24 rfl w.heap.size TI i0 (.int .i64 0) 1 8 Tryz.underlying24 hi0 hz0 hz1 hz2 rfl (by decide) (.slice AQ q cQ) q (intsL l q) (by simp [Act.eval, Act.put]) HQ.out ⟨w5.heap.size, 0, none⟩ 1 1 [.int .i64 ((bdF l (q + 1)).size : Int)] (by simp [Act.eval, Act.put]) rfl HNW.out H1.out (by decide) HMX.out HMB.out HSZ.out (w5.heap.size + 1) (World.size_alloc _ _) ?_; intro g2 c2' w7 ho7 hg7 _ _; obtain ⟨HS7, ⟨⟨m0, m1, m2⟩, n0, n1, n2⟩, ⟨x0, x1⟩, HX7⟩ := stepQ HD.out HH.out.2.1 HX5.out _ ho7 hg7; clear ho7 hg7)
                  | (go_simp; go_at_call 19; refine (len_b HD.out.bld _ hbl2).mono ?_; rintro e w' ⟨rfl, rfl⟩))
                all_goals
                  go_wp2_with fail
                  go_roundw
                  case rel => exact ⟨q + 1, by omega, by go_num, hide ⟨_, _, HS7.out.setC 2 (by decide) rfl⟩⟩
                  case measure => simp [intOf]; omega
          · have hqk : q = k := by omega
            subst hqk
            obtain ⟨P, Q, S⟩ := HS.out
            have hbz := HBZ.out q (by omega)
            obtain ⟨⟨k0, k1, k2⟩, f0, f1, f2⟩ := c3 S.stc
            have hp1 := S.rp
            have hq1 := S.rq
            rw [strsL_len] at hp1
            rw [intsL_len] at hq1
            have HPF := hide (hpf wr P S.bel (by rw [hn]; exact hp1) (by omega))
            obtain ⟨AP, cP, rfl⟩ := ownsRow_shape hp1
            obtain ⟨AQ, cQ, rfl⟩ := ownsRow_shape hq1
            have HS0 := hide S
            have HBR := hide (show bunR l = if pfE (pthF l) 0 ≠ 0 then errD (pfE (pthF l) 0) else if 200000 < (bdF l l.length).size then errD 4 else ⟨bdF l l.length, pthF l, endF l l.length, 0⟩ by unfold bunR; rw [if_neg (by rw [HA2.out]; simp; omega)])
            clear S HS hp1 hq1 hpf
            obtain ⟨ez, hez⟩ : ∃ ez, pfE (pthF l) 0 = ez := ⟨_, rfl⟩
            rw [hez] at HPF HBR
            go_wp2_with fail
            refine HPF.out.mono ?_
            rintro e w5 ⟨rfl, hb5⟩
            have HS5 := hide (HS0.out.keep hb5)
            clear hb5 k0 k1 k2 f0 f1 f2 HS0 HPF
            obtain ⟨⟨k0, k1, k2⟩, f0, f1, f2⟩ := c3 HS5.out.stc
            obtain ⟨⟨r0, r1, r2⟩, g0, g1, g2⟩ := c3 HS5.out.res
            by_cases hz : ez = 0
            · subst hz
              rw [if_neg (by decide), hn] at HBR
              go_wp2_with fail
              refine (string_raw w.heap.size (H + 1) (bdF l q).data.toList w5 HS5.out.bel.size HS5.out.bld).mono ?_
              rintro e w6 ⟨rfl, hb6, hk6⟩
              have HR6 := hide (HS5.out.ktB hk6 hb6)
              clear hb6 hk6 k0 k1 k2 f0 f1 f2 r0 r1 r2 g0 g1 g2 HS5
              obtain ⟨⟨k0, k1, k2⟩, f0, f1, f2⟩ := c3 HR6.out.stc
              obtain ⟨⟨r0, r1, r2⟩, g0, g1, g2⟩ := c3 HR6.out.res
              have hdt : (⟨(bdF l q).data.toList.toArray⟩ : ByteArray) = bdF l q := by simp
              rw [hdt]
              have HR7 := hide (HR6.out.setH (v := .string (bdF l q)) 0 (by decide) rfl)
              by_cases hbg : 200000 < (bdF l q).size
              · have hbgi : (200000 : Int) < ((bdF l q).size : Int) := by omega
                have HRR := hide (show bunR l = errD 4 by rw [HBR.out, if_pos hbg])
                obtain ⟨⟨s0, s1, s2⟩, t0, t1, t2⟩ := c3 HR7.out.res
                have HR8 := hide ((HR7.out.setB (v := .string ⟨#[]⟩) 0 (by decide) rfl))
                obtain ⟨⟨v0, v1, v2⟩, x0, x1, x2⟩ := c3 HR8.out.res
                have HR9 := hide ((HR8.out.setB (v := .slice none 0 0) 1 (by decide) rfl))
                obtain ⟨⟨v3, v4, v5⟩, x3, x4, x5⟩ := c3 HR9.out.res
                have HRA := hide ((HR9.out.setB (v := .slice none 0 0) 2 (by decide) rfl))
                go_wp2_with fail
                obtain ⟨rA, -⟩ := c3 HRA.out.res
                refine bun_ret (b := w.heap.size) rfl rfl rfl rA ?_
                exact post_err HRR.out HRA.out.bel
              · have hbgi : ¬ (200000 : Int) < ((bdF l q).size : Int) := by omega
                rw [if_neg hbg] at HBR
                have hBH := HR6.out.hB
                obtain ⟨⟨s0, s1, s2⟩, t0, t1, t2⟩ := c3 HR7.out.res
                have HR8 := hide ((HR7.out.setB (v := .string (bdF l q)) 0 (by decide) rfl))
                obtain ⟨⟨v0, v1, v2⟩, x0, x1, x2⟩ := c3 HR8.out.res
                have HR9 := hide ((HR8.out.setB (v := .slice AP q cP) 1 (by decide) rfl))
                obtain ⟨⟨v3, v4, v5⟩, x3, x4, x5⟩ := c3 HR9.out.res
                have HRA := hide ((HR9.out.setB (v := .slice AQ q cQ) 2 (by decide) rfl))
                go_wp2_with fail
                obtain ⟨rA, -⟩ := c3 HRA.out.res
                refine bun_ret (b := w.heap.size) rfl rfl rfl rA ?_
                refine ⟨.slice AP q cP, .slice AQ q cQ, by rw [HBR.out]; rfl, ?_, ?_, HRA.out.bel⟩
                · rw [HBR.out]
                  have rp := HRA.out.rp
                  rw [strsL_len] at rp
                  simp only [pthF_len]
                  rw [strs_all, hn]
                  exact rp
                · rw [HBR.out]
                  have rq := HRA.out.rq
                  rw [intsL_len] at rq
                  simp only [endF_len]
                  rw [ints_all]
                  exact rq
            · have HRR := hide (show bunR l = errD ez by rw [HBR.out, if_pos hz])
              go_wp2_with fail
              refine bun_ret (b := w.heap.size) rfl rfl rfl (c3s r0 r1 r2) ?_
              exact post_err HRR.out (((HS5.out.bel.setCell (Nat.le_refl _) _).setCell (Nat.le_refl _) _).setCell (Nat.le_refl _) _)
end bn
end Go.Proofs.YtiiohopjkepkgaaGreatDoor
