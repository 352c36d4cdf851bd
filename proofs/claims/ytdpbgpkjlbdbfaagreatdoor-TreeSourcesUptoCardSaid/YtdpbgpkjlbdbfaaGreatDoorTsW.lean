/-
  A listed variable that holds a map from strings to numbers: what the list says of memory; what TreeSources may count on.
-/
import Derived.Test.YtdpbgpkjlbdbfaaGreatDoorCard
import Derived.Test.YtdpbgpkjlbdbfaaGreatDoorTs8
import Derived.ChangeMaps3
namespace Go.Proofs.YtdpbgpkjlbdbfaaGreatDoor
open Go.RowKit Go.WideShapes Go.ChangeShapes Go.ChangeAt
set_option linter.unusedVariables false
set_option linter.unusedSimpArgs false
namespace ts
open rs
theorem smap_at {P : Program} {W : World} {name : String} {g : Nat} {t k e : TypeId} {L : List (Lit × DataW Unit)}
    (hg : P.globalNamed name = some g) (hty : (P.globals[g]?).map (·.type) = some t) (ht : P.underlying t = some (.map k e)) (hk : P.underlying k = some .string) (he : P.underlying e = some (.int .i64)) :
    ∀ (laid : List (String × DataW Unit)) (i : Nat) (ps : List MemPlace), laid[i]? = some (name, .map L) → DataW.LaidVars P W laid ps →
      ∃ b arr clk, W.cell? ⟨g, 0, none⟩ = some (.map (some b)) ∧ W.heap[b]? = some (.map arr clk) ∧ Go.ChangeMaps.Fit Unit P k .i64 arr clk ∧ L = (arr.toList.map (Go.ChangeMaps.rg Unit P k .i64)).foldr DataW.insert []
  | [], i, _, h, _ => by simp at h
  | (n', d) :: r, 0, ps, h, hl => by
    simp at h
    obtain ⟨rfl, rfl⟩ := h
    obtain ⟨g', t', cs, fuel, p, q, hg', ht', hvar, hd, _, _⟩ := hl
    obtain rfl := Option.some.inj (hg.symm.trans hg')
    obtain rfl := Option.some.inj (hty.symm.trans ht')
    have hcell : ∀ k v, cs[k]? = some v → W.cell? ⟨g, k, none⟩ = some v := by
      intro k v hk
      unfold World.var? at hvar
      rw [hg] at hvar
      simp only [Option.bind_some] at hvar
      split at hvar
      · rename_i arr u v' hh
        injection hvar with hvar
        subst hvar
        unfold World.cell?
        simp [hh, hk]
      · cases hvar
    rcases Go.ChangeMaps.open_map ht hk he hd with ⟨_, hx⟩ | ⟨b, es, clock, hcs, hb, _, F, hx⟩
    · injection hx with hx _
      cases hx
    · injection hx with hx _
      injection hx with hx
      refine ⟨b, es, clock, hcell 0 _ ?_, hb, F, hx⟩
      rw [← Array.getElem?_toList, hcs]
      rfl
  | (n', d) :: r, i + 1, ps, h, hl => by
    obtain ⟨g', t', cs, fuel, p, q, _, _, _, _, hr, _⟩ := hl
    exact smap_at hg hty ht hk he r i q (by simpa using h) hr
/-- The map's entries as data. -/
def entD (arr : Array MapEntry) : List (Value × DD) := arr.toList.map fun e => (e.key, .v e.val)
def kindsL : List (Lit × DataW Unit) := [(.string [97, 108, 105, 97, 115, 101, 115], .lit (.int .i64 5)), (.string [99, 97, 115, 99, 97, 100, 101], .lit (.int .i64 6)), (.string [100, 97, 116, 101], .lit (.int .i64 4)), (.string [100, 114, 97, 102, 116], .lit (.int .i64 1)), (.string [101, 120, 112, 105, 114, 101], .lit (.int .i64 4)), (.string [109, 101, 110, 117, 115], .lit (.int .i64 6)), (.string [112, 117, 98, 108, 105, 115, 104], .lit (.int .i64 4)), (.string [115, 108, 117, 103], .lit (.int .i64 3)), (.string [116, 105, 116, 108, 101], .lit (.int .i64 3)), (.string [116, 114, 97, 110, 115, 108, 97, 116, 105, 111, 110], .lit (.int .i64 3)), (.string [119, 101, 105, 103, 104, 116], .lit (.int .i64 2))]
/-- Where the map of kinds lies, and its entries. -/
structure Pl where
  b : Nat
  arr : Array MapEntry
  clk : Nat
/-- What the entries are. -/
def Pl.Good (p : Pl) : Prop := (∀ x ∈ entD p.arr, KF.str.ok x.1) ∧ ((entD p.arr).map (·.1)).Nodup ∧ (∀ x ∈ p.arr.toList, okB x.val = true) ∧ ∀ k, Look (entD p.arr) (.string k) (i64 0) (decide (0 ≤ kindK k), i64 (kindN k))
theorem rd_all {P : Program} {k : TypeId} (hk : P.underlying k = some .string) {x : MapEntry} {y : Lit × DataW Unit} (h : Go.ChangeMaps.rd P k .i64 x = some y) :
    ∃ (s : ByteArray) (n : Int), x.key = .string s ∧ s.size ≤ maxLen ∧ x.val = .int .i64 n ∧ y = (.string s.data.toList, .lit (.int .i64 n)) := by
  obtain ⟨s, h1, h2, h3⟩ := Go.ChangeMaps.rd_some hk h
  unfold Go.ChangeMaps.rd at h
  rw [h3, Option.bind_some, Option.map_eq_some_iff] at h
  obtain ⟨d, h4, h5⟩ := h
  have hs : s.size ≤ maxLen := by
    rw [h1] at h3
    unfold mapKey at h3
    rw [hk] at h3
    simp only at h3
    split at h3
    · assumption
    · cases h3
  unfold Go.ChangeMaps.rdv at h4
  split at h4
  · rename_i k' n hv
    split at h4
    · rename_i hc
      injection h4 with h4
      refine ⟨s, n, h1, hs, by rw [hv, hc.1], ?_⟩
      rw [← h5, ← h4, h2]
    · cases h4
  · cases h4
theorem lit_str {a b : ByteArray} (h : a.data.toList = b.data.toList) : a = b := toL_ext h
set_option maxHeartbeats 4000000 in
theorem good_of {P : Program} {k : TypeId} {arr : Array MapEntry} {clk b : Nat} (hk : P.underlying k = some .string) (F : Go.ChangeMaps.Fit Unit P k .i64 arr clk) (hL : kindsL = (arr.toList.map (Go.ChangeMaps.rg Unit P k .i64)).foldr DataW.insert []) : Pl.Good ⟨b, arr, clk⟩ := by
  have hr : ∀ x ∈ arr.toList, ∃ (s : ByteArray) (n : Int), x.key = .string s ∧ s.size ≤ maxLen ∧ x.val = .int .i64 n ∧ Go.ChangeMaps.rg Unit P k .i64 x = (.string s.data.toList, .lit (.int .i64 n)) := fun x hx => by
    obtain ⟨y, hy⟩ := F.reads x hx
    obtain ⟨s, n, h1, h2, h3, h4⟩ := rd_all hk hy
    exact ⟨s, n, h1, h2, h3, by rw [Go.ChangeMaps.rg_of hy, h4]⟩
  have hin : ∀ p, p ∈ kindsL ↔ p ∈ arr.toList.map (Go.ChangeMaps.rg Unit P k .i64) := fun p => by
    rw [hL]
    exact (sorted_perm _).mem_iff
  refine ⟨fun x hx => ?_, ?_, fun x hx => ?_, fun s => ?_⟩
  · obtain ⟨e, he, rfl⟩ := List.mem_map.1 hx
    obtain ⟨s, n, h1, h2, _, _⟩ := hr e he
    exact ⟨s, h1, h2⟩
  · unfold entD
    rw [List.map_map]
    have hp := F.apart hk
    rw [List.pairwise_map] at hp
    rw [List.nodup_iff_pairwise_ne, List.pairwise_map]
    refine List.Pairwise.imp_of_mem (fun {x y} hx hy hne e => hne ?_) hp
    obtain ⟨s, n, h1, _, _, h4⟩ := hr x hx
    obtain ⟨s', n', h1', _, _, h4'⟩ := hr y hy
    have e : x.key = y.key := e
    rw [h1, h1'] at e
    injection e with e
    rw [h4, h4', e]
  · obtain ⟨s, n, h1, _, h3, _⟩ := hr x hx
    have hwf : (Lit.int .i64 n).wf = true ∨ True := .inr trivial
    rw [h3]
    rfl
  · by_cases h0 : 0 ≤ kindK s
    · have hmem : ((.string s.data.toList, .lit (.int .i64 (kindK s))) : Lit × DataW Unit) ∈ kindsL := by
        unfold kindK at h0 ⊢
        unfold kindsL
        repeat' split at h0
        all_goals first
          | (exfalso; revert h0; decide)
          | (rename_i h; rcases h with rfl | rfl | rfl <;> simp)
          | (rename_i h; rcases h with rfl | rfl <;> simp)
          | (rename_i h; subst h; simp)
      rw [hin] at hmem
      obtain ⟨x, hx, hxe⟩ := List.mem_map.1 hmem
      obtain ⟨s', n, h1, _, h3, h4⟩ := hr x hx
      rw [h4] at hxe
      injection hxe with q1 q2
      injection q1 with q1
      injection q2 with q2
      injection q2 with _ q2
      refine .inl ⟨(x.key, .v x.val), List.mem_map.2 ⟨x, hx, rfl⟩, ?_, ?_⟩
      · rw [h1, toL_ext q1]
      · unfold kindN
        rw [if_pos h0, decide_eq_true h0, h3, q2]
    · refine .inr ⟨fun p hp e => h0 ?_, ?_⟩
      · obtain ⟨x, hx, rfl⟩ := List.mem_map.1 hp
        obtain ⟨s', n, h1, _, h3, h4⟩ := hr x hx
        have e : x.key = .string s := e
        rw [h1] at e
        injection e with e
        subst e
        have hmem := (hin (Go.ChangeMaps.rg Unit P k .i64 x)).2 (List.mem_map.2 ⟨x, hx, rfl⟩)
        rw [h4] at hmem
        unfold kindsL at hmem
        simp only [List.mem_cons, List.not_mem_nil, or_false, Prod.mk.injEq, Lit.string.injEq] at hmem
        have hs : ∀ l : List UInt8, s'.data.toList = l → s' = ⟨l.toArray⟩ := fun l h => toL_ext (by rw [h])
        rcases hmem with h | h | h | h | h | h | h | h | h | h | h <;> (rw [hs _ h.1]; decide)
      · unfold kindN
        rw [decide_eq_false h0, if_neg h0]
/-- What the law may count on. -/
def KG (p : Pl) (W : World) : Prop := ML W ∧ W.cell? ⟨1, 0, none⟩ = some (.map (some p.b)) ∧ W.heap[p.b]? = some (.map p.arr p.clk)
def kM (p : Pl) : Nat := max (max 0 1) p.b + 1
theorem KG.lt {p : Pl} {W : World} (h : KG p W) : kM p ≤ W.heap.size := by
  have h1 := h.1.lt
  have h2 := World.block_lt_of_cell? W ⟨_, 0, none⟩ h.2.1
  have h3 : p.b < W.heap.size := (Array.getElem?_eq_some_iff.1 h.2.2).1
  unfold kM
  have h2 : 1 < W.heap.size := h2
  omega
theorem KG.kp {p : Pl} {W W' : World} (h : KG p W) (hk : Kp (kM p) noS W W') : KG p W' := by
  obtain ⟨⟨m, h1⟩, h2, h3⟩ := h
  exact ⟨⟨m, (hk.cell (by unfold kM; omega) (fun h => h)).trans h1⟩, (hk.cell (by unfold kM; omega) (fun h => h)).trans h2, (hk.block _ (by unfold kM; omega) (fun h => h)).trans h3⟩
def env0 (p : Pl) : Env := ⟨kM p, KG p, fun w h => h.lt, fun w w' h hk => h.kp hk, fun b' _ => b' = 1, fun b' _ h => by unfold kM; omega, fun _ => .opq, fun _ _ _ => .opq⟩
theorem kinds_gv (p : Pl) (W : World) (h : KG p W) (g : Nat) : Rep view (fun b' _ => b' = 1) W b0 (kindsGv p.b g) (.pointer (some ⟨g, 0, none⟩)) := by
  unfold kindsGv
  cases hb : Nat.beq g 1
  · exact .opq
  · have hb := Nat.eq_of_beq_eq_true hb
    subst hb
    refine .ref (fun _ => .map (some p.b)) (fun j hj => ?_) (fun j hj => .v rfl)
    obtain rfl : j = 0 := by omega
    exact ⟨rfl, h.2.1, rfl⟩
theorem kinds_gm (p : Pl) (hp : p.Good) : ∃ es, GMap (cx Tryz.prog mixed tyT_ok (kEnv (env0 p) p.b (kinds_gv p))) .str p.b es ∧ ∀ k, Look es (.string k) (i64 0) (decide (0 ≤ kindK k), i64 (kindN k)) := by
  obtain ⟨h1, h2, h3, h4⟩ := hp
  refine ⟨entD p.arr, ⟨h1, h2, fun w hw => ⟨p.arr, p.clk, hw.2.2, ?_, fun i d hi => ?_⟩⟩, h4⟩
  · unfold entD
    rw [List.map_map]
    rfl
  · unfold entD at hi
    rw [List.map_map, List.getElem?_map] at hi
    obtain ⟨x, hx, rfl⟩ := Option.map_eq_some_iff.1 hi
    have hx2 : p.arr[i]? = some x := by simpa using hx
    have e : p.arr.getD i default = x := by simp [Array.getD_eq_getD_getElem?, hx2]
    rw [e]
    exact .v (h3 x (List.mem_of_getElem? hx))
end ts
end Go.Proofs.YtdpbgpkjlbdbfaaGreatDoor
