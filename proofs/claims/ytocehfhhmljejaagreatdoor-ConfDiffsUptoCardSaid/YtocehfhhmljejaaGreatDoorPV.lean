/-
  Arguments open into data, over any program (second engine): what a row's reading of a type gives as data, with a weight below the reading's bulk. api.Value and lists of strings and of values as arguments.
-/
import Derived.Test.YtocehfhhmljejaaGreatDoorElems
import Derived.Test.YtocehfhhmljejaaGreatDoorN17
import Derived.Test.YtocehfhhmljejaaGreatDoorQ6
namespace Go.Proofs.YtocehfhhmljejaaGreatDoor
open Go.RowKit
set_option linter.unusedVariables false
set_option linter.unusedSimpArgs false

def MW (W : World) (b o : Nat) : Prop := b < W.heap.size

section
variable {κ : Type}
def Opn (X : Cx κ) (N : Nat) (t : TypeId) (R : List (D κ) → Nat → Prop) : Prop :=
  ∀ {H : Type} (enc : TypeId × Value → H) (W : World) (fu : Nat), fu < N → ∀ (cs : List Value) (y : DataW H) (z : List MemPlace), DataW.trod enc X.P W 0 (fun _ => true) true fu t cs = some (y, z) → Sz X.P t y →
    ∃ ds n, R ds n ∧ n ≤ Rows.uptoBulk y ∧ RepC X.V (MW W) W b0 ds cs.toArray

variable {X : Cx κ}
theorem Opn.mono {N : Nat} {t : TypeId} {R R' : List (D κ) → Nat → Prop} (h : Opn X N t R) (hc : ∀ ds n, R ds n → ∃ ds' n', R' ds' n' ∧ n' ≤ n ∧ cellsOk X ds ds') : Opn X N t R' := by
  intro H enc W fu hf cs y z hy hs
  obtain ⟨ds, n, hr, hn, hq⟩ := h enc W fu hf cs y z hy hs
  obtain ⟨ds', n', hr', hn', hc⟩ := hc ds n hr
  obtain ⟨hl, hd⟩ := cellsOk_spec hc
  refine ⟨ds', n', hr', by omega, ⟨hq.n.trans hl, fun i hi => hq.o i (by omega), fun i d hi => ?_⟩⟩
  obtain ⟨e, he, hle⟩ := hd i d hi
  exact hle.ap (hq.r i e he)
theorem repc_cell {V : VW κ} {M : Nat → Nat → Prop} {w : World} {d : D κ} {x : Value} (h1 : x.oneCell' = true) (h : Rep V M w b0 d x) : RepC V M w b0 [d] #[x] :=
  ⟨rfl, fun i hi => by obtain rfl : i = 0 := by simpa using hi
                       exact h1, fun i e hi => by
    match i, hi with
    | 0, hi =>
      simp only [List.getElem?_cons_zero, Option.some.injEq] at hi
      subst hi
      exact h
    | i + 1, hi => simp at hi⟩
theorem opn_int {N : Nat} {t : TypeId} (ht : X.P.underlying t = some (.int .i64)) : Opn X N t (fun ds n => ∃ k, In64 k ∧ ds = [.v (.int .i64 k)] ∧ n = 0) := by
  intro H enc W fu hf cs y z hy hs
  obtain ⟨k, rfl, hk⟩ := rdg_i64 ht (⟨fu, _, hy, hs⟩ : Rdg enc X.P W t cs)
  exact ⟨_, _, ⟨k, hk, rfl, rfl⟩, Nat.zero_le _, repc_cell rfl (.v rfl)⟩
theorem opn_bool {N : Nat} {t : TypeId} (ht : X.P.underlying t = some .bool) : Opn X N t (fun ds n => ∃ b : Bool, ds = [.v (.bool b)] ∧ n = 0) := by
  intro H enc W fu hf cs y z hy hs
  obtain ⟨k, rfl⟩ := rdg_bool ht (⟨fu, _, hy, hs⟩ : Rdg enc X.P W t cs)
  exact ⟨_, _, ⟨k, rfl, rfl⟩, Nat.zero_le _, repc_cell rfl (.v rfl)⟩
theorem opn_str {N : Nat} {t : TypeId} (ht : X.P.underlying t = some .string) : Opn X N t (fun ds n => ∃ s : ByteArray, s.size ≤ 140737488351232 ∧ ds = [.v (.string s)] ∧ n = s.size + 1) := by
  intro H enc W fu hf cs y z hy hs
  obtain ⟨s, rfl, hs1, hs2⟩ := trod_str_w ht hy hs
  exact ⟨_, _, ⟨s, hs1, rfl, rfl⟩, by omega, repc_cell rfl (.v (decide_eq_true (Nat.le_trans hs1 (by decide))))⟩

theorem cellsOf_eq (X : Cx κ) {t : TypeId} (h : (X.T t).known = true) : X.P.cellsOf t = (X.T t).size ∧ X.P.bytesOf t = (X.T t).bytes ∧ 0 < (X.T t).size ∧ 0 < (X.T t).bytes := by
  obtain ⟨h1, _, _, _, j, h2, h3, h4, _⟩ := X.info (TyI.known_ne h)
  have h5 := X.bytes (TyI.known_ne h)
  unfold Program.cellsOf Program.bytesOf
  rw [h2]
  exact ⟨h3, h4, h1, h5⟩

theorem list_o {H : Type} {V : VW κ} {M : Nat → Nat → Prop} {W : World} (R : List (D κ) → Nat → Prop) : ∀ (l : List (List Value × DataW H)), (∀ x ∈ l, ∃ ds n, R ds n ∧ n ≤ Rows.uptoBulk x.2 ∧ RepC V M W b0 ds x.1.toArray) →
    ∃ l' : List (List (D κ) × Nat), l'.length = l.length ∧ (∀ (i : Nat) (x : List Value × DataW H) (p : List (D κ) × Nat), l[i]? = some x → l'[i]? = some p → RepC V M W b0 p.1 x.1.toArray) ∧ (∀ a ∈ l', R a.1 a.2) ∧ (l'.map (·.2)).sum ≤ Rows.uptoBulkAll (l.map (·.2))
  | [], _ => ⟨[], rfl, fun i x p h => by simp at h, fun a h => by simp at h, by simp⟩
  | x :: l, hd => by
    obtain ⟨ds, n, ha, hg, hc⟩ := hd x (List.mem_cons_self)
    obtain ⟨l', hl', hr', hg', hc'⟩ := list_o R l (fun x' h' => hd x' (List.mem_cons_of_mem _ h'))
    refine ⟨(ds, n) :: l', by simp [hl'], fun i y p hy hp => ?_, fun b hb => ?_, ?_⟩
    · match i, hy, hp with
      | 0, hy, hp =>
        simp only [List.getElem?_cons_zero, Option.some.injEq] at hy hp
        subst hy hp
        exact hc
      | i + 1, hy, hp => exact hr' i y p (by simpa using hy) (by simpa using hp)
    · rcases List.mem_cons.1 hb with rfl | hb
      · exact ha
      · exact hg' b hb
    · simp only [List.map_cons, List.sum_cons, Rows.uptoBulkAll]
      omega
theorem opn_slice {N : Nat} {t e : TypeId} {R : List (D κ) → Nat → Prop} (ht : X.P.underlying t = some (.slice e)) (hk : (X.T e).known = true) (h : Opn X N e R) :
    Opn X (N + 1) t (fun ds n => ∃ l : List (List (D κ) × Nat), (∀ x ∈ l, R x.1 x.2 ∧ x.1.length = (X.T e).size) ∧ l.length * (X.T e).bytes ≤ 140737488351232 ∧ ds = [.sl (X.T e).size (X.T e).bytes l.length (fun i j => (l.getD i ([], 0)).1.getD j .opq)] ∧ n = (l.map (·.2)).sum) := by
  intro H enc W fu hf cs y z hy hs
  obtain ⟨hce, hbe, hs0, hb0⟩ := cellsOf_eq X hk
  obtain ⟨A, n, c, l, rfl, hn, hsl, hr, hel, hbulk⟩ := trod_elems ht (by omega) hy hs
  obtain ⟨l', hl', hrep, hR, hw⟩ := list_o (V := X.V) (M := MW W) (W := W) R l (fun x hx => by
    obtain ⟨_, m, z', hm, h1, h2⟩ := hel x hx
    exact h enc W m (by omega) x.1 x.2 z' h1 h2)
  have hlen : ∀ x ∈ l', x.1.length = (X.T e).size := fun x hx => by
    obtain ⟨i, hi, rfl⟩ := List.getElem_of_mem hx
    have h1 := hrep i _ _ (List.getElem?_eq_getElem (by omega)) (List.getElem?_eq_getElem hi)
    have h2 := (hel _ (List.getElem_mem (show i < l.length by omega))).1
    have := h1.n
    simp at this
    omega
  have hcb := hsl.cb
  simp only at hbulk
  rw [hbe] at hcb
  have hnc : n * (X.T e).bytes ≤ 140737488351232 := Nat.le_trans (Nat.mul_le_mul_right _ hsl.nc) hcb
  have hcm : c ≤ maxLen := by
    have : c * 1 ≤ c * (X.T e).bytes := Nat.mul_le_mul_left _ hb0
    have h2 : c ≤ 140737488351232 := by omega
    exact Nat.le_trans h2 (by decide)
  refine ⟨_, _, ⟨l', fun x hx => ⟨hR x hx, hlen x hx⟩, by rw [hl', hn]; exact hnc, rfl, rfl⟩, by omega, repc_cell rfl ?_⟩
  rw [hl', hn]
  cases A with
  | none =>
    obtain rfl : c = 0 := hsl.nil rfl
    obtain rfl : n = 0 := by have := hsl.nc; omega
    exact .nil (by decide) (fun _ => rfl)
  | some a =>
    rcases Nat.eq_zero_or_pos n with h0 | h0
    · subst h0
      exact .nil hcm (fun h => by cases h)
    · rcases hr with hr | ⟨b, o, hA, hr⟩
      · rw [List.map_eq_nil_iff] at hr
        subst hr
        simp at hn
        omega
      · injection hA with hA
        subst hA
        have key : ∀ i, i < n → ∃ x p, l[i]? = some x ∧ l'[i]? = some p ∧ RepC X.V (MW W) W b0 p.1 x.1.toArray ∧ p.1.length = (X.T e).size ∧ ∀ j v, x.1[j]? = some v → W.cell? ⟨b, o + i * (X.T e).size + j, none⟩ = some v := by
          intro i hi
          have h1 : l[i]? = some (l[i]'(by omega)) := List.getElem?_eq_getElem (by omega)
          have h2 : l'[i]? = some (l'[i]'(by omega)) := List.getElem?_eq_getElem (by omega)
          refine ⟨_, _, h1, h2, hrep i _ _ h1 h2, hlen _ (List.getElem_mem _), fun j v hv => ?_⟩
          have := hr i (l[i]'(by omega)).1 (by rw [List.getElem?_map, h1]; rfl) j v hv
          rw [hce] at this
          exact this
        refine .sl (fun i j => ((l.getD i ([], .nil)).1.getD j undef)) hsl.nc hcm (by omega) (fun i j hi hj => ?_) (fun i j hi hj => ?_)
        · obtain ⟨x, p, h1, h2, h3, h4, h5⟩ := key i hi
          have h6 := h3.n
          simp only [List.size_toArray] at h6
          have h7 : x.1[j]? = some (x.1[j]'(by omega)) := List.getElem?_eq_getElem (by omega)
          have h8 := h5 j _ h7
          have h9 := h3.o j (by omega)
          simp only [List.getD, h1, Option.getD_some, h7]
          refine ⟨World.block_lt_of_cell? W ⟨b, o + i * (X.T e).size + j, none⟩ h8, h8, ?_⟩
          have h10 : j < x.1.length := by omega
          simpa [Array.getD, h10] using h9
        · obtain ⟨x, p, h1, h2, h3, h4, h5⟩ := key i hi
          have h6 := h3.n
          simp only [List.size_toArray] at h6
          have h10 : j < x.1.length := by omega
          have h7 := h3.r j (p.1[j]'(by omega)) (List.getElem?_eq_getElem (by omega))
          simp only [List.getD, h1, h2, Option.getD_some]
          rw [List.getElem?_eq_getElem (by omega), List.getElem?_eq_getElem h10]
          simpa [Array.getD, h10] using h7

theorem repc_app {V : VW κ} {M : Nat → Nat → Prop} {w : World} {ds es : List (D κ)} {va vb : List Value} (h : RepC V M w b0 ds va.toArray) (g : RepC V M w b0 es vb.toArray) : RepC V M w b0 (ds ++ es) (va ++ vb).toArray := by
  have h1 := h.n
  have g1 := g.n
  simp only [List.size_toArray] at h1 g1
  refine ⟨by simp [h1, g1], fun i hi => ?_, fun i d hd => ?_⟩
  · rcases Nat.lt_or_ge i va.length with hl | hl
    · have := h.o i (by omega)
      simpa [Array.getD, hl, List.getElem_append_left, show i < va.length + vb.length by omega] using this
    · have h2 : i - va.length < vb.length := by simp at hi; omega
      have := g.o (i - va.length) (by omega)
      simpa [Array.getD, hl, h2, List.getElem_append_right, show i < va.length + vb.length by omega] using this
  · rcases Nat.lt_or_ge i va.length with hl | hl
    · rw [List.getElem?_append_left (by omega)] at hd
      have := h.r i d hd
      simpa [Array.getD, hl, List.getElem_append_left, show i < va.length + vb.length by omega] using this
    · rw [List.getElem?_append_right (by omega)] at hd
      have h2 : i - va.length < vb.length := by
        have := (List.getElem?_eq_some_iff.1 hd).1
        omega
      have := g.r (i - va.length) d (by rw [h1]; exact hd)
      simpa [Array.getD, hl, h2, List.getElem_append_right, show i < va.length + vb.length by omega] using this

def tight (X : Cx κ) : Nat → List Field → Bool
  | _, [] => true
  | o, f :: r => Nat.beq f.offset o && (X.T f.type).known && tight X (o + (X.T f.type).size) r
def OpnAll (X : Cx κ) (N : Nat) : List Field → List (List (D κ) → Nat → Prop) → Prop
  | [], [] => True
  | f :: r, R :: s => Opn X N f.type R ∧ OpnAll X N r s
  | _, _ => False
def RAll : List (List (D κ) → Nat → Prop) → List (D κ) → Nat → Prop
  | [], ds, n => ds = [] ∧ n = 0
  | R :: s, ds, n => ∃ d1 n1 d2 n2, R d1 n1 ∧ RAll s d2 n2 ∧ ds = d1 ++ d2 ∧ n = n1 + n2
def cellsSum (X : Cx κ) : List Field → Nat
  | [] => 0
  | f :: r => (X.T f.type).size + cellsSum X r
theorem opn_fields {N fu : Nat} {H : Type} {enc : TypeId × Value → H} {W : World} (hfu : fu < N) : ∀ (fs : List Field) (Rs : List (List (D κ) → Nat → Prop)) (xs : List (DataW H × List MemPlace)) (o : Nat) (cs : List Value), tight X o fs = true → OpnAll X N fs Rs → xs.length = fs.length → o + cellsSum X fs ≤ cs.length →
    (∀ (i : Nat) (f : Field), fs[i]? = some f → ∃ x, xs[i]? = some x ∧ DataW.trod enc X.P W 0 (fun _ => true) true fu f.type ((cs.drop f.offset).take (X.P.cellsOf f.type)) = some x ∧ Sz X.P f.type x.1) →
    ∃ ds n, RAll Rs ds n ∧ n ≤ Rows.uptoBulkAll (xs.map (·.1)) ∧ RepC X.V (MW W) W b0 ds ((cs.drop o).take (cellsSum X fs)).toArray
  | [], [], xs, o, cs, _, _, hl, _, _ => by
    refine ⟨[], 0, ⟨rfl, rfl⟩, Nat.zero_le _, ?_⟩
    simp only [cellsSum, List.take_zero]
    exact ⟨rfl, fun i hi => by simp at hi, fun i d hd => by simp at hd⟩
  | f :: r, R :: s, xs, o, cs, ht, hO, hl, hlen, hf => by
    match xs, hl with
    | x :: xs, hl =>
      simp only [tight, Bool.and_eq_true] at ht
      obtain ⟨⟨h1, h2⟩, h3⟩ := ht
      have h1 := Nat.eq_of_beq_eq_true h1
      obtain ⟨hce, _, _, _⟩ := cellsOf_eq X h2
      simp only [cellsSum] at hlen
      obtain ⟨x', hx', htr, hsz⟩ := hf 0 f rfl
      simp only [List.getElem?_cons_zero, Option.some.injEq] at hx'
      subst hx'
      obtain ⟨d1, n1, hr1, hn1, hq1⟩ := hO.1 enc W fu hfu _ x.1 x.2 htr hsz
      obtain ⟨d2, n2, hr2, hn2, hq2⟩ := opn_fields hfu r s xs (o + (X.T f.type).size) cs h3 hO.2 (by simpa using hl) (by omega) (fun i g hg => by
        obtain ⟨x', h4, h5⟩ := hf (i + 1) g (by simpa using hg)
        exact ⟨x', by simpa using h4, h5⟩)
      refine ⟨_, _, ⟨d1, n1, d2, n2, hr1, hr2, rfl, rfl⟩, ?_, ?_⟩
      · simp only [List.map_cons, Rows.uptoBulkAll]
        omega
      · rw [h1, hce] at hq1
        have e : (cs.drop o).take (cellsSum X (f :: r)) = (cs.drop o).take (X.T f.type).size ++ (cs.drop (o + (X.T f.type).size)).take (cellsSum X r) := by
          rw [cellsSum, List.take_add, List.drop_drop]
        rw [e]
        exact repc_app hq1 hq2
theorem opn_struct {N : Nat} {t : TypeId} {fs : Array Field} {Rs : List (List (D κ) → Nat → Prop)} (ht : X.P.underlying t = some (.struct fs)) (hk : (X.T t).known = true) (hti : tight X 0 fs.toList = true) (hc : cellsSum X fs.toList = (X.T t).size) (h : OpnAll X N fs.toList Rs) :
    Opn X (N + 1) t (RAll Rs) := by
  intro H enc W fu hf cs y z hy hs
  obtain ⟨hce, _, _, _⟩ := cellsOf_eq X hk
  obtain ⟨xs, n, hfu, hx, hl, hxl, hfs⟩ := DataW.trod_struct ht hy
  injection hx with hx1 hx2
  obtain ⟨ds, m, hr, hm, hq⟩ := opn_fields (X := X) (N := N) (fu := n) (enc := enc) (W := W) (by omega) fs.toList Rs xs 0 cs hti h (by simpa using hxl) (by omega) (fun i f hi => by
    rw [Array.getElem?_toList] at hi
    have h1 := hfs i f hi
    have hil : i < fs.size := (Array.getElem?_eq_some_iff.1 hi).1
    refine ⟨xs[i]'(by omega), List.getElem?_eq_getElem (by omega), by rw [h1]; exact List.getElem?_eq_getElem (by omega), fun m hm => hs m ?_⟩
    rw [hx1]
    simp only [DataW.weights, ht]
    refine sz_each (j := i) (t := f.type) (d := (xs[i]'(by omega)).1) ?_ ?_ hm
    · rw [List.getElem?_map, Array.getElem?_toList, hi]; rfl
    · rw [List.getElem?_map, List.getElem?_eq_getElem (by omega)]; rfl)
  refine ⟨ds, m, hr, ?_, ?_⟩
  · rw [hx1]
    simp only [Rows.uptoBulk]
    omega
  · rw [List.drop_zero, List.take_of_length_le (by omega)] at hq
    exact hq
theorem Opn.le {N M : Nat} {t : TypeId} {R : List (D κ) → Nat → Prop} (h : Opn X N t R) (hm : M ≤ N) : Opn X M t R :=
  fun enc W fu hf => h enc W fu (by omega)
theorem opn_zero {t : TypeId} {R : List (D κ) → Nat → Prop} : Opn X 0 t R := fun _ _ _ h => absurd h (by omega)
theorem Sp.law {f : FuncId} {ds : List (D κ)} (h : Sp X f ds (.v (.bool true))) {W : World} (hG : X.G W) {vs : Array Value} (hn : vs.size = ds.length) (hr : ∀ i d, ds[i]? = some d → Rep X.V (MW W) W b0 d (vs.getD i undef)) (he : Ent X.P f) :
    Calls X.P f vs W fun e W' => e = .returned (.bool true) ∧ Below W.heap.size W W' := by
  rcases h with h | h
  rotate_left
  · obtain ⟨x, hx, _⟩ := h (MW W) b0 W vs hn hr
    obtain ⟨fn, c, hf, hname, hb⟩ := he
    have h1 : fn.name ≠ "runtime.NumGoroutine" := by simpa using hname
    have : (callFunc f vs).run X.P W = .ok (.enter f vs) W := by simp [callFunc, hf, h1, hb]
    rw [this] at hx
    cases hx
  refine (h.2 (MW W) b0 W vs hG (fun b o hm => Nat.lt_of_lt_of_le (X.mg b o hm) (X.gsz W hG)) (fun b o hb => hb) hn hr ⟨fun l o hm => (by cases hm), fun l o l' o' b c c' hm => (by cases hm)⟩ (fun b ⟨l, o, c, hm, _⟩ => by cases hm)).mono fun e W' ⟨x, M', β', h1, h2, _, _, _, h3, _⟩ => ?_
  obtain ⟨rfl, _⟩ := h3.val
  exact ⟨h1, (h2.mono (S' := noS) (Nat.le_refl _) (fun b _ ⟨l, o, c, hm, _⟩ => by cases hm)).below⟩
theorem arg_struct {H : Type} {enc : TypeId × Value → H} {W : World} {r : Reach} {base : Nat} {t : TypeId} {v : Value} {d : DataW H} {p : List MemPlace} {R : List (D κ) → Nat → Prop} {fs : Array Field} (ht : X.P.underlying t = some (.struct fs)) (hO : ∀ N, Opn X N t R)
    (hok : Value.okWide X.P W r base t v) (h : DataW.Trod enc X.P W 0 (fun _ => true) true t v d p) (hsz : Sz X.P t d) : ∃ ds n, R ds n ∧ n ≤ Rows.uptoBulk d ∧ Rep X.V (MW W) W b0 (.agg ds) v := by
  obtain ⟨cs, rfl, _⟩ := Go.WideShapes.okWide_struct ht hok
  obtain ⟨fu, hfu⟩ := h
  obtain ⟨ds, n, h1, h2, h3⟩ := hO (fu + 1) enc W fu (by omega) _ d p hfu hsz
  have e : (Value.agg cs).cells.toList.toArray = cs := by simp [Value.cells]
  rw [e] at h3
  exact ⟨ds, n, h1, h2, .agg h3.n h3.o h3.r⟩
theorem rep_args2 {V : VW κ} {M : Nat → Nat → Prop} {w : World} {d0 d1 : D κ} {v0 v1 : Value} (h0 : Rep V M w b0 d0 v0) (h1 : Rep V M w b0 d1 v1) : ∀ i d, [d0, d1][i]? = some d → Rep V M w b0 d (#[v0, v1].getD i undef)
  | 0, d, h => by simp only [List.getElem?_cons_zero, Option.some.injEq] at h; subst h; exact h0
  | 1, d, h => by simp only [List.getElem?_cons_succ, List.getElem?_cons_zero, Option.some.injEq] at h; subst h; exact h1
  | i + 2, d, h => by simp at h
end
end Go.Proofs.YtocehfhhmljejaaGreatDoor
namespace Go.Proofs.YtocehfhhmljejaaGreatDoor
open Go.RowKit
set_option linter.unusedVariables false
set_option linter.unusedSimpArgs false
mutual
def Vu.wt : Vu → Nat
  | .mk _ _ _ t l ks => t.size + 1 + Vu.wtL l + (ks.map fun s => s.size + 1).sum
def Vu.wtL : List Vu → Nat
  | [] => 0
  | x :: r => Vu.wt x + Vu.wtL r
end
mutual
theorem cnt_le_wt : ∀ v : Vu, cnt v ≤ v.wt
  | .mk _ _ _ _ l _ => by have := cntL_le_wt l; simp only [cnt, Vu.wt]; omega
theorem cntL_le_wt : ∀ l : List Vu, cntL l ≤ Vu.wtL l
  | [] => by simp [cntL]
  | x :: r => by have := cnt_le_wt x; have := cntL_le_wt r; simp only [cntL, Vu.wtL]; omega
end
mutual
def Vu.i64 : Vu → Prop
  | .mk k _ i _ l _ => In64 k ∧ In64 i ∧ Vu.i64L l
def Vu.i64L : List Vu → Prop
  | [] => True
  | x :: r => Vu.i64 x ∧ Vu.i64L r
end
section
variable (E : Env)
theorem opn_strs {N : Nat} {t e : TypeId} (ht : (cx Tryz.prog mixed tyT_ok E).P.underlying t = some (.slice e)) (he : (cx Tryz.prog mixed tyT_ok E).P.underlying e = some .string) (hk : ((cx Tryz.prog mixed tyT_ok E).T e).known = true) (h1 : ((cx Tryz.prog mixed tyT_ok E).T e).size = 1) (h2 : ((cx Tryz.prog mixed tyT_ok E).T e).bytes = 16) :
    Opn (cx Tryz.prog mixed tyT_ok E) N t (fun ds n => ∃ l : List ByteArray, ds = [encStrs l] ∧ n = (l.map fun s => s.size + 1).sum) := by
  refine Opn.mono (Opn.le (opn_slice ht hk (opn_str he (N := N))) (Nat.le_succ _)) ?_
  rintro ds n ⟨l, hl, hb, rfl, rfl⟩
  have hex : ∃ l' : List ByteArray, l = l'.map fun s => ([.v (.string s)], s.size + 1) := by
    clear hb
    induction l with
    | nil => exact ⟨[], rfl⟩
    | cons x l ih =>
      obtain ⟨l', rfl⟩ := ih (fun y hy => hl y (List.mem_cons_of_mem _ hy))
      obtain ⟨⟨s, _, h3, h4⟩, _⟩ := hl x List.mem_cons_self
      exact ⟨s :: l', by rw [List.map_cons, ← h3, ← h4]⟩
  obtain ⟨l', rfl⟩ := hex
  refine ⟨_, _, ⟨l', rfl, rfl⟩, by rw [List.map_map]; exact Nat.le_refl _, ⟨?_, trivial⟩⟩
  rw [h1, h2]
  refine Dle.sl (by simp) (fun i j hi hj => Dle.of_eq ?_)
  obtain rfl : j = 0 := by omega
  have hi : i < l'.length := by simpa using hi
  simp [List.getD, hi]
theorem vals_of : ∀ (l : List (List DD × Nat)), (∀ x ∈ l, (∃ v : Vu, v.i64 ∧ x.1 = (encV v).cells ∧ v.wt ≤ x.2) ∧ x.1.length = 6) → ∃ vs : List Vu, Vu.i64L vs ∧ vs.length = l.length ∧ (∀ i, i < l.length → (l.getD i ([], 0)).1 = (encV (vs.getD i .zero)).cells) ∧ Vu.wtL vs ≤ (l.map (·.2)).sum
  | [], _ => ⟨[], trivial, rfl, fun i hi => by simp at hi, Nat.zero_le _⟩
  | x :: l, h => by
    obtain ⟨vs, h1, h2, h3, h4⟩ := vals_of l (fun y hy => h y (List.mem_cons_of_mem _ hy))
    obtain ⟨⟨v, h5, h6, h7⟩, _⟩ := h x List.mem_cons_self
    refine ⟨v :: vs, ⟨h5, h1⟩, by simp [h2], fun i hi => ?_, ?_⟩
    · match i, hi with
      | 0, _ => exact h6
      | i + 1, hi => exact h3 i (by simpa using hi)
    · simp only [Vu.wtL, List.map_cons, List.sum_cons]
      omega
theorem cell_eq (v : Vu) (j : Nat) (hj : j < 6) : (encV v).cells.getD j .opq = v.cell j := by
  match j, hj with
  | 0, _ => rfl
  | 1, _ => rfl
  | 2, _ => rfl
  | 3, _ => rfl
  | 4, _ => rfl
  | 5, _ => rfl
theorem opn_vals {N : Nat} (h : Opn (cx Tryz.prog mixed tyT_ok E) N 25 (fun ds n => ∃ v : Vu, v.i64 ∧ ds = (encV v).cells ∧ v.wt ≤ n)) :
    Opn (cx Tryz.prog mixed tyT_ok E) (N + 1) 22 (fun ds n => ∃ d : DD, ds = [d] ∧ ∃ l : List Vu, Vu.i64L l ∧ d = .rc (.vals l) ∧ Vu.wtL l ≤ n) := by
  refine Opn.mono (opn_slice (X := (cx Tryz.prog mixed tyT_ok E)) Tryz.underlying22 (by kernel_rfl) h) ?_
  rintro ds n ⟨l, hl, hb, rfl, rfl⟩
  obtain ⟨vs, h1, h2, h3, h4⟩ := vals_of l hl
  refine ⟨_, _, ⟨_, rfl, vs, h1, rfl, h4⟩, Nat.le_refl _, ⟨Dle.rc (X := (cx Tryz.prog mixed tyT_ok E)) ?_, trivial⟩⟩
  refine Dle.sl (X := (cx Tryz.prog mixed tyT_ok E)) (show l.length = vs.length from h2.symm) (fun i j hi hj => Dle.of_eq ?_)
  rw [h3 i hi]
  exact cell_eq _ _ hj
theorem opn_val : ∀ N, Opn (cx Tryz.prog mixed tyT_ok E) N 25 (fun ds n => ∃ v : Vu, v.i64 ∧ ds = (encV v).cells ∧ v.wt ≤ n)
  | 0 => opn_zero
  | N + 1 => by
    refine Opn.mono (opn_struct (X := (cx Tryz.prog mixed tyT_ok E)) (N := N) Tryz.underlying25 (by kernel_rfl) (by kernel_rfl) (by kernel_rfl) (Rs := [_, _, _, _, _, _])
      ⟨opn_int (X := (cx Tryz.prog mixed tyT_ok E)) Tryz.underlying3, opn_bool (X := (cx Tryz.prog mixed tyT_ok E)) Tryz.underlying4, opn_int (X := (cx Tryz.prog mixed tyT_ok E)) Tryz.underlying3, opn_str (X := (cx Tryz.prog mixed tyT_ok E)) Tryz.underlying9,
        Opn.le (opn_vals E (opn_val N)) (Nat.le_succ _), opn_strs E Tryz.underlying23 Tryz.underlying9 (by kernel_rfl) (by kernel_rfl) (by kernel_rfl), trivial⟩) ?_
    rintro ds n ⟨_, _, _, _, ⟨k, hk, rfl, rfl⟩, ⟨_, _, _, _, ⟨b, rfl, rfl⟩, ⟨_, _, _, _, ⟨i, hi, rfl, rfl⟩, ⟨_, _, _, _, ⟨t, ht, rfl, rfl⟩, ⟨_, _, _, _, ⟨_, rfl, l, hl, rfl, hw⟩, ⟨_, _, _, _, ⟨ks, rfl, rfl⟩, ⟨rfl, rfl⟩, rfl, rfl⟩, rfl, rfl⟩, rfl, rfl⟩, rfl, rfl⟩, rfl, rfl⟩, rfl, rfl⟩
    refine ⟨_, _, ⟨.mk k b i t l ks, ⟨hk, hi, hl⟩, rfl, Nat.le_refl _⟩, ?_, ⟨Dle.refl _ _, Dle.refl _ _, Dle.refl _ _, Dle.refl _ _, Dle.refl _ _, Dle.refl _ _, trivial⟩⟩
    simp only [Vu.wt]
    omega
end
end Go.Proofs.YtocehfhhmljejaaGreatDoor
