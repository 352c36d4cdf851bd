/-
  The reference's SchemaValueOf: what its maps hold; its small functions.
-/
import Derived.Test.YtgdoelfajfjopaaGreatDoorSw1
import Derived.Test.YtgdoelfajfjopaaGreatDoorTo1
namespace Go.Proofs.YtgdoelfajfjopaaGreatDoor
open Go.RowKit
set_option linter.unusedVariables false
set_option linter.unusedSimpArgs false
namespace sw
open cr se ap so tab mg rs
theorem pset_len (pm : List (ByteArray × Vu)) (k : ByteArray) (v : Vu) : (pset pm k v).length ≤ pm.length + 1 := by
  unfold pset
  split
  · rw [List.length_map]; omega
  · rw [List.length_append]; exact Nat.le_refl _
theorem pset_size {pm : List (ByteArray × Vu)} {k : ByteArray} {v : Vu} (h : ∀ p ∈ pm, p.1.size ≤ maxLen) (hk : k.size ≤ maxLen) : ∀ p ∈ pset pm k v, p.1.size ≤ maxLen := fun p hp => by
  rcases pset_mem.1 hp with rfl | ⟨hp, _⟩
  · exact hk
  · exact h p hp
def smallP (pm : List (ByteArray × Vu)) (n : Nat) : Prop := pm.length ≤ n ∧ ∀ p ∈ pm, p.1.size ≤ maxLen
theorem small_nil : smallP [] 0 := ⟨Nat.le_refl _, fun p hp => by cases hp⟩
theorem small_set {pm : List (ByteArray × Vu)} {n : Nat} (h : smallP pm n) (k : ByteArray) (v : Vu) (hk : k.size ≤ maxLen) : smallP (pset pm k v) (n + 1) := ⟨by have := pset_len pm k v; have := h.1; omega, pset_size h.2 hk⟩
theorem small_le {pm : List (ByteArray × Vu)} {n m : Nat} (h : smallP pm n) (hm : n ≤ m) : smallP pm m := ⟨by have := h.1; omega, h.2⟩
/-- A field's entries over those of its first part. -/
def p2m (pm : List (ByteArray × Vu)) (f : Fd) : List (ByteArray × Vu) := if f.bounded = true then pset (pset pm (⟨#[109, 105, 110]⟩ : ByteArray) (whl f.lo)) (⟨#[109, 97, 120]⟩ : ByteArray) (whl f.hi) else pm
def p3m (pm : List (ByteArray × Vu)) (f : Fd) : List (ByteArray × Vu) := if 0 < f.oneOf.length then pset (p2m pm f) (⟨#[111, 110, 101, 111, 102]⟩ : ByteArray) (lst (f.oneOf.map txt)) else p2m pm f
def fieldPm (pm : List (ByteArray × Vu)) (f : Fd) : List (ByteArray × Vu) := if f.dflt.kind ≠ 0 then pset (p3m pm f) (⟨#[100, 101, 102, 97, 117, 108, 116]⟩ : ByteArray) f.dflt else p3m pm f
theorem tab2m {f : Fd} {pm : List (ByteArray × Vu)} (h : TabOf (t1 f) pm) : TabOf (t2 f) (p2m pm f) := by
  unfold t2 p2m
  split
  · exact tab_swap h _ _ (by decide)
  · exact h
theorem tab3m {f : Fd} {pm : List (ByteArray × Vu)} (h : TabOf (t1 f) pm) : TabOf (t3 f) (p3m pm f) := by
  unfold t3 p3m
  split
  · exact tab_put (tab2m h) _ _
  · exact tab2m h
theorem tabFm {f : Fd} {pm : List (ByteArray × Vu)} (h : TabOf (t1 f) pm) : TabOf (fieldV f) (fieldPm pm f) := by
  unfold fieldV fieldPm
  split
  · exact tab_put (tab3m h) _ _
  · exact tab3m h
theorem tab_perm {T : Vu} {pm pm' : List (ByteArray × Vu)} (h : TabOf T pm) (hp : pm'.Perm pm) : TabOf T pm' := tab_congr h (fun p => hp.mem_iff.symm) (((hp.map (·.1)).nodup_iff).2 h.nd)
theorem small_perm {pm pm' : List (ByteArray × Vu)} {n : Nat} (h : smallP pm n) (hp : pm'.Perm pm) : smallP pm' n := ⟨by rw [hp.length_eq]; exact h.1, fun p hm => h.2 p (hp.mem_iff.1 hm)⟩
theorem smallFm {f : Fd} {pm : List (ByteArray × Vu)} (h1 : smallP pm 3) : smallP (fieldPm pm f) 7 := by
  have h2 : smallP (p2m pm f) 5 := by
    unfold p2m
    split
    · exact small_set (small_set h1 _ _ (by decide)) _ _ (by decide)
    · exact small_le h1 (by omega)
  have h3 : smallP (p3m pm f) 6 := by
    unfold p3m
    split
    · exact small_set h2 _ _ (by decide)
    · exact small_le h2 (by omega)
  unfold fieldPm
  split
  · exact small_set h3 _ _ (by decide)
  · exact small_le h3 (by omega)
theorem perm_map {α β : Type} {g : α → β} {m e : List β} (h : m.Perm e) : ∀ L : List α, m = L.map g → ∃ pm, L.Perm pm ∧ e = pm.map g := by
  induction h with
  | nil => intro L hL; cases L with | nil => exact ⟨[], .refl _, rfl⟩ | cons a r => cases hL
  | cons x _ ih =>
    intro L hL
    cases L with
    | nil => cases hL
    | cons a r =>
      rw [List.map_cons] at hL
      injection hL with h1 h2
      obtain ⟨pm, q1, q2⟩ := ih r h2
      exact ⟨a :: pm, q1.cons a, by rw [List.map_cons, ← h1, q2]⟩
  | swap x y l =>
    intro L hL
    cases L with
    | nil => cases hL
    | cons a r =>
      cases r with
      | nil => rw [List.map_cons] at hL; injection hL with _ h2; cases h2
      | cons b r =>
        rw [List.map_cons, List.map_cons] at hL
        injection hL with h1 h2
        injection h2 with h2 h3
        exact ⟨b :: a :: r, .swap _ _ _, by rw [List.map_cons, List.map_cons, ← h1, ← h2, ← h3]⟩
  | trans _ _ ih1 ih2 =>
    intro L hL
    obtain ⟨a1, q1, q2⟩ := ih1 L hL
    obtain ⟨a2, q3, q4⟩ := ih2 a1 q2
    exact ⟨a2, q1.trans q3, q4⟩
theorem perm_es {e0 : List (Value × DD)} {pm : List (ByteArray × Vu)} (h : e0.Perm (esOf pm)) : ∃ pm', pm'.Perm pm ∧ e0 = esOf pm' := by
  obtain ⟨pm', h1, h2⟩ := perm_map h.symm pm rfl
  exact ⟨pm', h1.symm, h2⟩
theorem smallS (l : List Fd) (b : Bool) : smallP (schP l b) 2 := small_set (small_set small_nil _ _ (by decide)) _ _ (by decide)
/-- A store into the entry that was made last. -/
theorem esto_mset {es : List (Value × DD)} {k : Value} {d z : DD} (h : ∀ p ∈ es, p.1 ≠ k) : (es ++ [(k, z)]).set es.length (k, d) = mset es k d := by
  unfold mset
  rw [if_neg (fun ⟨p, hp, e⟩ => h p hp e), List.set_append_right _ _ (Nat.le_refl _), Nat.sub_self]
  rfl
theorem hst (es : List (Value × DD)) (q : Value × DD) : (es ++ [q])[es.length]? = some q := by
  rw [List.getElem?_append_right (Nat.le_refl _), Nat.sub_self]
  rfl
def q1 (r n : ByteArray) (b : Bool) : List (ByteArray × Vu) := pset (pset (pset [] (⟨#[114, 111, 117, 116, 101]⟩ : ByteArray) (txt r)) (⟨#[107, 105, 110, 100]⟩ : ByteArray) (txt n)) (⟨#[110, 101, 101, 100]⟩ : ByteArray) (tru b)
theorem q1_no {r n : ByteArray} {b : Bool} {pm : List (ByteArray × Vu)} (h : pm.Perm (q1 r n b)) : ∀ p ∈ esOf pm, p.1 ≠ .string (⟨#[109, 105, 110]⟩ : ByteArray) := by
  intro p hp e
  obtain ⟨q, hq, rfl⟩ := List.mem_map.1 hp
  injection e with e
  rcases pset_mem.1 (h.mem_iff.1 hq) with rfl | ⟨hq, _⟩
  · exact absurd e (show ¬ (⟨#[110, 101, 101, 100]⟩ : ByteArray) = (⟨#[109, 105, 110]⟩ : ByteArray) by decide)
  · rcases pset_mem.1 hq with rfl | ⟨hq, _⟩
    · exact absurd e (show ¬ (⟨#[107, 105, 110, 100]⟩ : ByteArray) = (⟨#[109, 105, 110]⟩ : ByteArray) by decide)
    · rcases pset_mem.1 hq with rfl | ⟨hq, _⟩
      · exact absurd e (show ¬ (⟨#[114, 111, 117, 116, 101]⟩ : ByteArray) = (⟨#[109, 105, 110]⟩ : ByteArray) by decide)
      · cases hq
/-- The first part's entries, in whatever order. -/
theorem open_q1 {P : List (Value × DD) → Prop} {r n : ByteArray} {b : Bool} (h : ∀ pm, pm.Perm (q1 r n b) → P (esOf pm)) : ∀ e0 : List (Value × DD), e0.Perm (can (mset (can (mset (can (mset [] (.string (⟨#[114, 111, 117, 116, 101]⟩ : ByteArray)) (encV (txt r)))) (.string (⟨#[107, 105, 110, 100]⟩ : ByteArray)) (encV (txt n)))) (.string (⟨#[110, 101, 101, 100]⟩ : ByteArray)) (encV (tru b)))) → P e0 := by
  intro e0 he
  have h1 : e0.Perm (esOf (q1 r n b)) := by
    refine (he.trans (can_perm _)).trans ?_
    refine (mset_perm ((can_perm _).trans (mset_perm (can_perm _) _ _)) _ _).trans ?_
    rw [show ([] : List (Value × DD)) = esOf [] from rfl, mset_es, mset_es, mset_es]
    exact .refl _
  obtain ⟨pm, hp, rfl⟩ := perm_es h1
  exact h pm hp
theorem open_all {P : List (Value × DD) → Prop} {C : List (Value × DD)} (h : ∀ e0, P e0) : ∀ e0 : List (Value × DD), e0.Perm C → P e0 := fun e0 _ => h e0
theorem q1_tab {f : Fd} {n : ByteArray} {pm : List (ByteArray × Vu)} (h : pm.Perm (q1 f.route n f.need)) (hn : n = kname f.kind) : TabOf (t1 f) pm := tab_perm (tab1 f) (by rw [hn] at h; exact h)
theorem q1_small {r n : ByteArray} {b : Bool} {pm : List (ByteArray × Vu)} (h : pm.Perm (q1 r n b)) : smallP pm 3 := small_perm (small_set (small_set (small_set small_nil _ _ (by decide)) _ _ (by decide)) _ _ (by decide)) h
theorem kn_any {k : Int} (h : k = -1) : (⟨#[97, 110, 121]⟩ : ByteArray) = kname k := (if_pos h).symm
theorem kn_nam {k : Int} (h : ¬ k = -1) : rs.names.getD k.toNat ⟨#[]⟩ = kname k := (if_neg h).symm
section
variable (E : Env)
/-- The entries that the walk finds are a field's. -/
theorem fin_tt {f : Fd} {r n : ByteArray} {b : Bool} {pm : List (ByteArray × Vu)} (h : pm.Perm (q1 r n b)) (hb : f.bounded = true) (z : DD) : mset ((esOf pm ++ [(Value.string (⟨#[109, 105, 110]⟩ : ByteArray), z)]).set (esOf pm).length (Value.string (⟨#[109, 105, 110]⟩ : ByteArray), encV (whl f.lo))) (.string (⟨#[109, 97, 120]⟩ : ByteArray)) (encV (whl f.hi)) = esOf (p2m pm f) := by
  rw [esto_mset (q1_no h), mset_es, mset_es]
  unfold p2m
  rw [if_pos hb]
theorem fin_ff {f : Fd} {pm : List (ByteArray × Vu)} (hb : f.bounded = false) : esOf pm = esOf (p2m pm f) := by
  unfold p2m
  rw [if_neg (by rw [hb]; decide)]
theorem fin_o {f : Fd} {pm : List (ByteArray × Vu)} {es : List (Value × DD)} (h : es = esOf (p2m pm f)) (ho : 0 < f.oneOf.length) : mset es (.string (⟨#[111, 110, 101, 111, 102]⟩ : ByteArray)) (encV (lst (f.oneOf.map txt))) = esOf (p3m pm f) := by
  rw [h, mset_es]
  unfold p3m
  rw [if_pos ho]
theorem fin_p {f : Fd} {pm : List (ByteArray × Vu)} {es : List (Value × DD)} (h : es = esOf (p2m pm f)) (ho : ¬ 0 < f.oneOf.length) : es = esOf (p3m pm f) := by
  rw [h]
  unfold p3m
  rw [if_neg ho]
theorem fin_d {f : Fd} {pm : List (ByteArray × Vu)} {es : List (Value × DD)} (h : es = esOf (p3m pm f)) (ho : f.dflt.kind ≠ 0) : MLe (cx Tryz.prog mixed tyT_ok E) (mset es (.string (⟨#[100, 101, 102, 97, 117, 108, 116]⟩ : ByteArray)) (encV f.dflt)) (esOf (fieldPm pm f)) := MLe.of_eq (by
  rw [h, mset_es]
  unfold fieldPm
  rw [if_pos ho])
theorem fin_n {f : Fd} {pm : List (ByteArray × Vu)} {es : List (Value × DD)} (h : es = esOf (p3m pm f)) (ho : ¬ f.dflt.kind ≠ 0) : MLe (cx Tryz.prog mixed tyT_ok E) es (esOf (fieldPm pm f)) := MLe.of_eq (by
  rw [h]
  unfold fieldPm
  rw [if_neg ho])
theorem tbl_f {f : Fd} {n : ByteArray} {pm : List (ByteArray × Vu)} (h : pm.Perm (q1 f.route n f.need)) (hn : n = kname f.kind) : SpH (cx Tryz.prog mixed tyT_ok E) 44 [.mp 34] [(34, .map 123 (esOf (fieldPm pm f)))] (encV (fieldV f)) [(34, .map 123 (esOf (fieldPm pm f)))] :=
  have hs := smallFm (f := f) (q1_small h)
  tableOf_l E 34 (fieldPm pm f) (fieldV f) (tabFm (q1_tab h hn)) (by have := hs.1; omega) hs.2
/-- The whole's entries, in whatever order. -/
theorem tbl_s {l : List Fd} {b : Bool} {n : Nat} {g : Nat → Nat → DD} (hn : n = l.length) (hg : ∀ i j, i < n → j < 6 → g i j = ((l.map fieldV).getD i .zero).cell j) : ∀ e0 : List (Value × DD), e0.Perm (can (mset (can (mset [] (.string (⟨#[115, 116, 114, 105, 99, 116]⟩ : ByteArray)) (encV (tru b)))) (.string (⟨#[102, 105, 101, 108, 100, 115]⟩ : ByteArray)) (.agg [i64 5, dB false, i64 0, dS ⟨#[]⟩, .sl 6 88 n g, .v (.slice none 0 0)]))) →
    ∃ e1 : List (Value × DD), e1.Perm (esOf (schP l b)) ∧ SpH (cx Tryz.prog mixed tyT_ok E) 44 [.mp 79] [(79, .map 123 e0)] (encV (schV l b)) [(79, .map 123 e1)] := by
  intro e0 he
  have hd := hLst E (l.map fieldV) (n := n) (g := g) (by rw [List.length_map]; exact hn) hg
  generalize D.agg [i64 5, dB false, i64 0, dS ⟨#[]⟩, .sl 6 88 n g, .v (.slice none 0 0)] = D at he hd
  have hne : ¬ (Value.string (⟨#[115, 116, 114, 105, 99, 116]⟩ : ByteArray)) = .string (⟨#[102, 105, 101, 108, 100, 115]⟩ : ByteArray) := fun e => absurd (Value.string.inj e) (by decide)
  have hc : ∀ d : DD, mset (mset [] (.string (⟨#[115, 116, 114, 105, 99, 116]⟩ : ByteArray)) (encV (tru b))) (.string (⟨#[102, 105, 101, 108, 100, 115]⟩ : ByteArray)) d = [(.string (⟨#[115, 116, 114, 105, 99, 116]⟩ : ByteArray), encV (tru b)), (.string (⟨#[102, 105, 101, 108, 100, 115]⟩ : ByteArray), d)] := fun d => by
    have h1 : mset ([] : List (Value × DD)) (.string (⟨#[115, 116, 114, 105, 99, 116]⟩ : ByteArray)) (encV (tru b)) = [(.string (⟨#[115, 116, 114, 105, 99, 116]⟩ : ByteArray), encV (tru b))] := by
      rw [mset_eq, if_neg (fun ⟨p, hp, _⟩ => by cases hp)]; rfl
    rw [h1, mset_eq, if_neg]
    · rfl
    · rintro ⟨p, hp, e⟩
      rw [List.mem_singleton] at hp
      subst hp
      exact hne e
  have hZ : e0.Perm (([((.string (⟨#[115, 116, 114, 105, 99, 116]⟩ : ByteArray), encV (tru b)), (.string (⟨#[115, 116, 114, 105, 99, 116]⟩ : ByteArray), encV (tru b))), ((.string (⟨#[102, 105, 101, 108, 100, 115]⟩ : ByteArray), D), (.string (⟨#[102, 105, 101, 108, 100, 115]⟩ : ByteArray), encV (lst (l.map fieldV))))] : List ((Value × DD) × (Value × DD))).map (·.1)) := by
    refine (he.trans (can_perm _)).trans ((mset_perm (can_perm _) _ _).trans ?_)
    rw [hc]
    exact .refl _
  obtain ⟨Z, h1, h2⟩ := perm_map hZ.symm _ rfl
  have hs : (Z.map (·.2)).Perm (esOf (schP l b)) := by
    refine (h1.symm.map (·.2)).trans ?_
    have : esOf (schP l b) = mset (mset [] (.string (⟨#[115, 116, 114, 105, 99, 116]⟩ : ByteArray)) (encV (tru b))) (.string (⟨#[102, 105, 101, 108, 100, 115]⟩ : ByteArray)) (encV (lst (l.map fieldV))) := by
      rw [show ([] : List (Value × DD)) = esOf [] from rfl, mset_es, mset_es]
      rfl
    rw [this, hc]
    exact .refl _
  obtain ⟨pm, hp, he1⟩ := perm_es hs
  have hz : ∀ z ∈ Z, z.1.1 = z.2.1 ∧ Dle (cx Tryz.prog mixed tyT_ok E) z.1.2 z.2.2 := fun z hz => by
    have := h1.mem_iff.2 hz
    rcases List.mem_cons.1 this with rfl | this
    · exact ⟨rfl, Dle.refl _ _⟩
    · rw [List.mem_singleton] at this
      subst this
      exact ⟨rfl, hd⟩
  have hml : MLe (cx Tryz.prog mixed tyT_ok E) e0 (esOf pm) := by
    rw [← he1, h2]
    refine ⟨?_, fun i x y hx hy => ?_⟩
    · rw [List.map_map, List.map_map]
      exact List.map_congr_left fun z hzz => (hz z hzz).1
    · rw [List.map_map, List.getElem?_map] at hx hy
      cases hi : Z[i]? with
      | none => rw [hi] at hx; cases hx
      | some z =>
        rw [hi] at hx hy
        injection hx with hx
        injection hy with hy
        subst hx hy
        exact (hz z (List.mem_of_getElem? hi)).2
  have hsm := small_perm (smallS l b) hp
  exact ⟨esOf pm, hp.map _, (tableOf_l E 79 pm (schV l b) (tab_perm (tabS l b) hp) (by have := hsm.1; omega) hsm.2).map_le hml⟩
theorem row_fv {l : List Fd} {k : Nat} (hlt : k < l.length) (a c : Nat) (ha : a < k + 1) (hc : c < 6) : Dle (cx Tryz.prog mixed tyT_ok E) (if a < k then ((l.map fieldV).getD a .zero).cell c else ([i64 (fieldV (l.getD k default)).kind, dB (fieldV (l.getD k default)).b, i64 (fieldV (l.getD k default)).i, dS (fieldV (l.getD k default)).text, .rc (.vals (fieldV (l.getD k default)).items), encStrs (fieldV (l.getD k default)).keys] : List DD).getD ((a - k) * 6 + c) .opq) (((l.map fieldV).getD a .zero).cell c) := Dle.of_eq (by
  by_cases h : a < k
  · rw [if_pos h]
  · obtain rfl : a = k := by omega
    rw [if_neg h, show (a - a) * 6 + c = c by rw [Nat.sub_self]; omega, map_at hlt, cell_of _ c hc])
set_option maxRecDepth 100000
theorem text_sp (s : ByteArray) : Sp (cx Tryz.prog mixed tyT_ok E) 40 [dS s] (encV (txt s)) := by
  refine Sp.body Tryz.func40 (by kernel_rfl) rfl (by kernel_rfl) (by kernel_rfl) (by kernel_rfl) ?_
  repeat' first
    | (refine codeW_cond rfl ?_; first | (refine condW_dec ?_ ?_ <;> intro _ <;> try (exfalso; omega)) | refine condW_not ?_ | (refine condW_bool ?_ ?_ <;> intro _ <;> try (exfalso; omega)))
    | (refine facW_intro ?_; intro _)
    | refine Or.inl ?_
    | ((conv => whnf); first | (refine condW_dec ?_ ?_ <;> intro _ <;> try (exfalso; omega)) | refine condW_not ?_ | (refine condW_bool ?_ ?_ <;> intro _ <;> try (exfalso; omega)) | (refine nbC_t (fun _ => ?_) ?_) | (refine nbC_f ?_ (fun _ => ?_)))
    | refine And.intro (by first | omega | (simp only [Int.toNat_natCast] at *; omega) | (simp only [Nat.reduceAdd, Int.cast_ofNat_Int, true_and, and_true]; omega)  | (simp only [cx, view, Nat.reduceAdd, Int.toNat_natCast]; omega) | kernel_rfl) ?_
    | refine RegW.run ?_
    | fail
  exact zAgg E 3 false 0 s
theorem truth_sp (b : Bool) : Sp (cx Tryz.prog mixed tyT_ok E) 41 [dB b] (encV (tru b)) := by
  refine Sp.body Tryz.func41 (by kernel_rfl) rfl (by kernel_rfl) (by kernel_rfl) (by kernel_rfl) ?_
  repeat' first
    | (refine codeW_cond rfl ?_; first | (refine condW_dec ?_ ?_ <;> intro _ <;> try (exfalso; omega)) | refine condW_not ?_ | (refine condW_bool ?_ ?_ <;> intro _ <;> try (exfalso; omega)))
    | (refine facW_intro ?_; intro _)
    | refine Or.inl ?_
    | ((conv => whnf); first | (refine condW_dec ?_ ?_ <;> intro _ <;> try (exfalso; omega)) | refine condW_not ?_ | (refine condW_bool ?_ ?_ <;> intro _ <;> try (exfalso; omega)) | (refine nbC_t (fun _ => ?_) ?_) | (refine nbC_f ?_ (fun _ => ?_)))
    | refine And.intro (by first | omega | (simp only [Int.toNat_natCast] at *; omega) | (simp only [Nat.reduceAdd, Int.cast_ofNat_Int, true_and, and_true]; omega)  | (simp only [cx, view, Nat.reduceAdd, Int.toNat_natCast]; omega) | kernel_rfl) ?_
    | refine RegW.run ?_
    | fail
  exact zAgg E 1 b 0 ⟨#[]⟩
theorem wholeR_sp (n : Int) : Sp (cx Tryz.prog mixed tyT_ok E) 42 [i64 n] (encV (whl n)) := by
  refine Sp.body Tryz.func42 (by kernel_rfl) rfl (by kernel_rfl) (by kernel_rfl) (by kernel_rfl) ?_
  repeat' first
    | (refine codeW_cond rfl ?_; first | (refine condW_dec ?_ ?_ <;> intro _ <;> try (exfalso; omega)) | refine condW_not ?_ | (refine condW_bool ?_ ?_ <;> intro _ <;> try (exfalso; omega)))
    | (refine facW_intro ?_; intro _)
    | refine Or.inl ?_
    | ((conv => whnf); first | (refine condW_dec ?_ ?_ <;> intro _ <;> try (exfalso; omega)) | refine condW_not ?_ | (refine condW_bool ?_ ?_ <;> intro _ <;> try (exfalso; omega)) | (refine nbC_t (fun _ => ?_) ?_) | (refine nbC_f ?_ (fun _ => ?_)))
    | refine And.intro (by first | omega | (simp only [Int.toNat_natCast] at *; omega) | (simp only [Nat.reduceAdd, Int.cast_ofNat_Int, true_and, and_true]; omega)  | (simp only [cx, view, Nat.reduceAdd, Int.toNat_natCast]; omega) | kernel_rfl) ?_
    | refine RegW.run ?_
    | fail
  exact zAgg E 2 false n ⟨#[]⟩
theorem textList_sp (l : List ByteArray) (hl : l.length ≤ 1000000000) : Sp (cx Tryz.prog mixed tyT_ok E) 43 [encStrs l] (encV (lst (l.map txt))) := by
  refine Sp.body Tryz.func43 (by kernel_rfl) rfl (by kernel_rfl) (by kernel_rfl) (by kernel_rfl) ?_
  repeat' first
    | (refine codeW_cond rfl ?_; first | (refine condW_dec ?_ ?_ <;> intro _ <;> try (exfalso; omega)) | refine condW_not ?_ | (refine condW_bool ?_ ?_ <;> intro _ <;> try (exfalso; omega)))
    | (refine facW_intro ?_; intro _)
    | refine Or.inl ?_
    | ((conv => whnf); first | (refine condW_dec ?_ ?_ <;> intro _ <;> try (exfalso; omega)) | refine condW_not ?_ | (refine condW_bool ?_ ?_ <;> intro _ <;> try (exfalso; omega)) | (refine nbC_t (fun _ => ?_) ?_) | (refine nbC_f ?_ (fun _ => ?_)))
    | refine And.intro (by first | omega | (simp only [Int.toNat_natCast] at *; omega) | (simp only [Nat.reduceAdd, Int.cast_ofNat_Int, true_and, and_true]; omega)  | (simp only [cx, view, Nat.reduceAdd, Int.toNat_natCast]; omega) | kernel_rfl) ?_
    | refine RegW.run ?_
    | fail
  refine ⟨Nat, fun q => [(9, i64 q)], fun q => [(3, .cells [i64 5, dB false, i64 0, dS ⟨#[]⟩, .own 10 6 0 q, .v (.slice none 0 0)])], [2], fun q => [(10, 25, q, fun i j => ((l.map txt).getD i .zero).cell j)], fun q => q ≤ l.length, fun q => l.length - q, ⟨0, Nat.zero_le _, ⟨[(10, none)], ⟨by kernel_rfl, by kernel_rfl, by kernel_rfl, by kernel_rfl, by kernel_rfl, by kernel_rfl, by kernel_rfl⟩, (by repeat' first | exact trivial | exact rfl | kernel_rfl | exact Dle.of_eq rfl | exact MLe.of_eq rfl | exact Dle.i (by omega) | exact Dle.i (by simp only [Int.toNat_natCast] at *; omega) | exact Dle.nil | exact Dle.rc Dle.nil | exact Option.some_ne_none _ | exact Or.inl rfl | exact Or.inr trivial | omega | (simp only [Int.toNat_natCast] at *; omega) | (intro _ _ _ _; exact Dle.of_eq rfl) | refine And.intro ?_ ?_)⟩⟩, fun q hq => ?_⟩
  have hq : q ≤ l.length := hq
  by_cases hqlt : q < l.length
  · have hsq := text_sp E (l.getD q ⟨#[]⟩)
    have hrq : ∀ a c, a < q + 1 → c < 6 → Dle (cx Tryz.prog mixed tyT_ok E) (if a < q then ((l.map txt).getD a .zero).cell c else ([i64 (txt (l.getD q ⟨#[]⟩)).kind, dB (txt (l.getD q ⟨#[]⟩)).b, i64 (txt (l.getD q ⟨#[]⟩)).i, dS (txt (l.getD q ⟨#[]⟩)).text, .rc (.vals (txt (l.getD q ⟨#[]⟩)).items), encStrs (txt (l.getD q ⟨#[]⟩)).keys] : List DD).getD ((a - q) * 6 + c) .opq) (((l.map txt).getD a .zero).cell c) := fun a c ha hc => Dle.of_eq (by
      by_cases h : a < q
      · rw [if_pos h]
      · obtain rfl : a = q := by omega
        rw [if_neg h, show (a - a) * 6 + c = c by rw [Nat.sub_self]; omega, txt_at hqlt, cell_of _ c hc])
    repeat' first
      | (refine codeW_cond rfl ?_; first | (refine condW_dec ?_ ?_ <;> intro _ <;> try (exfalso; omega)) | refine condW_not ?_ | (refine condW_bool ?_ ?_ <;> intro _ <;> try (exfalso; omega)))
      | (refine facW_intro ?_; intro _)
      | refine Or.inl ?_
      | ((conv => whnf); first | (refine condW_dec ?_ ?_ <;> intro _ <;> try (exfalso; omega)) | refine condW_not ?_ | (refine condW_bool ?_ ?_ <;> intro _ <;> try (exfalso; omega)) | (refine nbC_t (fun _ => ?_) ?_) | (refine nbC_f ?_ (fun _ => ?_)))
      | refine And.intro (by first | omega | (simp only [Int.toNat_natCast] at *; omega) | (simp only [Nat.reduceAdd, Int.cast_ofNat_Int, true_and, and_true]; omega)  | (simp only [cx, view, Nat.reduceAdd, Int.toNat_natCast]; omega) | kernel_rfl) ?_
      | refine RegW.run ?_
      | refine ⟨_, hsq, ?_⟩
      | fail
    all_goals first
      | (exfalso; omega)
      | exact ⟨q + 1, by omega, ⟨[(10, some 18)], ⟨by kernel_rfl, by kernel_rfl, by kernel_rfl, by kernel_rfl, by kernel_rfl, by kernel_rfl, by kernel_rfl⟩, (by repeat' first | exact trivial | exact rfl | kernel_rfl | exact Dle.of_eq rfl | exact MLe.of_eq rfl | exact Dle.i (by omega) | exact Dle.i (by simp only [Int.toNat_natCast] at *; omega) | exact Dle.nil | exact Dle.rc Dle.nil | exact Option.some_ne_none _ | exact Or.inl rfl | exact Or.inr trivial | omega | (simp only [Int.toNat_natCast] at *; omega) | (intro _ _ _ _; exact Dle.of_eq rfl) | (intro i j hi hj; exact hrq i j hi hj) | refine And.intro ?_ ?_)⟩, by first | omega | (dsimp only; omega)⟩
      | trace_state
  · obtain rfl : q = l.length := by omega
    have hom : l.length = (l.map txt).length := (List.length_map ..).symm
    repeat' first
      | (refine codeW_cond rfl ?_; first | (refine condW_dec ?_ ?_ <;> intro _ <;> try (exfalso; omega)) | refine condW_not ?_ | (refine condW_bool ?_ ?_ <;> intro _ <;> try (exfalso; omega)))
      | (refine facW_intro ?_; intro _)
      | refine Or.inl ?_
      | ((conv => whnf); first | (refine condW_dec ?_ ?_ <;> intro _ <;> try (exfalso; omega)) | refine condW_not ?_ | (refine condW_bool ?_ ?_ <;> intro _ <;> try (exfalso; omega)) | (refine nbC_t (fun _ => ?_) ?_) | (refine nbC_f ?_ (fun _ => ?_)))
      | refine And.intro (by first | omega | (simp only [Int.toNat_natCast] at *; omega) | (simp only [Nat.reduceAdd, Int.cast_ofNat_Int, true_and, and_true]; omega)  | (simp only [cx, view, Nat.reduceAdd, Int.toNat_natCast]; omega) | kernel_rfl) ?_
      | refine RegW.run ?_
      | fail
    all_goals first
      | (exfalso; omega)
      | exact hLst E (l.map txt) hom (fun _ _ _ _ => rfl)
      | trace_state
end
end sw
end Go.Proofs.YtgdoelfajfjopaaGreatDoor
