/-
  Operations as steps between states, over any program: what a step looks at, what it writes; which may change places. For regions whose order is open.
-/
import Derived.Test.YteojgenhgjhohaaDoorN13
import Derived.Orders
namespace Go.Proofs.YteojgenhgjhohaaDoor
open Go.RowKit
set_option linter.unusedVariables false
set_option linter.unusedSimpArgs false

section
variable {κ : Type} {X : Cx κ}

/-! ## What an operation looks at -/

def D.labs0 : D κ → List Nat
  | .ptr l _ => [l]
  | .elt l _ _ _ => [l]
  | .own l _ _ _ => [l]
  | .mp l => [l]
  | .ifo _ l _ _ => [l]
  | _ => []
def D.labs1 : D κ → List Nat
  | .agg cs => cs.flatMap D.labs0
  | .fn _ cs => cs.flatMap D.labs0
  | d => d.labs0
def D.labs2 : D κ → List Nat
  | .agg cs => cs.flatMap D.labs1
  | .fn _ cs => cs.flatMap D.labs1
  | .mfn _ cs => cs.flatMap D.labs1
  | d => d.labs0
theorem labs01 {d : D κ} {l : Nat} (h : l ∈ d.labs0) : l ∈ d.labs1 := by cases d <;> first | exact h | simp [D.labs0] at h
theorem labs12 {d : D κ} {l : Nat} (h : l ∈ d.labs1) : l ∈ d.labs2 := by
  cases d with
  | agg cs =>
    simp only [D.labs1, D.labs2, List.mem_flatMap] at h ⊢
    exact h.imp fun c hc => ⟨hc.1, labs01 hc.2⟩
  | fn f cs =>
    simp only [D.labs1, D.labs2, List.mem_flatMap] at h ⊢
    exact h.imp fun c hc => ⟨hc.1, labs01 hc.2⟩
  | mfn f cs => simp [D.labs1, D.labs0] at h
  | _ => exact h
def deepL (ob : Obs κ) (l : Nat) : List Nat := l :: (match ob l with | some (.cells cs, _) => cs.flatMap D.labs0 | _ => [])
def purB : Op → Bool
  | .move _ => true
  | .assign _ => true
  | .nilCheck _ => true
  | .fieldAddr _ _ _ => true
  | _ => false
def ldB : Op → Bool
  | .load _ _ => true
  | _ => false
def deepO (op : Op) (ob : Obs κ) (l : Nat) : List Nat := match ldB op with | true => [l] | false => deepL ob l
def readsB (o : Oper) (ev : Operand → D κ) (ob : Obs κ) : List Nat := match purB o.op with | true => [] | false => o.op.operands.toList.flatMap fun x => (ev x).labs2.flatMap (deepO o.op ob)
theorem opE_pur {o : Oper} {ev : Operand → D κ} {ob ob' : Obs κ} {K : Ups κ → D κ → Prop} (h : purB o.op = true) (hp : opE X o ev ob K) : opE X o ev ob' K := by
  obtain ⟨dst, op, type, pos, after, guard⟩ := o
  cases op <;> simp only [purB] at h <;> first | (cases h; done) | (simp only [opE] at hp ⊢; exact hp)

def Agr (ob ob' : Obs κ) (L : List Nat) : Prop := ∀ l ∈ L, ∀ k ∈ deepL ob l, ob' k = ob k
theorem Agr.self {ob ob' : Obs κ} {L : List Nat} (h : Agr ob ob' L) {l : Nat} (hl : l ∈ L) : ob' l = ob l := h l hl l List.mem_cons_self
theorem frzR_congr {ob ob' : Obs κ} {d : D κ} {K : Ups κ → D κ → Prop} (ha : ∀ l ∈ d.labs0, ob' l = ob l) (h : frzRW X ob d K) : frzRW X ob' d K := by
  unfold frzRW at h ⊢
  split at h
  · rw [ha _ (by simp [D.labs0])]; exact h
  · exact h
theorem frzRL_congr {ob ob' : Obs κ} : ∀ {ds : List (D κ)} {K : Ups κ → List (D κ) → Prop}, (∀ l ∈ ds.flatMap D.labs0, ob' l = ob l) → frzRL X ob ds K → frzRL X ob' ds K
  | [], _, _, h => h
  | d :: r, _, ha, h => by
    simp only [List.flatMap_cons, List.mem_append] at ha
    exact frzR_congr (fun l hl => ha l (.inl hl)) (frzRW_mono (fun us d h => frzRL_congr (fun l hl => ha l (.inr hl)) h) h)
theorem frz0_congr {ob ob' : Obs κ} {d : D κ} {K : Ups κ → D κ → Prop} (ha : Agr ob ob' d.labs0) (h : frz0W X ob d K) : frz0W X ob' d K := by
  unfold frz0W at h ⊢
  split at h
  · rename_i l o
    have e := ha.self (l := l) (by simp [D.labs0])
    rw [e]
    split at h
    · rename_i cs z hl
      exact frzRL_congr (fun k hk => ha l (by simp [D.labs0]) k (by unfold deepL; rw [hl]; exact List.mem_cons_of_mem _ hk)) h
    · exact h.elim
  · exact frzR_congr (fun l hl => ha.self hl) h
theorem frzL_congr {ob ob' : Obs κ} : ∀ {ds : List (D κ)} {K : Ups κ → List (D κ) → Prop}, Agr ob ob' (ds.flatMap D.labs0) → frzLW X ob ds K → frzLW X ob' ds K
  | [], _, _, h => h
  | d :: r, _, ha, h => frz0_congr (fun l hl => ha l (by simp only [List.flatMap_cons, List.mem_append]; exact .inl hl)) (frz0W_mono (fun us d h => frzL_congr (fun l hl => ha l (by simp only [List.flatMap_cons, List.mem_append]; exact .inr hl)) h) h)
theorem frzW_congr {ob ob' : Obs κ} {d : D κ} {K : Ups κ → D κ → Prop} (ha : Agr ob ob' d.labs1) (h : frzW X ob d K) : frzW X ob' d K := by
  cases d with
  | agg cs => exact frzL_congr (ds := cs) ha h
  | fn f cs => exact frzL_congr (ds := cs) ha h
  | v x => exact frz0_congr (X := X) (d := .v x) ha h
  | sl a b n f => exact frz0_congr (X := X) (d := .sl a b n f) ha h
  | rc k => exact frz0_congr (X := X) (d := .rc k) ha h
  | ref n f => exact frz0_congr (X := X) (d := .ref n f) ha h
  | ptr l o => exact frz0_congr (X := X) (d := .ptr l o) ha h
  | elt l s k j => exact frz0_congr (X := X) (d := .elt l s k j) ha h
  | own l s o n => exact frz0_congr (X := X) (d := .own l s o n) ha h
  | ifc t d => exact frz0_congr (X := X) (d := .ifc t d) ha h
  | mp l => exact frz0_congr (X := X) (d := .mp l) ha h
  | ifo t l s n => exact frz0_congr (X := X) (d := .ifo t l s n) ha h
  | nb q n => exact frz0_congr (X := X) (d := .nb q n) ha h
  | mfn f fs => exact frz0_congr (X := X) (d := .mfn f fs) ha h
  | und => exact frz0_congr (X := X) (d := .und) ha h
  | opq => exact frz0_congr (X := X) (d := .opq) ha h
  | tup cs => exact frz0_congr (X := X) (d := .tup cs) ha h
theorem frzA_congr {ob ob' : Obs κ} : ∀ {ds : List (D κ)} {K : Ups κ → List (D κ) → Prop}, Agr ob ob' (ds.flatMap D.labs1) → frzAW X ob ds K → frzAW X ob' ds K
  | [], _, _, h => h
  | d :: r, _, ha, h => frzW_congr (fun l hl => ha l (by simp only [List.flatMap_cons, List.mem_append]; exact .inl hl)) (frzW_mono (fun us d h => frzA_congr (fun l hl => ha l (by simp only [List.flatMap_cons, List.mem_append]; exact .inr hl)) h) h)
theorem src_congr {ob ob' : Obs κ} {e : Nat} {d : D κ} {K : Nat → (Nat → Nat → D κ) → Prop} (ha : ∀ l ∈ d.labs0, ob' l = ob l) (h : srcW X ob e d K) : srcW X ob' e d K := by
  unfold srcW at h ⊢
  split at h
  · rw [ha _ (by simp [D.labs0])]; exact h
  · exact h
theorem strD_labs {t t' : TypeId} {d : D κ} {l : Nat} (h : l ∈ (strD t t' d).labs0) : l ∈ d.labs0 := by
  unfold strD at h
  split at h
  · exact h
  · split at h
    · simp [D.labs0] at h
    · simp [D.labs0] at h
theorem app_congr {ob ob' : Obs κ} {t : TypeId} {ds dx : D κ} {k : Nat} {K : Ups κ → D κ → Prop} (hk : ob' k = ob k) (hs : ∀ l ∈ ds.labs0, ob' l = ob l) (hx : ∀ l ∈ dx.labs0, ob' l = ob l) (h : appE X ob t ds dx k K) : appE X ob' t ds dx k K := by
  unfold appE at h ⊢
  simp only [fN_eq] at h ⊢
  rw [hk]
  split at h
  · rename_i e1 e2
    refine condW_mono1 h (fun h => ?_)
    split at h
    · exact src_congr hx h
    · rw [hs _ (by simp only [D.labs0, List.mem_singleton])]
      split at h
      · exact condW_mono1 h (fun h => src_congr hx h)
      · exact h.elim
    · exact h.elim
  · exact h.elim

theorem pureW_congr {op : Op} {ev ev' : Operand → D κ} {K : D κ → Prop} (h : ∀ x ∈ op.operands, ev x = ev' x) (hp : pureW X op ev K) : pureW X op ev' K := by
  cases op <;> simp only [Op.operands] at h <;> try (simp only [pureW] at hp ⊢)
  case pick c a b => rw [h c (by simp), h a (by simp), h b (by simp)] at hp; exact hp
  case binOp op t x y yt => rw [h x (by simp), h y (by simp)] at hp; exact hp
  case unOp u t x => cases u <;> first | (simp only [h x (by simp)] at hp; exact hp) | exact hp.elim
  case extract x i => rw [h x (by simp)] at hp; exact hp
  case call c =>
    split at hp
    · rename_i b hb
      have e : c.args.toList.map ev = c.args.toList.map ev' := List.map_congr_left fun x hx => h x (by simp only [Call.operands, hb, Array.mem_append]; exact .inr (by simpa using hx))
      rw [e] at hp
      exact hp
    · exact hp.elim
  case index t x i => rw [h x (by simp), h i (by simp)] at hp; exact hp
  case indexAddr t x i => rw [h x (by simp), h i (by simp)] at hp; exact hp
  case fieldAddr t x i => rw [h x (by simp)] at hp; exact hp
  case load t x => rw [h x (by simp)] at hp; exact hp
  case field t x i => rw [h x (by simp)] at hp; exact hp
  case convert s d x => rw [h x (by simp)] at hp; exact hp
  case nilCheck x => rw [h x (by simp)] at hp; exact hp
  case makeFunc fn first caps =>
    have e : caps.toList.map ev = caps.toList.map ev' := List.map_congr_left fun x hx => h x (by rw [Array.mem_append]; exact .inr (by simpa using hx))
    rw [e] at hp
    exact hp
  case slice t x lo hi mx =>
    cases mx with
    | none =>
      simp only [pureW] at hp ⊢
      rw [h x (by simp)] at hp
      have e1 : lo.map ev = lo.map ev' := by cases lo with | none => rfl | some y => simp [h y (by simp)]
      have e2 : hi.map ev = hi.map ev' := by cases hi with | none => rfl | some y => simp [h y (by simp)]
      rw [e1, e2] at hp
      exact hp
    | some m => exact hp.elim
  case typeAssert x xt t ok => rw [h x (by simp)] at hp; exact hp
  all_goals exact hp.elim
theorem parts_congr {parts : Array (Nat × Operand)} {ev ev' : Operand → D κ} (h : ∀ x ∈ (parts.toList.map (·.2)).toArray, ev x = ev' x) : (parts.toList.map fun p => (p.1, ev p.2)) = parts.toList.map fun p => (p.1, ev' p.2) :=
  List.map_congr_left fun p hp => by rw [h p.2 (by simp only [List.mem_toArray, List.mem_map]; exact ⟨p, hp, rfl⟩)]
theorem opE_ev {o : Oper} {ev ev' : Operand → D κ} {ob : Obs κ} {K : Ups κ → D κ → Prop} (h : ∀ x ∈ o.op.operands, ev x = ev' x) (hp : opE X o ev ob K) : opE X o ev' ob K := by
  obtain ⟨dst, op, type, pos, after, guard⟩ := o
  simp only at h
  have pu : pureW X op ev (fun d => K [] d) → pureW X op ev' (fun d => K [] d) := pureW_congr h
  cases op <;> simp only [Op.operands] at h <;> try (simp only [opE] at hp ⊢)
  case move x => rw [← h x (by simp)]; exact hp
  case assign x => rw [← h x (by simp)]; exact hp
  case alloc => exact hp
  case box e x => rw [← h x (by simp)]; exact hp
  case load t x =>
    rw [← h x (by simp)]
    split at hp
    · exact hp
    · exact hp
    · exact pu hp
  case store t x y => rw [← h x (by simp), ← h y (by simp)]; exact hp
  case build t parts => rw [← parts_congr h]; exact hp
  case buildSlice t n parts => rw [← parts_congr h]; exact hp
  case makeSlice t len cap => rw [← h len (by simp), ← h cap (by simp)]; exact hp
  case call c =>
    split at hp
    · rename_i x hx
      have e1 : ev x = ev' x := h x (by simp [Call.operands, hx])
      have e : c.args.toList.map ev = c.args.toList.map ev' := List.map_congr_left fun x hx' => h x (by simp only [Call.operands, hx, Array.mem_append]; exact .inr (by simpa using hx'))
      rw [← e1, ← e]
      exact hp
    · rename_i hx
      split at hp
      · rename_i dst0 s x t t' k ea et
        have hm : ∀ y ∈ c.args.toList, ev y = ev' y := fun y hy => h y (by simp only [Call.operands, hx, Array.mem_append]; exact .inr (by simpa using hy))
        rw [← hm s (by rw [ea]; simp), ← hm x (by rw [ea]; simp)]
        exact hp
      · exact hp.elim
    · exact pu hp
  case convert s t x =>
    split at hp
    · rw [← h x (by simp)]; exact hp
    · exact pu hp
  case makeInterface t x => rw [← h x (by simp)]; exact hp
  case makeFunc fn first caps =>
    split at hp
    · rename_i f x r hf hc
      have e : (x :: r).map ev = (x :: r).map ev' := List.map_congr_left fun y hy => h y (by rw [Array.mem_append]; exact .inl (by rw [← Array.mem_toList_iff, hf]; exact hy))
      rw [← e]
      exact hp
    · exact pu hp
  case makeMap t r => exact hp
  case insert t m k x => rw [← h m (by simp), ← h k (by simp), ← h x (by simp)]; exact hp
  case mapUpdate t m k x => rw [← h m (by simp), ← h k (by simp), ← h x (by simp)]; exact hp
  case lookup t m k ok => rw [← h m (by simp), ← h k (by simp)]; exact hp
  case mapEntry t m k => rw [← h m (by simp), ← h k (by simp)]; exact hp
  case entryStore t m s x => rw [← h m (by simp), ← h s (by simp), ← h x (by simp)]; exact hp
  all_goals exact pu hp
theorem look_congr {ob ob' : Obs κ} {t : TypeId} {ok : Bool} {m k : D κ} {K : D κ → Prop} (ha : ∀ l ∈ m.labs0, ob' l = ob l) (h : lookW X ob t ok m k K) : lookW X ob' t ok m k K := by
  unfold lookW at h ⊢
  split at h
  · split at h
    · rw [ha _ (by simp only [D.labs0, List.mem_singleton])]
      exact h
    · exact h
    · exact h.elim
  · exact h.elim
theorem mset_congr {ob ob' : Obs κ} {t : TypeId} {m k d : D κ} {K : Ups κ → Prop} (ha : ∀ l ∈ m.labs0, ob' l = ob l) (h : msetW X ob t m k d K) : msetW X ob' t m k d K := by
  unfold msetW at h ⊢
  split at h
  · split at h
    · rw [ha _ (by simp only [D.labs0, List.mem_singleton])]
      exact h
    · exact h.elim
  · exact h.elim
theorem perm_congr {ob ob' : Obs κ} {f : FuncId} {ds : List (D κ)} {K : Ups κ → D κ → Prop} (ha : ∀ d ∈ ds, ∀ l ∈ d.labs0, ob' l = ob l) (h : permW X ob f ds K) : permW X ob' f ds K := by
  unfold permW at h ⊢
  split at h
  · rw [ha _ List.mem_cons_self _ (by simp only [D.labs0, List.mem_singleton])]
    exact h
  · exact h.elim
theorem ins_congr {ob ob' : Obs κ} {t : TypeId} {m k d : D κ} {K : Ups κ → Prop} (ha : ∀ l ∈ m.labs0, ob' l = ob l) (hd : Agr ob ob' d.labs1) (h : insW X ob t m k d K) : insW X ob' t m k d K := by
  unfold insW at h ⊢
  refine frzAW_mono (fun us ds h => ?_) (frzA_congr (fun l hl => hd l (by simpa using hl)) h)
  split at h
  · exact condW_mono1 h (fun h => mset_congr ha h)
  · exact h.elim
theorem ment_congr {ob ob' : Obs κ} {t : TypeId} {m k : D κ} {K : Ups κ → D κ → Prop} (ha : ∀ l ∈ m.labs0, ob' l = ob l) (h : mentW X ob t m k K) : mentW X ob' t m k K := by
  unfold mentW at h ⊢
  split at h
  · split at h
    · rw [ha _ (by simp only [D.labs0, List.mem_singleton])]
      exact h
    · exact h.elim
  · exact h.elim
theorem esto_congr {ob ob' : Obs κ} {t : TypeId} {m s d : D κ} {K : Ups κ → Prop} (ha : ∀ l ∈ m.labs0, ob' l = ob l) (h : estoW X ob t m s d K) : estoW X ob' t m s d K := by
  unfold estoW at h ⊢
  split at h
  · rw [ha _ (by simp only [D.labs0, List.mem_singleton])]
    exact h
  · exact h.elim
theorem opE_ld {o : Oper} {ev : Operand → D κ} {ob ob' : Obs κ} {K : Ups κ → D κ → Prop} (h : ldB o.op = true) (ha : ∀ x ∈ o.op.operands, ∀ l ∈ (ev x).labs2, ob' l = ob l) (hp : opE X o ev ob K) : opE X o ev ob' K := by
  obtain ⟨dst, op, type, pos, after, guard⟩ := o
  simp only at ha h
  cases op <;> simp only [ldB] at h <;> try (cases h; done)
  case load t x =>
  simp only [Op.operands] at ha
  simp only [opE] at hp ⊢
  split at hp
  · rename_i l off hx
    rw [ha x (by simp) l (labs12 (labs01 (by rw [hx]; simp [D.labs0])))]
    exact hp
  · rename_i l s k j hx
    rw [ha x (by simp) l (labs12 (labs01 (by rw [hx]; simp [D.labs0])))]
    exact hp
  · exact hp
theorem opE_ob {o : Oper} {ev : Operand → D κ} {ob ob' : Obs κ} {us : Ups κ} {d : D κ} (ha : ∀ x ∈ o.op.operands, Agr ob ob' (ev x).labs2) (hu : ∀ p ∈ us, ob' p.1 = ob p.1) (hp : opE X o ev ob (fun us' d' => us' = us ∧ d' = d)) : opE X o ev ob' (fun us' d' => us' = us ∧ d' = d) := by
  obtain ⟨dst, op, type, pos, after, guard⟩ := o
  simp only at ha
  have hself : ∀ x ∈ op.operands, ∀ l ∈ (ev x).labs0, ob' l = ob l := fun x hx l hl => (ha x hx).self (labs12 (labs01 hl))
  have hone : ∀ {l : Nat} {p : Ob κ × Bool}, [(l, p)] = us → ob' l = ob l := fun e => hu (_, _) (by rw [← e]; exact List.mem_cons_self)
  cases op <;> simp only [Op.operands] at ha hself <;> try (simp only [opE] at hp ⊢)
  case alloc e =>
    split at hp
    · split at hp
      · rename_i hb
        obtain ⟨hc, h⟩ := condW_no hp
        simp only [fL_eq] at h
        rw [hone h.1, hb]
        exact hp
      · exact hp.elim
    · exact hp.elim
  case box e x =>
    split at hp
    · split at hp
      · rename_i hb
        have hp' := hp
        simp only [fD_eq] at hp'
        obtain ⟨hc, h⟩ := condW_no hp'
        simp only [fL_eq] at h
        rw [hone h.1, hb]
        exact hp
      · exact hp.elim
    · exact hp.elim
  case load t x =>
    split at hp
    · rename_i l off hx
      rw [hself x (by simp) l (by rw [hx]; simp [D.labs0])]
      exact hp
    · rename_i l s k j hx
      rw [hself x (by simp) l (by rw [hx]; simp [D.labs0])]
      exact hp
    · exact hp
  case store t x y =>
    split at hp
    · rename_i l off hx
      rw [hself x (by simp) l (by rw [hx]; simp [D.labs0])]
      exact hp
    · rename_i l s k j hx
      rw [hself x (by simp) l (by rw [hx]; simp [D.labs0])]
      exact hp
    · exact hp.elim
  case buildSlice t n parts =>
    split at hp
    · rename_i dst0 e l ek
      split at hp
      · rename_i hb
        have hl : ob' l = ob l := by
          obtain ⟨hc, h⟩ := condW_no hp
          have : ∀ (parts : List (Nat × D κ)) (cs : List (D κ)), fillW (fun i => some (i * (X.T e).size, (X.T e).size)) parts cs (fun cs => condW (cs.all D.frz0) ([(l, Ob.row e n (fun i j => cs.getD (i * (X.T e).size + j) .opq), false)] = us ∧ (D.own l (X.T e).size 0 n) = d) False) → ob' l = ob l := by
            intro parts
            induction parts with
            | nil =>
              intro cs h
              simp only [fillW, fL_eq] at h
              exact hone (condW_no h).2.1
            | cons p r ih =>
              intro cs h
              simp only [fillW, fD_eq] at h
              exact ih _ (condW_no h).2
          exact this _ _ h
        rw [hl, hb]
        exact hp
      · exact hp.elim
    · exact hp.elim
  case makeSlice t len cap =>
    split at hp
    · split at hp
      · rename_i hb
        have hp' := hp
        simp only [fN_eq] at hp'
        rw [hone (condW_no hp').2.2.1, hb]
        exact hp
      · exact hp.elim
    · exact hp.elim
  case call c =>
    split at hp
    · rename_i x hx
      have hax := ha x (by simp [Call.operands, hx])
      have haa : ∀ y ∈ c.args.toList, Agr ob ob' (ev y).labs2 := fun y hy => ha y (by simp only [Call.operands, hx, Array.mem_append]; exact .inr (by simpa using hy))
      split at hp
      · rename_i f cs hf
        simp only [fL_eq] at hp ⊢
        rcases hp with (hp | hp) | ⟨H, H', d', h1, h2, h3, h4⟩
        · refine .inl (.inl (frzA_congr ?_ hp))
          intro l hl
          simp only [List.flatMap_append, List.mem_append, List.mem_flatMap, List.mem_map] at hl
          rcases hl with ⟨_, ⟨y, hy, rfl⟩, hl⟩ | ⟨c', hc', hl⟩
          · exact haa y hy l (labs12 hl)
          · refine hax l ?_
            rw [hf]
            simp only [D.labs2, List.mem_flatMap]
            exact ⟨c', hc', hl⟩
        · refine .inl (.inr ⟨perm_congr (fun d hd l hl => ?_) hp.h⟩)
          rcases List.mem_append.1 hd with hd | hd
          · obtain ⟨y, hy, rfl⟩ := List.mem_map.1 hd
            exact (haa y hy).self (labs12 (labs01 hl))
          · refine hax.self ?_
            rw [hf]
            simp only [D.labs2, List.mem_flatMap]
            exact ⟨d, hd, labs01 hl⟩
        · have h4' := h4
          simp only [fD_eq] at h4'
          have hH : ∀ p ∈ H, ob' p.1 = ob p.1 := fun p hp => hu (p.1, .dead, false) (by rw [← h4'.1]; exact List.mem_append_left _ (List.mem_map.2 ⟨p, hp, rfl⟩))
          have hH' : ∀ p ∈ H', ob' p.1 = ob p.1 := fun p hp => hu (p.1, p.2, false) (by rw [← h4'.1]; exact List.mem_append_right _ (List.mem_map.2 ⟨p, hp, rfl⟩))
          refine .inr ⟨H, H', d', h1, ?_, ?_, h4⟩
          · unfold lentB at h2 ⊢
            simp only [Bool.and_eq_true] at h2 ⊢
            obtain ⟨⟨⟨⟨n1, n2⟩, n3⟩, n4⟩, n5⟩ := h2
            refine ⟨⟨⟨⟨n1, n2⟩, ?_⟩, n4⟩, n5⟩
            refine List.all_eq_true.2 fun p hp => ?_
            have := List.all_eq_true.1 n3 p hp
            unfold isFree at this ⊢
            rw [hH' p hp]
            exact this
          · clear h1 h2 h4 h4'
            induction H with
            | nil => trivial
            | cons p r ih =>
              refine ⟨?_, ih h3.2 (fun q hq => hH q (List.mem_cons_of_mem _ hq))⟩
              have := h3.1
              rw [hH p List.mem_cons_self]
              exact this
      · rename_i f fs hf
        simp only [fL_eq] at hp ⊢
        rcases hp with hp | hp
        · refine .inl (frzA_congr ?_ hp)
          intro l hl
          simp only [List.flatMap_append, List.mem_append, List.mem_flatMap, List.mem_map] at hl
          rcases hl with ⟨c', hc', hl⟩ | ⟨_, ⟨y, hy, rfl⟩, hl⟩
          · refine hax l ?_
            rw [hf]
            simp only [D.labs2, List.mem_flatMap]
            exact ⟨c', hc', hl⟩
          · exact haa y hy l (labs12 hl)
        · exact hp.elim
      · exact hp.elim
    · rename_i hx
      split at hp
      · rename_i dst0 s x t t' k ea et
        have hm : ∀ y ∈ c.args.toList, ∀ l ∈ (ev y).labs0, ob' l = ob l := fun y hy => hself y (by simp only [Call.operands, hx, Array.mem_append]; exact .inr (by simpa using hy))
        refine condW_mono1 hp (fun h => ?_)
        simp only [fD_eq] at h ⊢
        refine app_congr ?_ (hm s (by rw [ea]; simp)) (fun l hl => hm x (by rw [ea]; simp) l (strD_labs hl)) h
        have hk : ∃ q, (k, q) ∈ us := by
          clear hm hself ha hu hone
          unfold appE at h
          simp only [fN_eq] at h
          split at h
          · obtain ⟨_, h⟩ := condW_no h
            split at h
            · unfold srcW at h
              split at h
              · split at h
                · exact ⟨_, by rw [← (condW_no h).2.2.2.1]; exact List.mem_cons_self⟩
                · exact h.elim
              · split at h
                · exact ⟨_, by rw [← (condW_no h).2.2.1]; exact List.mem_cons_self⟩
                · exact h.elim
            · split at h
              · obtain ⟨_, h⟩ := condW_no h
                unfold srcW at h
                split at h
                · split at h
                  · exact ⟨_, by rw [← (condW_no h).2.2.2.1]; exact List.mem_cons_of_mem _ List.mem_cons_self⟩
                  · exact h.elim
                · split at h
                  · exact ⟨_, by rw [← (condW_no h).2.2.1]; exact List.mem_cons_of_mem _ List.mem_cons_self⟩
                  · exact h.elim
              · exact h.elim
            · exact h.elim
          · exact h.elim
        obtain ⟨q, hq⟩ := hk
        exact hu _ hq
      · exact hp.elim
    · exact hp
  case convert s t x =>
    split at hp
    · exact condW_mono1 hp (fun h => src_congr (hself x (by simp)) h)
    · exact hp
  case makeInterface t x =>
    split at hp
    · exact hp.elim
    · exact hp.elim
    · rcases hp with hp | hp
      · refine .inl (frzA_congr (fun l hl => ?_) hp)
        simp only [List.flatMap_cons, List.flatMap_nil, List.append_nil] at hl
        exact ha x (by simp) l (labs12 hl)
      · exact .inr hp
    · refine frzA_congr (fun l hl => ?_) hp
      simp only [List.flatMap_cons, List.flatMap_nil, List.append_nil] at hl
      exact ha x (by simp) l (labs12 hl)
  case makeFunc fn first caps =>
    split at hp
    · rename_i f x r hf hc
      refine frzA_congr (fun l hl => ?_) hp
      simp only [List.mem_flatMap, List.mem_map] at hl
      obtain ⟨_, ⟨y, hy, rfl⟩, hl⟩ := hl
      exact ha y (by rw [Array.mem_append]; exact .inl (by rw [← Array.mem_toList_iff, hf]; exact hy)) l (labs12 hl)
    · exact hp
  case makeMap t r =>
    split at hp
    · split at hp
      · rename_i hb
        rw [show ob' _ = ob _ from (condW_no hp).2.elim (fun h => hone h.1) (fun h => hone h.h.1), hb]
        exact hp
      · exact hp.elim
    · exact hp.elim
  case insert t m k x =>
    rw [fD_eq] at hp ⊢
    exact ins_congr (hself m (by simp)) (fun l hl => ha x (by simp) l (labs12 hl)) hp
  case mapUpdate t m k x =>
    rw [fD_eq] at hp ⊢
    exact ins_congr (hself m (by simp)) (fun l hl => ha x (by simp) l (labs12 hl)) hp
  case lookup t m k ok => exact look_congr (hself m (by simp)) hp
  case mapEntry t m k => exact ment_congr (hself m (by simp)) hp
  case entryStore t m s x =>
    rw [fD_eq] at hp ⊢
    exact esto_congr (hself m (by simp)) hp
  all_goals exact hp

end
end Go.Proofs.YteojgenhgjhohaaDoor
