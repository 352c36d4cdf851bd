/-
  Regions whose order is open, over any program: operations that may change places do, and every order comes to the text's end.
-/
import Derived.Test.YteojgenhgjhohaaDoorN14
import Derived.StillTail
namespace Go.Proofs.YteojgenhgjhohaaDoor
open Go.RowKit
set_option linter.unusedVariables false
set_option linter.unusedSimpArgs false

section
variable {κ : Type} {X : Cx κ} {M0 M : Nat → Nat → Prop} {S0 : Ln} {w0 w : World} {N : Nat} {β : Bt} {σ : St κ} {a : Act}

/-! ## What an operation does, picked out -/

theorem condW_yes {b : Bool} {A B : Prop} (hc : b = true) (h : A) : condW b A B := by rw [hc]; exact h
theorem arith_pick {k : IntKind} {n : Int} {K : D κ → Prop} (h : arithW k n K) : ∃ d, K d ∧ ∀ K' : D κ → Prop, K' d → arithW k n K' := by
  cases k
  case i64 => exact ⟨_, h.2, fun K' h' => ⟨h.1, h'⟩⟩
  all_goals exact ⟨_, h, fun K' h' => h'⟩
theorem int_pick {op : BinOp} {k : IntKind} {a b : Int} {K : D κ → Prop} (h : intW op k a b K) : ∃ d, K d ∧ ∀ K' : D κ → Prop, K' d → intW op k a b K' := by
  cases op <;> simp only [intW] at h ⊢
  case quo =>
    rcases h with ⟨x, y, z⟩ | ⟨x, y⟩
    · obtain ⟨d, h1, h2⟩ := arith_pick z; exact ⟨d, h1, fun K' h' => .inl ⟨x, y, h2 K' h'⟩⟩
    · obtain ⟨d, h1, h2⟩ := arith_pick y; exact ⟨d, h1, fun K' h' => .inr ⟨x, h2 K' h'⟩⟩
  case rem =>
    rcases h with ⟨x, y, z⟩ | ⟨x, y⟩
    · exact ⟨_, z, fun K' h' => .inl ⟨x, y, h'⟩⟩
    · exact ⟨_, y, fun K' h' => .inr ⟨x, h'⟩⟩
  all_goals first
    | exact arith_pick h
    | exact ⟨_, h, fun K' h' => h'⟩
    | exact h.elim
theorem part_pick {i : TyI} {off : Nat} {cs : List (D κ)} {K : D κ → Prop} (h : partW i off cs K) : ∃ d, K d ∧ ∀ K' : D κ → Prop, K' d → partW i off cs K' := by
  unfold partW at h ⊢
  obtain ⟨hc, h⟩ := condW_no h
  split at h
  · simp only [fL_eq] at h; exact ⟨_, h, fun K' h' => condW_yes hc (by simp only [fL_eq]; exact h')⟩
  · simp only [fD_eq] at h; exact ⟨_, h, fun K' h' => condW_yes hc (by simp only [fD_eq]; exact h')⟩
theorem bounds_pick {lo hi : Option (D κ)} {n : Nat} {K : Nat → Nat → Prop} (h : boundsW lo hi n K) : ∃ a b, K a b ∧ ∀ K' : Nat → Nat → Prop, K' a b → boundsW lo hi n K' := by
  unfold boundsW at h ⊢
  split at h
  · exact ⟨_, _, h.2, fun K' h' => ⟨h.1, h'⟩⟩
  · exact h.elim
theorem cmp_pick {op : BinOp} {b : Bool} {K : D κ → Prop} (h : cmpW op b K) : ∃ d, K d ∧ ∀ K' : D κ → Prop, K' d → cmpW op b K' := by
  unfold cmpW at h ⊢
  split at h <;> first
    | exact ⟨_, h, fun K' h' => h'⟩
    | exact h.elim
theorem nb_pick {op : BinOp} {n : Nat} {K : D κ → Prop} (h : nbW op n K) : ∃ d, K d ∧ ∀ K' : D κ → Prop, K' d → nbW op n K' := by
  unfold nbW at h ⊢
  split at h <;> first
    | exact ⟨_, h, fun K' h' => h'⟩
    | exact h.elim
theorem nil_pick {tk : TyK} {c : Bool} {op : BinOp} {x y : D κ} {K : D κ → Prop} (h : nilW X tk c op x y K) : ∃ d, K d ∧ ∀ K' : D κ → Prop, K' d → nilW X tk c op x y K' := by
  unfold nilW at h ⊢
  split at h
  · split at h
    · exact cmp_pick h
    · exact nb_pick h
    · split at h
      · exact nb_pick h
      · exact h.elim
  · split at h <;> first
      | exact cmp_pick h
      | exact h.elim
  · split at h <;> first
      | exact cmp_pick h
      | exact h.elim
  · split at h
    · obtain ⟨hc, h⟩ := condW_no h
      obtain ⟨d, h1, h2⟩ := cmp_pick h
      exact ⟨d, h1, fun K' h' => condW_yes hc (h2 K' h')⟩
    · exact cmp_pick h
    · exact h.elim
  · exact h.elim
theorem zero_pick {i : TyI} {K : D κ → Prop} (h : zeroW i K) : ∃ d, K d ∧ ∀ K' : D κ → Prop, K' d → zeroW i K' := by
  unfold zeroW at h ⊢
  split at h
  · simp only [fL_eq] at h ⊢; exact ⟨_, h, fun K' h' => h'⟩
  · exact ⟨_, h, fun K' h' => h'⟩
theorem asrt_pick {t : TypeId} {ok : Bool} {x : D κ} {K : D κ → Prop} (h : asrtW X t ok x K) : ∃ d, K d ∧ ∀ K' : D κ → Prop, K' d → asrtW X t ok x K' := by
  unfold asrtW at h ⊢
  split at h
  · exact h.elim
  · exact h.elim
  · split at h
    · rename_i u d
      rcases condW_spec h with ⟨e, h1⟩ | ⟨e, h1⟩
      · rw [fD_eq] at h1
        cases ok
        · exact ⟨_, h1, fun K' h' => condW_yes e (by rw [fD_eq]; exact h')⟩
        · exact ⟨_, h1, fun K' h' => condW_yes e (by rw [fD_eq]; exact h')⟩
      · cases ok
        · exact h1.elim
        · obtain ⟨d, h2, h3⟩ := zero_pick h1
          exact ⟨_, h2, fun K' h' => by rw [e]; exact h3 (fun z => K' (.tup [z, .v (.bool false)])) h'⟩
    · cases ok
      · exact h.elim
      · obtain ⟨d, h2, h3⟩ := zero_pick h
        exact ⟨_, h2, fun K' h' => h3 (fun z => K' (.tup [z, .v (.bool false)])) h'⟩
    · exact h.elim
theorem strL_pick : ∀ {cs : List (D κ)} {J : List ByteArray → Prop}, strL cs J → ∃ l, J l ∧ ∀ J' : List ByteArray → Prop, J' l → strL cs J'
  | [], _, h => ⟨_, h, fun J' h' => h'⟩
  | d :: r, _, h => by
    unfold strL at h ⊢
    rw [fD_eq] at h
    split at h
    · obtain ⟨l, h1, h2⟩ := strL_pick h
      exact ⟨_, h1, fun J' h' => by rw [fD_eq]; exact h2 (fun l => J' (_ :: l)) h'⟩
    · exact h.elim
theorem key_pick {kf : KF} {d : D κ} {J : Value → Prop} (h : keyW kf d J) : ∃ v, J v ∧ ∀ J' : Value → Prop, J' v → keyW kf d J' := by
  unfold keyW at h ⊢
  split at h
  · split at h
    · exact ⟨_, h, fun J' h' => h'⟩
    · exact h.elim
  · split at h
    · exact ⟨_, h.2, fun J' h' => ⟨h.1, h'⟩⟩
    · exact h.elim
  · split at h
    · obtain ⟨hc, h⟩ := condW_no h
      obtain ⟨l, h1, h2⟩ := strL_pick h
      exact ⟨_, h1, fun J' h' => condW_yes hc (h2 (fun l => J' (.agg (l.map .string).toArray)) h')⟩
    · exact h.elim
theorem look_pick {ob : Obs κ} {t : TypeId} {ok : Bool} {m k : D κ} {K : D κ → Prop} (h : lookW X ob t ok m k K) : ∃ d, K d ∧ ∀ K' : D κ → Prop, K' d → lookW X ob t ok m k K' := by
  unfold lookW at h ⊢
  split at h
  · split at h
    · split at h
      · obtain ⟨hc, h⟩ := condW_no h
        obtain ⟨v, ⟨q, h1, h2⟩, h3⟩ := key_pick h
        rw [fD_eq] at h2
        cases ok
        · exact ⟨_, h2, fun K' h' => condW_yes hc (h3 _ ⟨q, h1, by rw [fD_eq]; exact h'⟩)⟩
        · exact ⟨_, h2, fun K' h' => condW_yes hc (h3 _ ⟨q, h1, by rw [fD_eq]; exact h'⟩)⟩
      · exact h.elim
    · obtain ⟨es, hg, h⟩ := h
      obtain ⟨hc, h⟩ := condW_no h
      obtain ⟨v, ⟨q, h1, h2⟩, h3⟩ := key_pick h
      rw [fD_eq] at h2
      cases ok
      · exact ⟨_, h2, fun K' h' => ⟨es, hg, condW_yes hc (h3 _ ⟨q, h1, by rw [fD_eq]; exact h'⟩)⟩⟩
      · exact ⟨_, h2, fun K' h' => ⟨es, hg, condW_yes hc (h3 _ ⟨q, h1, by rw [fD_eq]; exact h'⟩)⟩⟩
    · exact h.elim
  · exact h.elim
theorem mset_pick {ob : Obs κ} {t : TypeId} {m k d : D κ} {J : Ups κ → Prop} (h : msetW X ob t m k d J) : ∃ us, J us ∧ ∀ J' : Ups κ → Prop, J' us → msetW X ob t m k d J' := by
  unfold msetW at h ⊢
  split at h
  · split at h
    · split at h
      · obtain ⟨hc, h⟩ := condW_no h
        obtain ⟨v, h1, h2⟩ := key_pick h
        exact ⟨_, h1, fun J' h' => condW_yes hc (h2 _ h')⟩
      · obtain ⟨hc, h⟩ := condW_no h
        obtain ⟨v, h1, h2⟩ := key_pick h
        exact ⟨_, h1, fun J' h' => condW_yes hc (h2 _ h')⟩
      · exact h.elim
    · exact h.elim
  · exact h.elim
theorem ment_pick {ob : Obs κ} {t : TypeId} {m k : D κ} {J : Ups κ → D κ → Prop} (h : mentW X ob t m k J) : ∃ us d, J us d ∧ ∀ J' : Ups κ → D κ → Prop, J' us d → mentW X ob t m k J' := by
  unfold mentW at h ⊢
  split at h
  · split at h
    · split at h
      · obtain ⟨hc, h⟩ := condW_no h
        obtain ⟨v, h1, h2⟩ := key_pick h
        rcases h1 with ⟨i, p, g1, g2, g3⟩ | ⟨g1, g2⟩
        · exact ⟨_, _, g3, fun J' h' => condW_yes hc (h2 _ (.inl ⟨i, p, g1, g2, h'⟩))⟩
        · exact ⟨_, _, g2, fun J' h' => condW_yes hc (h2 _ (.inr ⟨g1, h'⟩))⟩
      · exact h.elim
    · exact h.elim
  · exact h.elim
theorem esto_pick {ob : Obs κ} {t : TypeId} {m s d : D κ} {J : Ups κ → Prop} (h : estoW X ob t m s d J) : ∃ us, J us ∧ ∀ J' : Ups κ → Prop, J' us → estoW X ob t m s d J' := by
  unfold estoW at h ⊢
  split at h
  · split at h
    · obtain ⟨hc, i, p, h1, h2, h3⟩ := condW_no h
      exact ⟨_, h3, fun J' h' => condW_yes hc ⟨i, p, h1, h2, h'⟩⟩
    · exact h.elim
  · exact h.elim
theorem agg_pick : ∀ (fs : List (Nat × Nat)) (i : Nat) (cs ds : List (D κ)) (J : Bool → Prop) (h : aggW X fs i cs ds J), ∃ b, J b ∧ ∀ J' : Bool → Prop, J' b → aggW X fs i cs ds J' := by
  intro fs
  induction fs with
  | nil => intro i cs ds J h; cases cs <;> cases ds <;> first | exact ⟨_, h, fun J' h' => h'⟩ | exact h.elim
  | cons p r ih =>
    intro i cs ds J h
    cases cs with
    | nil => cases ds <;> exact h.elim
    | cons c cs =>
      cases ds with
      | nil => exact h.elim
      | cons e ds =>
        simp only [aggW, fD_eq] at h ⊢
        split at h
        · obtain ⟨hc, h⟩ := condW_no h
          obtain ⟨b, h1, h2⟩ := ih _ _ _ _ h
          exact ⟨_, h1, fun J' h' => condW_yes hc (h2 _ h')⟩
        · exact h.elim
theorem eq_pick {t : TypeId} {tk : TyK} {op : BinOp} {cs ds : List (D κ)} {K : D κ → Prop} (h : eqW X t tk op cs ds K) : ∃ d, K d ∧ ∀ K' : D κ → Prop, K' d → eqW X t tk op cs ds K' := by
  unfold eqW at h ⊢
  split at h
  · obtain ⟨hc, h⟩ := condW_no h
    obtain ⟨b, h1, h2⟩ := agg_pick _ _ _ _ _ h
    unfold cmpW at h1
    split at h1
    · exact ⟨_, h1, fun K' h' => condW_yes hc (h2 _ h')⟩
    · exact ⟨_, h1, fun K' h' => condW_yes hc (h2 _ h')⟩
    · exact h1.elim
  · exact h.elim
theorem pure_pick {op : Op} {ev : Operand → D κ} {ρ : Operand → Value} (hev : ∀ x, Rep X.V M w β (ev x) (ρ x)) {K : D κ → Prop} (h : pureW X op ev K) : ∃ d, K d ∧ ∀ K' : D κ → Prop, K' d → pureW X op ev K' := by
  unfold pureW at h ⊢
  split at h
  · split at h
    · rename_i t _
      simp only [fD_eq] at h ⊢
      cases t
      · exact ⟨_, h, fun K' h' => h'⟩
      · exact ⟨_, h, fun K' h' => h'⟩
    · exact h.elim
  · unfold binW at h ⊢
    split at h
    · split at h
      · unfold shiftW at h ⊢
        split at h
        · exact ⟨_, h.2, fun K' h' => ⟨h.1, h'⟩⟩
        · exact ⟨_, h.2, fun K' h' => ⟨h.1, h'⟩⟩
        · exact h.elim
      · obtain ⟨hc, h⟩ := condW_no h
        obtain ⟨d, h1, h2⟩ := int_pick h
        exact ⟨d, h1, fun K' h' => condW_yes hc (h2 K' h')⟩
    · split at h
      · exact ⟨_, h.2, fun K' h' => ⟨h.1, h'⟩⟩
      all_goals first
        | exact ⟨_, h, fun K' h' => h'⟩
        | exact h.elim
    · split at h
      · obtain ⟨hc, h⟩ := condW_no h
        exact ⟨_, h, fun K' h' => condW_yes hc h'⟩
      · obtain ⟨hc, h⟩ := condW_no h
        exact ⟨_, h, fun K' h' => condW_yes hc h'⟩
      · exact h.elim
    · exact eq_pick h
    · exact nil_pick h
  · split at h
    · exact ⟨_, h, fun K' h' => h'⟩
    · exact h.elim
  · split at h
    · exact arith_pick h
    · exact h.elim
  · split at h
    · simp only [fD_eq] at h ⊢
      obtain ⟨hc, h⟩ := condW_no h
      exact ⟨_, h, fun K' h' => condW_yes hc h'⟩
    · exact h.elim
  · rename_i c
    split at h
    · rename_i b
      unfold builtinW at h ⊢
      split at h
      · rename_i t x e1 e2
        obtain ⟨y, hy, rfl⟩ : ∃ y, y ∈ c.args.toList ∧ ev y = x := by
          have : x ∈ c.args.toList.map ev := by rw [e2]; simp
          obtain ⟨y, hy, hyx⟩ := List.mem_map.1 this
          exact ⟨y, hy, hyx⟩
        unfold lenW at h ⊢
        have hr := hev y
        split at h
        · rename_i s q1 q2
          rw [q2] at hr
          obtain ⟨_, ho⟩ := hr.val
          exact ⟨_, h (of_decide_eq_true ho), fun K' h' _ => h'⟩
        · rename_i e l s o n q1 q2
          rw [q2] at hr
          obtain ⟨A, c', hv, h1, h2⟩ := hr.ownSlice
          exact ⟨_, h (by unfold maxLen at h2; omega), fun K' h' _ => h'⟩
        · split at h
          · rename_i sz b n f q
            obtain ⟨A, c', hv, h1, h2, h3, _⟩ := (hr.asSl q).slice
            exact ⟨_, h ⟨h3, by unfold maxLen at h2; omega⟩, fun K' h' _ => h'⟩
          · exact h.elim
        · exact h.elim
      · unfold mmW at h ⊢
        split at h
        · exact ⟨_, h, fun K' h' => h'⟩
        · exact h.elim
      · unfold mmW at h ⊢
        split at h
        · exact ⟨_, h, fun K' h' => h'⟩
        · exact h.elim
      · exact h.elim
    · exact h.elim
  · split at h
    · exact ⟨_, h.2, fun K' h' => ⟨h.1, h'⟩⟩
    · obtain ⟨hc, h⟩ := condW_no h
      obtain ⟨d, h1, h2⟩ := part_pick h.2
      exact ⟨d, h1, fun K' h' => condW_yes hc ⟨h.1, h2 _ h'⟩⟩
    · exact h.elim
  · split at h
    · split at h
      · obtain ⟨hc, h⟩ := condW_no h
        exact ⟨_, h.2, fun K' h' => condW_yes hc ⟨h.1, h'⟩⟩
      · split at h
        · obtain ⟨hc, h⟩ := condW_no h
          exact ⟨_, h.2, fun K' h' => condW_yes hc ⟨h.1, h'⟩⟩
        · exact h.elim
      · exact h.elim
    · split at h
      · obtain ⟨hc, h⟩ := condW_no h
        exact ⟨_, h.2, fun K' h' => condW_yes hc ⟨h.1, h'⟩⟩
      · obtain ⟨hc, h⟩ := condW_no h
        exact ⟨_, h.2, fun K' h' => condW_yes hc ⟨h.1, h'⟩⟩
      · exact h.elim
    · exact h.elim
  · split at h
    · split at h
      · simp only [fN_eq] at h ⊢; exact ⟨_, h, fun K' h' => h'⟩
      · exact h.elim
    · split at h
      · simp only [fN_eq] at h ⊢; exact ⟨_, h, fun K' h' => h'⟩
      · exact h.elim
    · split at h
      · simp only [fN_eq] at h ⊢; exact ⟨_, h, fun K' h' => h'⟩
      · exact h.elim
    · exact h.elim
  · split at h
    · split at h
      · exact h.elim
      · exact part_pick h
    · exact h.elim
  · split at h
    · split at h
      · split at h
        · exact h.elim
        · exact part_pick h
      · exact h.elim
    · exact h.elim
  · unfold convW at h ⊢
    split at h
    · exact ⟨_, h, fun K' h' => h'⟩
    · exact ⟨_, h.2, fun K' h' => ⟨h.1, h'⟩⟩
    · exact ⟨_, h, fun K' h' => h'⟩
    · exact ⟨_, h, fun K' h' => h'⟩
    · exact ⟨_, h, fun K' h' => h'⟩
    · exact h.elim
  · unfold sliceW at h ⊢
    split at h
    · obtain ⟨p, q, h1, h2⟩ := bounds_pick h
      exact ⟨_, h1, fun K' h' => h2 _ h'⟩
    · obtain ⟨hc, h⟩ := condW_no h
      obtain ⟨p, q, h1, h2⟩ := bounds_pick h
      exact ⟨_, h1, fun K' h' => condW_yes hc (h2 _ h')⟩
    · split at h
      · obtain ⟨hc, h⟩ := condW_no h
        obtain ⟨p, q, h1, h2⟩ := bounds_pick h
        exact ⟨_, h1, fun K' h' => condW_yes hc (h2 _ h')⟩
      · exact h.elim
    · exact h.elim
  · split at h
    · exact ⟨_, h, fun K' h' => h'⟩
    · exact ⟨_, h, fun K' h' => h'⟩
    · exact ⟨_, h, fun K' h' => h'⟩
    · exact h.elim
  · exact asrt_pick h
  · split at h
    · simp only [fL_eq] at h ⊢; exact ⟨_, h, fun K' h' => h'⟩
    · exact h.elim
  · exact h.elim
theorem fill_pick {pl : Nat → Option (Nat × Nat)} {J : List (D κ) → Prop} : ∀ (parts : List (Nat × D κ)) (cs : List (D κ)), fillW pl parts cs J → ∃ r, J r ∧ ∀ J' : List (D κ) → Prop, J' r → fillW pl parts cs J'
  | [], cs, h => by simp only [fillW, fL_eq] at h ⊢; exact ⟨_, h, fun J' h' => h'⟩
  | p :: r, cs, h => by
    simp only [fillW, fD_eq] at h ⊢
    split at h
    · obtain ⟨hc, h⟩ := condW_no h
      obtain ⟨q, h1, h2⟩ := fill_pick r _ h
      exact ⟨q, h1, fun J' h' => condW_yes hc (h2 J' h')⟩
    · exact h.elim
theorem src_pick {ob : Obs κ} {e : Nat} {d : D κ} {J : Nat → (Nat → Nat → D κ) → Prop} (h : srcW X ob e d J) : ∃ m f, J m f ∧ ∀ J' : Nat → (Nat → Nat → D κ) → Prop, J' m f → srcW X ob e d J' := by
  unfold srcW at h ⊢
  split at h
  · split at h
    · obtain ⟨hc, h⟩ := condW_no h
      exact ⟨_, _, h.2, fun J' h' => condW_yes hc ⟨h.1, h'⟩⟩
    · exact h.elim
  · split at h
    · obtain ⟨hc, h⟩ := condW_no h
      exact ⟨_, _, h, fun J' h' => condW_yes hc h'⟩
    · exact h.elim
theorem app_pick {ob : Obs κ} {t : TypeId} {ds dx : D κ} {k : Nat} {J : Ups κ → D κ → Prop} (h : appE X ob t ds dx k J) : ∃ us d, J us d ∧ ∀ J' : Ups κ → D κ → Prop, J' us d → appE X ob t ds dx k J' := by
  unfold appE at h ⊢
  simp only [fN_eq] at h ⊢
  split at h
  · obtain ⟨hc, h⟩ := condW_no h
    split at h
    · obtain ⟨m, f, h1, h2⟩ := src_pick h
      exact ⟨_, _, h1.2, fun J' h' => condW_yes hc (h2 _ ⟨h1.1, h'⟩)⟩
    · split at h
      · obtain ⟨hc2, h⟩ := condW_no h
        obtain ⟨m, f, h1, h2⟩ := src_pick h
        refine ⟨_, _, h1.2, fun J' h' => condW_yes hc ?_⟩
        exact condW_yes hc2 (h2 _ ⟨h1.1, h'⟩)
      · exact h.elim
    · exact h.elim
  · exact h.elim
theorem frzR_pick {ob : Obs κ} {d : D κ} {J : Ups κ → D κ → Prop} (h : frzRW X ob d J) : ∃ us e, J us e ∧ ∀ J' : Ups κ → D κ → Prop, J' us e → frzRW X ob d J' := by
  unfold frzRW at h ⊢
  split at h
  · split at h
    · obtain ⟨hc, h⟩ := condW_no h
      exact ⟨_, _, h.2, fun J' h' => condW_yes hc ⟨h.1, h'⟩⟩
    · exact h.elim
  · exact ⟨_, _, h, fun J' h' => h'⟩
theorem frzRL_pick {ob : Obs κ} : ∀ {ds : List (D κ)} {J : Ups κ → List (D κ) → Prop}, frzRL X ob ds J → ∃ us es, J us es ∧ ∀ J' : Ups κ → List (D κ) → Prop, J' us es → frzRL X ob ds J'
  | [], J, h => ⟨_, _, h, fun J' h' => h'⟩
  | d :: r, J, h => by
    obtain ⟨us, e, h1, h2⟩ := frzR_pick h
    obtain ⟨us', es, h3, h4⟩ := frzRL_pick h1
    exact ⟨_, _, h3, fun J' h' => h2 _ (h4 _ h')⟩
theorem frz0_pick {ob : Obs κ} {d : D κ} {J : Ups κ → D κ → Prop} (h : frz0W X ob d J) : ∃ us e, J us e ∧ ∀ J' : Ups κ → D κ → Prop, J' us e → frz0W X ob d J' := by
  unfold frz0W at h ⊢
  split at h
  · split at h
    · obtain ⟨us, es, h1, h2⟩ := frzRL_pick h
      obtain ⟨hc, h1⟩ := condW_no h1
      simp only [fN_eq] at h1
      exact ⟨_, _, h1, fun J' h' => h2 _ (condW_yes hc (by simp only [fN_eq]; exact h'))⟩
    · exact h.elim
  · exact frzR_pick h
theorem frzL_pick {ob : Obs κ} : ∀ {ds : List (D κ)} {J : Ups κ → List (D κ) → Prop}, frzLW X ob ds J → ∃ us es, J us es ∧ ∀ J' : Ups κ → List (D κ) → Prop, J' us es → frzLW X ob ds J'
  | [], J, h => ⟨_, _, h, fun J' h' => h'⟩
  | d :: r, J, h => by
    obtain ⟨us, e, h1, h2⟩ := frz0_pick h
    obtain ⟨us', es, h3, h4⟩ := frzL_pick h1
    exact ⟨_, _, h3, fun J' h' => h2 _ (h4 _ h')⟩
theorem frzW_pick {ob : Obs κ} {d : D κ} {J : Ups κ → D κ → Prop} (h : frzW X ob d J) : ∃ us e, J us e ∧ ∀ J' : Ups κ → D κ → Prop, J' us e → frzW X ob d J' := by
  unfold frzW at h ⊢
  split at h
  · obtain ⟨us, es, h1, h2⟩ := frzL_pick h
    exact ⟨_, _, h1, fun J' h' => h2 _ h'⟩
  · obtain ⟨us, es, h1, h2⟩ := frzL_pick h
    exact ⟨_, _, h1, fun J' h' => h2 _ h'⟩
  · exact frz0_pick h
theorem frzA_pick {ob : Obs κ} : ∀ {ds : List (D κ)} {J : Ups κ → List (D κ) → Prop}, frzAW X ob ds J → ∃ us es, J us es ∧ ∀ J' : Ups κ → List (D κ) → Prop, J' us es → frzAW X ob ds J'
  | [], J, h => ⟨_, _, h, fun J' h' => h'⟩
  | d :: r, J, h => by
    obtain ⟨us, e, h1, h2⟩ := frzW_pick h
    obtain ⟨us', es, h3, h4⟩ := frzA_pick h1
    exact ⟨_, _, h3, fun J' h' => h2 _ (h4 _ h')⟩
theorem perm_pick {ob : Obs κ} {f : FuncId} {ds : List (D κ)} {J : Ups κ → D κ → Prop} (h : permW X ob f ds J) : ∃ us d, J us d ∧ ∀ J' : Ups κ → D κ → Prop, J' us d → permW X ob f ds J' := by
  unfold permW at h ⊢
  split at h
  · split at h
    · obtain ⟨d, es', h1, h2⟩ := h
      obtain ⟨hc, h2⟩ := condW_no h2
      rw [fD_eq] at h2
      exact ⟨_, _, h2, fun J' h' => ⟨d, es', h1, condW_yes hc (by rw [fD_eq]; exact h')⟩⟩
    · exact h.elim
  · exact h.elim
theorem ins_pick {ob : Obs κ} {t : TypeId} {m k d : D κ} {J : Ups κ → Prop} (h : insW X ob t m k d J) : ∃ us, J us ∧ ∀ J' : Ups κ → Prop, J' us → insW X ob t m k d J' := by
  unfold insW at h ⊢
  obtain ⟨us, ds, h1, h2⟩ := frzA_pick h
  split at h1
  · obtain ⟨hc, h1⟩ := condW_no h1
    obtain ⟨us', h3, h4⟩ := mset_pick h1
    exact ⟨_, h3, fun J' h' => h2 _ (condW_yes hc (h4 _ h'))⟩
  · exact h1.elim
theorem opE_pick {o : Oper} {ev : Operand → D κ} {ob : Obs κ} {ρ : Operand → Value} (hev : ∀ x, Rep X.V M w β (ev x) (ρ x)) {J : Ups κ → D κ → Prop} (h : opE X o ev ob J) : ∃ us d, J us d ∧ ∀ J' : Ups κ → D κ → Prop, J' us d → opE X o ev ob J' := by
  have pu : ∀ {op : Op}, pureW X op ev (fun d => J [] d) → ∃ us d, J us d ∧ ∀ J' : Ups κ → D κ → Prop, J' us d → pureW X op ev (fun d => J' [] d) := fun h => by
    obtain ⟨d, h1, h2⟩ := pure_pick hev h
    exact ⟨_, d, h1, fun J' h' => h2 _ h'⟩
  unfold opE at h ⊢
  split at h
  · simp only [fD_eq] at h ⊢; exact ⟨_, _, h, fun J' h' => h'⟩
  · simp only [fD_eq] at h ⊢; exact ⟨_, _, h, fun J' h' => h'⟩
  · split at h
    · split at h
      · obtain ⟨hc, h⟩ := condW_no h
        simp only [fL_eq] at h
        exact ⟨_, _, h, fun J' h' => condW_yes hc (by simp only [fL_eq]; exact h')⟩
      · exact h.elim
    · exact h.elim
  · split at h
    · split at h
      · simp only [fD_eq] at h ⊢
        obtain ⟨hc, h⟩ := condW_no h
        simp only [fL_eq] at h
        exact ⟨_, _, h, fun J' h' => condW_yes hc (by simp only [fL_eq]; exact h')⟩
      · exact h.elim
    · exact h.elim
  · split at h
    · split at h
      · obtain ⟨hc, h⟩ := condW_no h
        obtain ⟨d, h1, h2⟩ := part_pick h
        exact ⟨_, _, h1, fun J' h' => condW_yes hc (h2 _ h')⟩
      · exact h.elim
    · split at h
      · obtain ⟨hc, h⟩ := condW_no h
        obtain ⟨d, h1, h2⟩ := part_pick h.2
        exact ⟨_, _, h1, fun J' h' => condW_yes hc ⟨h.1, h2 _ h'⟩⟩
      · exact h.elim
    · exact pu h
  · split at h
    · split at h
      · simp only [fD_eq] at h ⊢
        obtain ⟨hc, h⟩ := condW_no h
        simp only [fL_eq] at h
        exact ⟨_, _, h, fun J' h' => condW_yes hc (by simp only [fL_eq]; exact h')⟩
      · exact h.elim
    · split at h
      · simp only [fD_eq] at h ⊢
        obtain ⟨hc, h⟩ := condW_no h
        exact ⟨_, _, h.2, fun J' h' => condW_yes hc ⟨h.1, h'⟩⟩
      · exact h.elim
    · exact h.elim
  · split at h
    · obtain ⟨r, h1, h2⟩ := fill_pick _ _ h
      exact ⟨_, _, h1, fun J' h' => h2 _ h'⟩
    · obtain ⟨hc, h⟩ := condW_no h
      obtain ⟨r, h1, h2⟩ := fill_pick _ _ h
      exact ⟨_, _, h1, fun J' h' => condW_yes hc (h2 _ h')⟩
    · exact h.elim
  · split at h
    · split at h
      · obtain ⟨hc, h⟩ := condW_no h
        obtain ⟨r, h1, h2⟩ := fill_pick _ _ h
        obtain ⟨hc2, h1⟩ := condW_no h1
        exact ⟨_, _, h1, fun J' h' => condW_yes hc (h2 _ (condW_yes hc2 h'))⟩
      · exact h.elim
    · exact h.elim
  · split at h
    · split at h
      · simp only [fN_eq] at h ⊢
        obtain ⟨hc, h⟩ := condW_no h
        exact ⟨_, _, h.2, fun J' h' => condW_yes hc ⟨h.1, h'⟩⟩
      · exact h.elim
    · exact h.elim
  · split at h
    · split at h
      · simp only [fL_eq] at h ⊢
        rcases h with (h | h) | ⟨H, H', d, h1, h2, h3, h4⟩
        · obtain ⟨us, ds, ⟨d, h1, h2⟩, h3⟩ := frzA_pick h
          simp only [fD_eq] at h2
          obtain ⟨hc, h2⟩ := condW_no h2
          exact ⟨_, _, h2, fun J' h' => .inl (.inl (h3 _ ⟨d, h1, by simp only [fD_eq]; exact condW_yes hc h'⟩))⟩
        · obtain ⟨us, d, h1, h2⟩ := perm_pick h.h
          exact ⟨us, d, h1, fun J' h' => .inl (.inr ⟨h2 J' h'⟩)⟩
        · simp only [fD_eq] at h4
          exact ⟨_, _, h4, fun J' h' => .inr ⟨H, H', d, h1, h2, h3, by simp only [fD_eq]; exact h'⟩⟩
      · simp only [fL_eq] at h ⊢
        rcases h with h | h
        · obtain ⟨us, ds, ⟨d, h1, h2⟩, h3⟩ := frzA_pick h
          simp only [fD_eq] at h2
          obtain ⟨hc, h2⟩ := condW_no h2
          exact ⟨_, _, h2, fun J' h' => .inl (h3 _ ⟨d, h1, by simp only [fD_eq]; exact condW_yes hc h'⟩)⟩
        · exact h.elim
      · exact h.elim
    · split at h
      · obtain ⟨hc, h⟩ := condW_no h
        simp only [fD_eq] at h
        obtain ⟨us, d, h1, h2⟩ := app_pick h
        exact ⟨_, _, h1, fun J' h' => condW_yes hc (by simp only [fD_eq]; exact h2 _ h')⟩
      · exact h.elim
    · exact pu h
  · split at h
    · obtain ⟨hc, h⟩ := condW_no h
      obtain ⟨m, f, ⟨g, h1, h2⟩, h3⟩ := src_pick h
      exact ⟨_, _, h2, fun J' h' => condW_yes hc (h3 _ ⟨g, h1, h'⟩)⟩
    · exact pu h
  · split at h
    · exact h.elim
    · exact h.elim
    · rcases h with h | h
      · obtain ⟨us, ds, h1, h2⟩ := frzA_pick h
        split at h1
        · obtain ⟨hc, h1⟩ := condW_no h1
          exact ⟨_, _, h1, fun J' h' => .inl (h2 _ (condW_yes hc h'))⟩
        · exact h1.elim
      · obtain ⟨l, s, n, he, h⟩ := ifoW_spec h
        exact ⟨_, _, h, fun J' h' => .inr (by rw [he]; exact h')⟩
    · obtain ⟨us, ds, h1, h2⟩ := frzA_pick h
      split at h1
      · obtain ⟨hc, h1⟩ := condW_no h1
        exact ⟨_, _, h1, fun J' h' => h2 _ (condW_yes hc h')⟩
      · exact h1.elim
  · split at h
    · obtain ⟨us, ds, h1, h2⟩ := frzA_pick h
      obtain ⟨hc, h1⟩ := condW_no h1
      exact ⟨_, _, h1, fun J' h' => h2 _ (condW_yes hc h')⟩
    · exact pu h
  · split at h
    · split at h
      · obtain ⟨hc, h⟩ := condW_no h
        rcases h with h | h
        · exact ⟨_, _, h, fun J' h' => condW_yes hc (.inl h')⟩
        · exact ⟨_, _, h.h, fun J' h' => condW_yes hc (.inr ⟨h'⟩)⟩
      · exact h.elim
    · exact h.elim
  · simp only [fD_eq] at h ⊢
    obtain ⟨us, h1, h2⟩ := ins_pick h
    exact ⟨us, _, h1, fun J' h' => h2 (fun us => J' us .und) h'⟩
  · simp only [fD_eq] at h ⊢
    obtain ⟨us, h1, h2⟩ := ins_pick h
    exact ⟨us, _, h1, fun J' h' => h2 (fun us => J' us .und) h'⟩
  · obtain ⟨d, h1, h2⟩ := look_pick h
    exact ⟨_, d, h1, fun J' h' => h2 (fun d => J' [] d) h'⟩
  · obtain ⟨us, d, h1, h2⟩ := ment_pick h
    exact ⟨us, d, h1, fun J' h' => h2 J' h'⟩
  · simp only [fD_eq] at h ⊢
    obtain ⟨us, h1, h2⟩ := esto_pick h
    exact ⟨us, _, h1, fun J' h' => h2 (fun us => J' us .und) h'⟩
  · exact pu h

/-! ## Steps -/

abbrev RW : Type := List Nat × List Nat
def wantE (all : List Oper) (o : Oper) (σ : St κ) : Option Bool :=
  match o.guard with
  | none => some true
  | some (j, want) => match (all[j]?).bind (·.dst) with
    | some t => match σ.fr t with
      | .v (.bool b) => some (b == want)
      | .und => some false
      | _ => none
    | none => none
def EffG (X : Cx κ) (all : List Oper) (o : Oper) (σ : St κ) (rw : RW) (us : Ups κ) (d : D κ) : Prop :=
  (wantE all o σ = some true ∧ opE X o σ.ev σ.ob (fun us' d' => us' = us ∧ d' = d) ∧ rw = (readsB o σ.ev σ.ob, us.map (·.1))) ∨ (wantE all o σ = some false ∧ us = [] ∧ d = .und ∧ rw = ([], []))
def StepG (X : Cx κ) (all : List Oper) (o : Oper) (rw : RW) (σ σ' : St κ) : Prop := ∃ us d, EffG X all o σ rw us d ∧ σ' = (σ.ups us).put o.dst d
theorem EffG.wr {all : List Oper} {o : Oper} {rw : RW} {us : Ups κ} {d : D κ} (h : EffG X all o σ rw us d) : rw.2 = us.map (·.1) := by
  rcases h with ⟨_, _, rfl⟩ | ⟨_, rfl, _, rfl⟩ <;> rfl

theorem sees_ev {all : List Oper} {o : Oper} {σ σ' : St κ} (h : ∀ k, seesB all o k = true → σ'.fr k = σ.fr k) (hg : σ'.gv = σ.gv) : ∀ x ∈ o.op.operands, σ.ev x = σ'.ev x := by
  intro x hx
  cases x with
  | tmp t =>
    refine (h t ?_).symm
    unfold seesB
    rw [Bool.or_eq_true]
    exact .inl (List.any_eq_true.2 ⟨.tmp t, by simpa using hx, by simp [beq_yes]⟩)
  | const v => rfl
  | func f => rfl
  | global g => simp only [St.ev, hg]
theorem wantE_congr {all : List Oper} {o : Oper} {σ σ' : St κ} (h : ∀ k, seesB all o k = true → σ'.fr k = σ.fr k) : wantE all o σ' = wantE all o σ := by
  unfold wantE
  cases hg : o.guard with
  | none => rfl
  | some p =>
    obtain ⟨j, want⟩ := p
    simp only
    cases ht : (all[j]?).bind (·.dst) with
    | none => rfl
    | some t =>
      simp only
      rw [h t]
      unfold seesB
      rw [hg]
      simp only [ht, beq_yes, Bool.or_true]
theorem deepO_self {op : Op} {ob : Obs κ} {l : Nat} : l ∈ deepO op ob l := by
  unfold deepO deepL
  cases ldB op <;> exact List.mem_cons_self
theorem reads_ev {o : Oper} {ev ev' : Operand → D κ} {ob : Obs κ} (h : ∀ x ∈ o.op.operands, ev x = ev' x) : readsB o ev ob = readsB o ev' ob := by
  unfold readsB
  cases purB o.op
  case true => rfl
  have : ∀ (l : List Operand), (∀ x ∈ l, ev x = ev' x) → (l.flatMap fun x => (ev x).labs2.flatMap (deepO o.op ob)) = l.flatMap fun x => (ev' x).labs2.flatMap (deepO o.op ob) := by
    intro l
    induction l with
    | nil => intro _; rfl
    | cons x r ih => intro h; rw [List.flatMap_cons, List.flatMap_cons, ih (fun y hy => h y (List.mem_cons_of_mem _ hy)), h x List.mem_cons_self]
  exact this _ (fun x hx => h x (by simpa using hx))
theorem deep_congr {op : Op} {ob ob' : Obs κ} : ∀ (L : List Nat), (∀ l ∈ L, ob' l = ob l) → L.flatMap (deepO op ob') = L.flatMap (deepO op ob)
  | [], _ => rfl
  | l :: r, h => by
    rw [List.flatMap_cons, List.flatMap_cons, deep_congr r (fun k hk => h k (List.mem_cons_of_mem _ hk))]
    unfold deepO deepL
    rw [h l List.mem_cons_self]
theorem reads_self {o : Oper} {ev : Operand → D κ} {ob : Obs κ} (hb : purB o.op = false) {x : Operand} (hx : x ∈ o.op.operands) {l k : Nat} (hl : l ∈ (ev x).labs2) (hk : k ∈ deepO o.op ob l) : k ∈ readsB o ev ob := by
  unfold readsB
  rw [hb]
  exact List.mem_flatMap.2 ⟨x, by simpa using hx, List.mem_flatMap.2 ⟨l, hl, hk⟩⟩
theorem reads_ob {o : Oper} {ev : Operand → D κ} {ob ob' : Obs κ} (h : ∀ l ∈ readsB o ev ob, ob' l = ob l) : readsB o ev ob' = readsB o ev ob := by
  cases hb : purB o.op
  case true => unfold readsB; rw [hb]
  have key : ∀ (l : List Operand), (∀ x ∈ l, ∀ k ∈ (ev x).labs2, ob' k = ob k) → (l.flatMap fun x => (ev x).labs2.flatMap (deepO o.op ob')) = l.flatMap fun x => (ev x).labs2.flatMap (deepO o.op ob) := by
    intro l
    induction l with
    | nil => intro _; rfl
    | cons x r ih => intro h; rw [List.flatMap_cons, List.flatMap_cons, ih (fun y hy => h y (List.mem_cons_of_mem _ hy)), deep_congr _ (h x List.mem_cons_self)]
  have := key o.op.operands.toList (fun x hx k hk => h k (reads_self hb (by simpa using hx) hk deepO_self))
  unfold readsB
  rw [hb]
  exact this
theorem EffG.congr {all : List Oper} {o : Oper} {σ σ' : St κ} {rw : RW} {us : Ups κ} {d : D κ} (hf : ∀ k, seesB all o k = true → σ'.fr k = σ.fr k) (hg : σ'.gv = σ.gv) (ho : ∀ l, l ∈ rw.1 ∨ l ∈ rw.2 → σ'.ob l = σ.ob l) (h : EffG X all o σ rw us d) : EffG X all o σ' rw us d := by
  have hw := wantE_congr (all := all) hf
  rcases h with ⟨h1, h2, rfl⟩ | ⟨h1, h2, h3, h4⟩
  · have he := sees_ev (all := all) hf hg
    have hr := reads_ob (o := o) (ev := σ.ev) (ob := σ.ob) (ob' := σ'.ob) (fun l hl => ho l (.inl hl))
    refine .inl ⟨hw.trans h1, ?_, ?_⟩
    · cases hb : purB o.op
      · cases hl9 : ldB o.op
        case true =>
          refine opE_ld hl9 (fun x hx l hl => ?_) (opE_ev he h2)
          rw [← he x hx] at hl
          exact ho l (.inl (reads_self hb hx hl deepO_self))
        refine opE_ob (ob := σ.ob) (fun x hx l hl k hk => ?_) (fun p hp => ho p.1 (.inr (List.mem_map.2 ⟨p, hp, rfl⟩))) (opE_ev he h2)
        rw [← he x hx] at hl
        exact ho k (.inl (reads_self hb hx hl (by unfold deepO; rw [hl9]; exact hk)))
      · exact opE_pur hb (opE_ev he h2)
    · rw [← reads_ev he, hr]
  · exact .inr ⟨hw.trans h1, h2, h3, h4⟩

theorem ups_in : ∀ (us : Ups κ) (σ τ : St κ) (l : Nat), l ∈ us.map (·.1) → (σ.ups us).ob l = (τ.ups us).ob l
  | [], _, _, _, h => by simp at h
  | p :: r, σ, τ, l, h => by
    show ((σ.setOb p.1 p.2.1 p.2.2).ups r).ob l = ((τ.setOb p.1 p.2.1 p.2.2).ups r).ob l
    by_cases hr : l ∈ r.map (·.1)
    · exact ups_in r _ _ l hr
    · have hn : ∀ q ∈ r, q.1 ≠ l := fun q hq e => hr (List.mem_map.2 ⟨q, hq, e⟩)
      rw [ups_none r _ l hn, ups_none r _ l hn]
      have e : l = p.1 := by
        simp only [List.map_cons, List.mem_cons] at h
        exact h.resolve_right hr
      subst e
      simp only [St.setOb, beq_yes, cond_true]
theorem ups_out {us : Ups κ} {σ : St κ} {l : Nat} (h : l ∉ us.map (·.1)) : (σ.ups us).ob l = σ.ob l := ups_none us σ l fun p hp e => h (List.mem_map.2 ⟨p, hp, e⟩)
theorem put_ob {σ : St κ} {dst : Option Nat} {d : D κ} : (σ.put dst d).ob = σ.ob := by cases dst <;> rfl
theorem put_gv {σ : St κ} {dst : Option Nat} {d : D κ} : (σ.put dst d).gv = σ.gv := by cases dst <;> rfl
theorem put_fr {σ : St κ} {dst : Option Nat} {d : D κ} {k : Nat} (h : dst ≠ some k) : (σ.put dst d).fr k = σ.fr k := by
  cases dst with
  | none => rfl
  | some i => simp only [St.put, beq_no (fun e => h (by rw [e]) : ¬ k = i), cond_false]

def disjB (a b : List Nat) : Bool := a.all fun l => !elemB b l
theorem disjB_mem {a b : List Nat} (h : disjB a b = true) {l : Nat} (ha : l ∈ a) : l ∉ b := fun hb => by
  have := List.all_eq_true.1 h l ha
  rw [elemB_mem.2 hb] at this
  cases this
def aptB (ops : List Oper) (x y : Oper) (lx ly : RW) : Bool :=
  (match x.dst with | some k => !seesB ops y k && (match y.dst with | some l => !Nat.beq k l | none => true) | none => true) &&
  (match y.dst with | some k => !seesB ops x k | none => true) && disjB lx.2 ly.1 && disjB lx.2 ly.2 && disjB ly.2 lx.1
structure Apart (all : List Oper) (x y : Oper) (lx ly : RW) : Prop where
  xy : ∀ k, x.dst = some k → seesB all y k = false
  yx : ∀ k, y.dst = some k → seesB all x k = false
  d : ∀ k, x.dst = some k → y.dst ≠ some k
  a : ∀ l, l ∈ lx.2 → l ∉ ly.1
  b : ∀ l, l ∈ lx.2 → l ∉ ly.2
  c : ∀ l, l ∈ ly.2 → l ∉ lx.1
theorem aptB_spec {ops : List Oper} {x y : Oper} {lx ly : RW} (h : aptB ops x y lx ly = true) : Apart ops x y lx ly := by
  unfold aptB at h
  simp only [Bool.and_eq_true] at h
  obtain ⟨⟨⟨⟨h1, h2⟩, h3⟩, h4⟩, h5⟩ := h
  refine ⟨fun k hk => ?_, fun k hk => ?_, fun k hk e => ?_, fun l => disjB_mem h3, fun l => disjB_mem h4, fun l => disjB_mem h5⟩
  · rw [hk] at h1
    simp only [Bool.and_eq_true, Bool.not_eq_true'] at h1
    exact h1.1
  · rw [hk] at h2
    simpa using h2
  · rw [hk, e] at h1
    simp [beq_yes] at h1
theorem sees_ne {all : List Oper} {o : Oper} {dst : Option Nat} (h : ∀ k, dst = some k → seesB all o k = false) : ∀ k, seesB all o k = true → dst ≠ some k := fun k hk e => by rw [h k e] at hk; cases hk
theorem swap {all : List Oper} {oj oi : Oper} {bj bi : RW} {σ σ1 σ2 : St κ} (ha : Apart all oj oi bj bi) (h1 : StepG X all oj bj σ σ1) (h2 : StepG X all oi bi σ1 σ2) : ∃ σ', StepG X all oi bi σ σ' ∧ StepG X all oj bj σ' σ2 := by
  obtain ⟨us, d, h1, rfl⟩ := h1
  obtain ⟨us', d', h2, rfl⟩ := h2
  have w1 := h1.wr
  have w2 := h2.wr
  have fr1 : ∀ k, oj.dst ≠ some k → ((σ.ups us).put oj.dst d).fr k = σ.fr k := fun k hk => by rw [put_fr hk, (ups_frgv us σ).1]
  have gv1 : ((σ.ups us).put oj.dst d).gv = σ.gv := by rw [put_gv, (ups_frgv us σ).2]
  have ob1 : ∀ l, l ∉ bj.2 → ((σ.ups us).put oj.dst d).ob l = σ.ob l := fun l hl => by rw [put_ob]; exact ups_out (w1 ▸ hl)
  have g2 : EffG X all oi σ bi us' d' := h2.congr (fun k hk => (fr1 k (sees_ne ha.xy k hk)).symm) gv1.symm (fun l hl => (ob1 l (fun hm => hl.elim (ha.a l hm) (ha.b l hm))).symm)
  have fr2 : ∀ k, oi.dst ≠ some k → ((σ.ups us').put oi.dst d').fr k = σ.fr k := fun k hk => by rw [put_fr hk, (ups_frgv us' σ).1]
  have gv2 : ((σ.ups us').put oi.dst d').gv = σ.gv := by rw [put_gv, (ups_frgv us' σ).2]
  have ob2 : ∀ l, l ∉ bi.2 → ((σ.ups us').put oi.dst d').ob l = σ.ob l := fun l hl => by rw [put_ob]; exact ups_out (w2 ▸ hl)
  have g1 : EffG X all oj ((σ.ups us').put oi.dst d') bj us d := h1.congr (fun k hk => fr2 k (sees_ne ha.yx k hk)) gv2 (fun l hl => ob2 l (fun hm => hl.elim (ha.c l hm) (fun h => ha.b l h hm)))
  refine ⟨_, ⟨us', d', g2, rfl⟩, us, d, g1, St.ext' (fun k => ?_) (fun l => ?_) ?_⟩
  · by_cases e1 : oi.dst = some k
    · have e2 : oj.dst ≠ some k := fun e => ha.d k e e1
      have e3 : ∀ (τ τ' : St κ) (x : D κ), (τ.put oi.dst x).fr k = (τ'.put oi.dst x).fr k := fun τ τ' x => by rw [e1]; simp only [St.put, beq_yes, cond_true]
      rw [put_fr e2, (ups_frgv us _).1]
      exact e3 _ _ _
    · rw [put_fr e1, (ups_frgv us' _).1]
      by_cases e2 : oj.dst = some k
      · have e3 : ∀ (τ τ' : St κ) (x : D κ), (τ.put oj.dst x).fr k = (τ'.put oj.dst x).fr k := fun τ τ' x => by rw [e2]; simp only [St.put, beq_yes, cond_true]
        exact e3 _ _ _
      · rw [put_fr e2, put_fr e2, (ups_frgv us _).1, (ups_frgv us _).1, put_fr e1, (ups_frgv us' _).1]
  · rw [put_ob, put_ob]
    by_cases m1 : l ∈ us.map (·.1)
    · have m2 : l ∉ us'.map (·.1) := fun h => ha.b l (w1 ▸ m1) (w2 ▸ h)
      rw [ups_out m2, put_ob]
      exact ups_in us _ _ l m1
    · rw [ups_out m1, put_ob]
      by_cases m2 : l ∈ us'.map (·.1)
      · exact ups_in us' _ _ l m2
      · rw [ups_out m2, ups_out m2, put_ob, ups_out m1]
  · rw [put_gv, put_gv, (ups_frgv _ _).2, (ups_frgv _ _).2, put_gv, put_gv, (ups_frgv _ _).2, (ups_frgv _ _).2]

def insB (x y : Oper) (lx ly : RW) : Bool :=
  match x.op, y.op, x.dst, y.dst with
  | .insert _ _ (.const (.string a)) _, .insert _ _ (.const (.string b)) _, none, none =>
    (match lx.1, ly.1, lx.2.reverse, ly.2.reverse with
    | r :: rx, s :: ry, l :: l' :: wx, k :: k' :: wy => Nat.beq r l && Nat.beq s l && Nat.beq l' l && Nat.beq k l && Nat.beq k' l && !elemB rx l && !elemB ry l && !elemB wx l && !elemB wy l && disjB wx ry && disjB wx wy && disjB wy rx && !(decide (a = b))
    | _, _, _, _ => false)
  | _, _, _, _ => false
theorem key_str {kf : KF} {s : ByteArray} {J : Value → Prop} (h : keyW (κ := κ) kf (.v (.string s)) J) : J (.string s) ∧ ∀ J' : Value → Prop, J' (.string s) → keyW (κ := κ) kf (.v (.string s)) J' := by
  unfold keyW at h ⊢
  split at h
  · exact ⟨h, fun J' h' => h'⟩
  · exact h.elim
  · exact h.elim
structure InsAt (X : Cx κ) (ob : Obs κ) (t l : Nat) (a : ByteArray) (dv : D κ) (us1 : Ups κ) (dz : D κ) (es : List (Value × D κ)) : Prop where
  here : ob l = some (.map t es, true)
  fz : ∀ J' : Ups κ → List (D κ) → Prop, J' us1 [dz] → frzAW X ob [dv] J'
  out : (us1.all fun p => !(Nat.beq p.1 l)) = true
  hc : (Nat.beq t t && dz.good && dz.frz) = true
  ky : ∃ kf k e, (X.T t).k = .map kf k e ∧ ∀ J' : Value → Prop, J' (.string a) → keyW (κ := κ) kf (.v (.string a)) J'
def tailU (us1 : Ups κ) (t l : Nat) (c : List (Value × D κ)) : Ups κ := us1 ++ [(l, .map t c, true), (l, .map t c, true)]
theorem insAt_of {ob : Obs κ} {t : TypeId} {m dv : D κ} {a : ByteArray} {us : Ups κ} {l : Nat} {wx : List Nat} (h : insW X ob t m (.v (.string a)) dv (fun us' => us' = us)) (hr : (us.map (·.1)).reverse = l :: l :: wx) : ∃ us1 dz es, InsAt X ob t l a dv us1 dz es ∧ m = .mp l ∧ us = tailU us1 t l (can (mset es (.string a) dz)) ∧ us1.map (·.1) = wx.reverse := by
  unfold insW at h
  obtain ⟨us1, ds, h1, h2⟩ := frzA_pick h
  split at h1
  · rename_i dz
    obtain ⟨hc, h1⟩ := condW_no h1
    unfold msetW at h1
    split at h1
    · rename_i kf k e ht
      split at h1
      · rename_i l0 _
        have hlo : (us1.all fun p => !(Nat.beq p.1 l0)) = true := hc
        split at h1
        · rename_i t' es hob
          exfalso
          obtain ⟨_, h1⟩ := condW_no h1
          obtain ⟨h1, _⟩ := key_str h1
          rw [← h1, List.map_append, List.reverse_append] at hr
          injection hr with e1 e2
          subst e1
          cases hu : us1.reverse with
          | nil =>
            rw [List.reverse_eq_nil_iff.1 hu] at e2
            cases e2
          | cons p r =>
            have hu2 : us1 = r.reverse ++ [p] := by rw [← List.reverse_reverse us1, hu, List.reverse_cons]
            rw [hu2, List.map_append, List.reverse_append] at e2
            injection e2 with e3 e4
            have := List.all_eq_true.1 hlo p (by rw [hu2]; exact List.mem_append_right _ List.mem_cons_self)
            rw [show p.1 = l0 from e3, beq_yes] at this
            cases this
        · rename_i t' es hob
          obtain ⟨hcc, h1⟩ := condW_no h1
          obtain ⟨h1, hk2⟩ := key_str h1
          have htt : t' = t := Nat.eq_of_beq_eq_true (by simp only [Bool.and_eq_true] at hcc; exact hcc.1.1)
          subst htt
          rw [← h1, List.map_append, List.reverse_append] at hr
          injection hr with e1 e2
          subst e1
          injection e2 with e3 e4
          refine ⟨us1, dz, es, ⟨hob, h2, hlo, hcc, kf, k, e, ht, hk2⟩, rfl, h1.symm, ?_⟩
          rw [← e4]
          simp
        · exact h1.elim
      · exact h1.elim
    · exact h1.elim
  · exact h1.elim
theorem InsAt.ins {ob : Obs κ} {t l : Nat} {a : ByteArray} {dv dz : D κ} {us1 : Ups κ} {es : List (Value × D κ)} (h : InsAt X ob t l a dv us1 dz es) : insW X ob t (.mp l) (.v (.string a)) dv (fun us' => us' = tailU us1 t l (can (mset es (.string a) dz))) := by
  obtain ⟨kf, k, e, ht, hk⟩ := h.ky
  unfold insW
  refine h.fz _ ?_
  show condW (labOut (.mp l) us1) _ False
  refine condW_yes h.out ?_
  unfold msetW
  rw [ht]
  simp only [h.here]
  exact condW_yes h.hc (hk _ rfl)
theorem ob_tail {σ : St κ} {us1 : Ups κ} {t l : Nat} {c : List (Value × D κ)} : (σ.ups (tailU us1 t l c)).ob l = some (.map t c, true) := by
  unfold tailU
  rw [ups_app]
  simp only [St.ups, St.setOb, beq_yes, cond_true]
theorem ob_tail_ne {σ : St κ} {us1 : Ups κ} {t l k : Nat} {c : List (Value × D κ)} (h : k ≠ l) : (σ.ups (tailU us1 t l c)).ob k = (σ.ups us1).ob k := by
  unfold tailU
  rw [ups_app]
  simp only [St.ups, St.setOb, beq_no h, cond_false]
theorem ev_const {σ : St κ} {v : Value} : σ.ev (.const v) = .v v ∨ σ.ev (.const v) = .opq := by
  simp only [St.ev]
  cases okB v
  · exact .inr rfl
  · exact .inl rfl
theorem key_opq {kf : KF} {J : Value → Prop} (h : keyW (κ := κ) kf .opq J) : False := by
  unfold keyW at h
  cases kf <;> exact h
theorem reads_ins {o : Oper} {t : TypeId} {m k x : Operand} {ev : Operand → D κ} {ob : Obs κ} {l : Nat} {es : List (Value × D κ)} {z : Bool} {v : Value} (ho : o.op = .insert t m k x) (hm : ev m = .mp l) (hk : ev k = .v v) (hl : ob l = some (.map t es, z)) : readsB o ev ob = l :: (ev x).labs2.flatMap (deepO (.insert t m k x) ob) := by
  unfold readsB
  rw [ho]
  simp only [purB, Op.operands, List.flatMap_cons, List.flatMap_nil, List.append_nil, hm, hk, D.labs2, D.labs0, deepO, ldB, deepL, hl]
  rfl
theorem insEff {all : List Oper} {o : Oper} {σ : St κ} {rw : RW} {us : Ups κ} {d : D κ} {t : TypeId} {m x : Operand} {a : ByteArray} {l : Nat} {wx : List Nat} (ho : o.op = .insert t m (.const (.string a)) x) (h : EffG X all o σ rw us d) (hr : rw.2.reverse = l :: l :: wx) :
    wantE all o σ = some true ∧ d = .und ∧ σ.ev (.const (.string a)) = .v (.string a) ∧ σ.ev m = .mp l ∧ rw.1 = readsB o σ.ev σ.ob ∧ ∃ us1 dz es, InsAt X σ.ob t l a (σ.ev x) us1 dz es ∧ us = tailU us1 t l (can (mset es (.string a) dz)) ∧ us1.map (·.1) = wx.reverse := by
  have hw := h.wr
  rcases h with ⟨h1, h2, h3⟩ | ⟨_, _, _, h3⟩
  · obtain ⟨dst, op, ty, pos, after, guard⟩ := o
    simp only at ho
    subst ho
    simp only [opE, fD_eq] at h2
    have hd : d = .und := by
      obtain ⟨us', ⟨_, e⟩, _⟩ := ins_pick h2
      exact e.symm
    have h2' := insW_mono (J' := fun us' => us' = us) (fun us' h => h.1) h2
    rcases ev_const (σ := σ) (v := .string a) with hc | hc
    · rw [hc] at h2'
      rw [hw] at hr
      obtain ⟨us1, dz, es, g1, g2, g3, g4⟩ := insAt_of h2' hr
      exact ⟨h1, hd, hc, g2, by rw [h3], us1, dz, es, g1, g3, g4⟩
    · exfalso
      rw [hc] at h2'
      unfold insW at h2'
      obtain ⟨us1, ds, g1, _⟩ := frzA_pick h2'
      split at g1
      · obtain ⟨_, g1⟩ := condW_no g1
        unfold msetW at g1
        split at g1
        · split at g1
          · split at g1
            · exact key_opq (condW_no g1).2
            · exact key_opq (condW_no g1).2
            · exact g1
          · exact g1
        · exact g1
      · exact g1
  · rw [h3] at hr
    cases hr
theorem InsAt.eff {all : List Oper} {o : Oper} {σ : St κ} {rw : RW} {t : TypeId} {m x : Operand} {a : ByteArray} {l : Nat} {us1 : Ups κ} {dz : D κ} {es : List (Value × D κ)} (ho : o.op = .insert t m (.const (.string a)) x) (hw : wantE all o σ = some true) (hk : σ.ev (.const (.string a)) = .v (.string a)) (hm : σ.ev m = .mp l) (h : InsAt X σ.ob t l a (σ.ev x) us1 dz es) (hr1 : rw.1 = readsB o σ.ev σ.ob) (hr2 : rw.2 = us1.map (·.1) ++ [l, l]) :
    EffG X all o σ rw (tailU us1 t l (can (mset es (.string a) dz))) .und := by
  refine .inl ⟨hw, ?_, ?_⟩
  · have h1 := h.ins
    obtain ⟨dst, op, ty, pos, after, guard⟩ := o
    simp only at ho
    subst ho
    simp only [opE, fD_eq]
    rw [hm, hk]
    exact insW_mono (fun us' e => ⟨e, trivial⟩) h1
  · obtain ⟨r1, r2⟩ := rw
    simp only at hr1 hr2
    rw [hr1, hr2]
    unfold tailU
    rw [List.map_append]
    rfl
theorem InsAt.move {ob ob' : Obs κ} {t l : Nat} {a : ByteArray} {dv dz : D κ} {us1 : Ups κ} {es es' : List (Value × D κ)} (h : InsAt X ob t l a dv us1 dz es) (hl : ob' l = some (.map t es', true)) (ha : ∀ q ∈ dv.labs2.flatMap (deepL ob), ob' q = ob q) : InsAt X ob' t l a dv us1 dz es' :=
  ⟨hl, fun J' hj => frzA_congr (fun q hq k hk => ha k (by
    simp only [List.flatMap_cons, List.flatMap_nil, List.append_nil] at hq
    exact List.mem_flatMap.2 ⟨q, labs12 hq, hk⟩)) (h.fz J' hj), h.out, h.hc, h.ky⟩
theorem swapI {all : List Oper} {oj oi : Oper} {bj bi : RW} {σ σ1 σ2 : St κ} (ha : insB oj oi bj bi = true) (h1 : StepG X all oj bj σ σ1) (h2 : StepG X all oi bi σ1 σ2) : ∃ σ', StepG X all oi bi σ σ' ∧ StepG X all oj bj σ' σ2 := by
  unfold insB at ha
  split at ha
  · rename_i tj mj a xj ti mi b xi hoj hoi hdj hdi
    split at ha
    · rename_i r rx s ry l l' wx k k' wy e1 e2 e3 e4
      simp only [Bool.and_eq_true, Bool.not_eq_true', decide_eq_false_iff_not] at ha
      obtain ⟨⟨⟨⟨⟨⟨⟨⟨⟨⟨⟨⟨q1, q2⟩, q3⟩, q4⟩, q5⟩, n1⟩, n2⟩, n3⟩, n4⟩, d1⟩, d2⟩, d3⟩, hab⟩ := ha
      rw [Nat.eq_of_beq_eq_true q1] at e1
      rw [Nat.eq_of_beq_eq_true q2] at e2
      rw [Nat.eq_of_beq_eq_true q3] at e3
      rw [Nat.eq_of_beq_eq_true q4, Nat.eq_of_beq_eq_true q5] at e4
      obtain ⟨us, d, h1, rfl⟩ := h1
      obtain ⟨us', d', h2, rfl⟩ := h2
      obtain ⟨w1, rfl, c1, m1, r1, u1, z1, es, I1, rfl, f1⟩ := insEff hoj h1 e3
      rw [hdj] at h2 ⊢
      rw [hdi]
      simp only [St.put] at h2 ⊢
      obtain ⟨w2, rfl, c2, m2, r2, u2, z2, es2, I2, rfl, f2⟩ := insEff hoi h2 e4
      have evs : ∀ (us : Ups κ) (τ : St κ) (x : Operand), (τ.ups us).ev x = τ.ev x := fun us τ x => ups_ev us x τ
      have evf : ∀ (us : Ups κ) (τ : St κ), (τ.ups us).ev = τ.ev := fun us τ => funext (evs us τ)
      rw [evs] at c2 m2 I2
      rw [evf] at r2
      have hob2 := I2.here
      rw [ob_tail] at hob2
      injection hob2 with hob2
      injection hob2 with hob2 _
      injection hob2 with et ees
      subst et ees
      have k1 := (e1.symm.trans r1).trans (reads_ins hoj m1 c1 I1.here)
      have k2 := (e2.symm.trans r2).trans (reads_ins hoi m2 c2 I2.here)
      injection k1 with _ k1
      injection k2 with _ k2
      have l1 : ∀ q, q ∈ u1.map (·.1) → q ∈ wx := fun q hq => by rw [f1] at hq; simpa using hq
      have l2 : ∀ q, q ∈ u2.map (·.1) → q ∈ wy := fun q hq => by rw [f2] at hq; simpa using hq
      have g1 : ∀ q ∈ ry, σ.ob q = (σ.ups (tailU u1 tj l (can (mset es (.string a) z1)))).ob q := fun q hq => by
        have hne : q ≠ l := fun e => elem_no n2 (e ▸ hq)
        rw [ob_tail_ne hne, ups_out (fun hm => disjB_mem d1 (l1 q hm) hq)]
      have I2' := I2.move (ob' := σ.ob) I1.here (fun q hq => g1 q (by rw [k2]; exact hq))
      have b2 : bi.2 = u2.map (·.1) ++ [l, l] := by
        rw [f2, ← List.reverse_reverse bi.2, e4]
        simp
      have b1 : bj.2 = u1.map (·.1) ++ [l, l] := by
        rw [f1, ← List.reverse_reverse bj.2, e3]
        simp
      have w2' : wantE all oi σ = some true := (wantE_congr (fun k _ => by rw [(ups_frgv _ σ).1])).trans w2
      have s2 : bi.1 = readsB oi σ.ev σ.ob := by
        rw [reads_ins hoi m2 c2 I1.here, e2, k2]
        congr 1
        exact (deep_congr _ (fun q hq => g1 q (by rw [k2]; exact List.mem_flatMap.2 ⟨q, hq, deepO_self⟩))).symm
      have E2 := InsAt.eff (rw := bi) hoi w2' c2 m2 I2' s2 b2
      have g2 : ∀ q ∈ rx, (σ.ups (tailU u2 tj l (can (mset es (.string b) z2)))).ob q = σ.ob q := fun q hq => by
        have hne : q ≠ l := fun e => elem_no n1 (e ▸ hq)
        rw [ob_tail_ne hne, ups_out (fun hm => disjB_mem d3 (l2 q hm) hq)]
      have I1' := I1.move (ob' := (σ.ups (tailU u2 tj l (can (mset es (.string b) z2)))).ob) ob_tail (fun q hq => g2 q (by rw [k1]; exact hq))
      rw [← evs (tailU u2 tj l (can (mset es (.string b) z2))) σ xj] at I1'
      have w1' : wantE all oj (σ.ups (tailU u2 tj l (can (mset es (.string b) z2)))) = some true := (wantE_congr (fun k _ => by rw [(ups_frgv _ σ).1])).trans w1
      have s1 : bj.1 = readsB oj (σ.ups (tailU u2 tj l (can (mset es (.string b) z2)))).ev (σ.ups (tailU u2 tj l (can (mset es (.string b) z2)))).ob := by
        rw [evf, reads_ins hoj m1 c1 ob_tail, e1, k1]
        congr 1
        exact (deep_congr _ (fun q hq => g2 q (by rw [k1]; exact List.mem_flatMap.2 ⟨q, hq, deepO_self⟩))).symm
      have E1 := InsAt.eff (rw := bj) hoj w1' ((evs _ _ _).trans c1) ((evs _ _ _).trans m1) I1' s1 b1
      refine ⟨_, ⟨_, _, E2, by rw [hdi]; rfl⟩, _, _, E1, ?_⟩
      rw [hdj]
      simp only [St.put]
      refine St.ext' (fun q => ?_) (fun q => ?_) ?_
      · rw [(ups_frgv _ _).1, (ups_frgv _ _).1, (ups_frgv _ _).1, (ups_frgv _ _).1]
      · by_cases hq : q = l
        · subst hq
          rw [ob_tail, ob_tail]
          have p1 : (mset (can (mset es (.string a) z1)) (.string b) z2).Perm (mset (can (mset es (.string b) z2)) (.string a) z1) :=
            (mset_perm (can_perm _) _ _).trans ((mset_swap (fun e => hab (by injection e))).trans (mset_perm (can_perm _) _ _).symm)
          rw [can_congr p1]
        · rw [ob_tail_ne hq, ob_tail_ne hq]
          by_cases h2 : q ∈ u2.map (·.1)
          · rw [ups_out (us := u1) (fun h1 => disjB_mem d2 (l1 q h1) (l2 q h2)), ob_tail_ne hq]
            exact ups_in u2 _ _ q h2
          · rw [ups_out h2, ob_tail_ne hq]
            by_cases h1 : q ∈ u1.map (·.1)
            · exact ups_in u1 _ _ q h1
            · rw [ups_out h1, ups_out h1, ob_tail_ne hq, ups_out h2]
      · rw [(ups_frgv _ _).2, (ups_frgv _ _).2, (ups_frgv _ _).2, (ups_frgv _ _).2]
    · cases ha
  · cases ha

inductive Runs (X : Cx κ) (all : List Oper) : List (Oper × RW) → St κ → St κ → Prop
  | nil {σ : St κ} : Runs X all [] σ σ
  | cons {o : Oper} {b : RW} {l : List (Oper × RW)} {σ σ1 σ2 : St κ} (h : StepG X all o b σ σ1) (hr : Runs X all l σ1 σ2) : Runs X all ((o, b) :: l) σ σ2

theorem Runs.front {all : List Oper} {o : Oper} {b : RW} {post : List (Oper × RW)} : ∀ {pre : List (Oper × RW)} {σ σ2 : St κ}, (∀ x ∈ pre, Apart all x.1 o x.2 b ∨ insB x.1 o x.2 b = true) → Runs X all (pre ++ (o, b) :: post) σ σ2 → ∃ σ1, StepG X all o b σ σ1 ∧ Runs X all (pre ++ post) σ1 σ2
  | [], σ, σ2, _, h => by
    cases h with
    | cons h hr => exact ⟨_, h, hr⟩
  | x :: pre, σ, σ2, hx, h => by
    cases h with
    | cons h hr =>
      obtain ⟨σ1, h1, h2⟩ := Runs.front (fun y hy => hx y (List.mem_cons_of_mem _ hy)) hr
      obtain ⟨σ', h3, h4⟩ := (hx _ List.mem_cons_self).elim (fun hx => swap hx h h1) (fun hx => swapI hx h h1)
      exact ⟨σ', h3, .cons h4 h2⟩

/-! ## What is asked in the text's order -/

def fNs : List Nat → (List Nat → Prop) → Prop
  | [], K => K []
  | a :: r, K => fN a fun a => fNs r fun r => K (a :: r)
theorem fNs_eq : ∀ (l : List Nat) (K : List Nat → Prop), fNs l K = K l
  | [], _ => rfl
  | a :: r, K => by rw [fNs, fN_eq, fNs_eq r]
def behind (ops : List Oper) : Nat → Nat → Nat → Bool
  | 0, _, _ => false
  | n + 1, i, j => match ops[i]? with
    | some o => o.after.toList.any fun e => Region.binds .any e && (Nat.beq e.on j || behind ops n e.on j)
    | none => false
def drawOk (ops : List Oper) (lb : List RW) : Bool :=
  (List.range ops.length).all fun i => (match ops[i]? with | some o => o.after.toList.all fun e => !Region.binds .any e || Nat.blt e.on i | none => true) && (List.range i).all fun j => behind ops ops.length i j || (match ops[j]?, ops[i]? with | some x, some y => aptB ops x y (lb.getD j ([], [])) (lb.getD i ([], [])) || insB x y (lb.getD j ([], [])) (lb.getD i ([], [])) | _, _ => true)
def opWd (X : Cx κ) (o : Oper) (σ : St κ) (K : RW → St κ → Prop) : Prop :=
  fNs (readsB o σ.ev σ.ob) fun rd => opE X o σ.ev σ.ob fun us d => fNs (us.map (·.1)) fun wr => K (rd, wr) ((σ.ups us).put o.dst d)
def opsWd (X : Cx κ) (all : List Oper) (K : St κ → Prop) : List Oper → List RW → St κ → Prop
  | [], lb, σ => drawOk all lb.reverse = true ∧ K σ
  | o :: r, lb, σ => match o.guard with
    | none => opWd X o σ fun b => opsWd X all K r (b :: lb)
    | some (j, want) => match (all[j]?).bind (·.dst) with
      | some t => match σ.fr t with
        | .v (.bool b) => condW b
            (match want with | true => opWd X o (σ.setB t true) fun b => opsWd X all K r (b :: lb) | false => opsWd X all K r (([], []) :: lb) ((σ.setB t true).put o.dst .und))
            (match want with | true => opsWd X all K r (([], []) :: lb) ((σ.setB t false).put o.dst .und) | false => opWd X o (σ.setB t false) fun b => opsWd X all K r (b :: lb))
        | .und => opsWd X all K r (([], []) :: lb) (σ.put o.dst .und)
        | _ => False
      | none => False

theorem step_sound (hG : X.G w0) (hMG : ∀ b o, X.MG b o → M0 b o) (hS : ∀ b, S0 b → X.nG ≤ b) (h : Sim X M0 S0 w0 N M β σ a w) {o : Oper} {Q : Exit → Act → World → Prop} {us : Ups κ} {d : D κ} (hd : ∀ k, o.dst = some k → k < N) (hst : noDst o.op = true → o.dst = none) (hs : opE X o σ.ev σ.ob (fun us' d' => us' = us ∧ d' = d)) :
    o.wp X.P a w (Post X M0 S0 w0 N (· = (σ.ups us).put o.dst d)) Q := by
  refine op_sound hG hMG hS h o hd ?_ hst
  exact opE_mono (fun us' d' ⟨h1, h2⟩ => by rw [h1, h2]) hs

theorem want_spec (h : Sim X M0 S0 w0 N M β σ a w) {all : List Oper} {o : Oper} {b : Bool} (hw : wantE all o σ = some b) : Region.wanted o (yielded all.toArray a.tmps) = b := by
  unfold wantE at hw
  unfold Region.wanted
  split at hw
  · rename_i hg
    rw [hg]
    simpa using hw
  · rename_i j want hg
    rw [hg]
    simp only
    split at hw
    · rename_i t ht
      split at hw
      · rename_i c hc
        rw [yielded_bool h ht hc]
        cases hw
        rfl
      · rename_i hc
        rw [yielded_und h ht hc]
        cases hw
        rfl
      · cases hw
    · cases hw

theorem stepG_wp (hG : X.G w0) (hMG : ∀ b o, X.MG b o → M0 b o) (hS : ∀ b, S0 b → X.nG ≤ b) (h : Sim X M0 S0 w0 N M β σ a w) {all : List Oper} {o : Oper} {Q : Exit → Act → World → Prop} {σ' : St κ} {i : Nat} {b : RW} (hi : all[i]? = some o) (hok : opOk N o = true) (hs : StepG X all o b σ σ') {Kx : Act → World → Prop}
    (hK : ∀ M β a w, Sim X M0 S0 w0 N M β σ' a w → Kx a w) : wpOp X.P all.toArray Q i Kx a w := by
  obtain ⟨hd, hst⟩ := opOk_dst hok
  unfold wpOp
  simp only [List.getElem?_toArray, hi]
  obtain ⟨us, d, hs, rfl⟩ := hs
  rcases hs with ⟨hw, hs, _⟩ | ⟨hw, rfl, rfl, _⟩
  · rw [if_pos (want_spec h hw)]
    exact Or.inl (Oper.wp_mono (fun a' w' ⟨M', β', σ2, h1, h2⟩ => hK M' β' a' w' (h2 ▸ h1)) (step_sound (Q := Q) hG hMG hS h hd hst hs))
  · rw [if_neg (by rw [want_spec h hw]; simp)]
    exact hK M β _ w (h.put hd .und)

theorem wp_ex {P : Program} {o : Oper} {K : Act → World → Prop} (h : o.wp P a w K (fun _ _ _ => False)) : ∃ a' w', K a' w' := by
  unfold Oper.wp at h
  generalize (execOp a.eval o).run P w = r at h
  cases r with
  | ok n w' =>
    cases n with
    | value v => exact ⟨_, _, h⟩
    | skip => exact ⟨_, _, h⟩
    | defer d => exact ⟨_, _, h⟩
    | enter f args =>
      obtain ⟨e, w'', fr, hR, _⟩ := h []
      cases e with
      | returned v => exact ⟨_, _, hR⟩
      | panicked c => exact hR.elim
      | outgrown => obtain ⟨_, _, hq⟩ := hR; exact hq.elim
    | row row args =>
      obtain ⟨v, w'', hR, _⟩ := h default []
      exact ⟨_, _, hR⟩
    | _ => exact h.elim
  | halt x w' =>
    cases x with
    | panic v => exact h.elim
    | _ => exact h.elim

theorem runs_of (hG : X.G w0) (hMG : ∀ b o, X.MG b o → M0 b o) (hS : ∀ b, S0 b → X.nG ≤ b) {all : List Oper} {K : St κ → Prop} : ∀ (l : List Oper) (lb : List RW), (∀ o ∈ l, opOk N o = true) → ∀ (M : Nat → Nat → Prop) (β : Bt) (σ : St κ) (a : Act) (w : World), Sim X M0 S0 w0 N M β σ a w → opsWd X all K l lb σ →
    ∃ σ' bs, Runs X all (l.zip bs) σ σ' ∧ bs.length = l.length ∧ drawOk all (lb.reverse ++ bs) = true ∧ K σ' ∧ Fr (l.flatMap opDst) σ σ'
  | [], lb, _, M, β, σ, a, w, h, hW => ⟨σ, [], .nil, rfl, by rw [List.append_nil]; exact hW.1, hW.2, Fr.refl _ _⟩
  | o :: r, lb, hok, M, β, σ, a, w, h, hW => by
    have ih := fun lb => runs_of hG hMG hS (all := all) (K := K) r lb (fun o ho => hok o (List.mem_cons_of_mem _ ho))
    obtain ⟨hd, hst⟩ := opOk_dst (hok o List.mem_cons_self)
    have hfr : ∀ {σ1 σ2 : St κ}, Fr (opDst o) σ σ1 → Fr (r.flatMap opDst) σ1 σ2 → Fr ((o :: r).flatMap opDst) σ σ2 := fun h1 h2 => by
      rw [List.flatMap_cons]
      exact (h1.sub fun k hk => List.mem_append_left _ hk).trans (h2.sub fun k hk => List.mem_append_right _ hk)
    have run : wantE all o σ = some true → opWd X o σ (fun b => opsWd X all K r (b :: lb)) → ∃ σ' bs, Runs X all ((o :: r).zip bs) σ σ' ∧ bs.length = (o :: r).length ∧ drawOk all (lb.reverse ++ bs) = true ∧ K σ' ∧ Fr ((o :: r).flatMap opDst) σ σ' := fun hw hW => by
      unfold opWd at hW
      simp only [fNs_eq] at hW
      obtain ⟨us, d, ⟨h2, hu⟩, h1⟩ := opE_pick h.ev (opE_upd hW)
      have h1 : opE X o σ.ev σ.ob (fun us' d' => us' = us ∧ d' = d) := h1 _ ⟨rfl, rfl⟩
      obtain ⟨a', w', M', β', σ2, hs, he⟩ := wp_ex (step_sound hG hMG hS h hd hst h1)
      subst he
      obtain ⟨σ', bs, h3, h4, h5, h6, h7⟩ := ih _ M' β' _ a' w' hs h2
      exact ⟨σ', _ :: bs, .cons ⟨us, d, .inl ⟨hw, h1, rfl⟩, rfl⟩ h3, by simp [h4], by rw [List.reverse_cons, List.append_assoc] at h5; exact h5, h6, hfr (fr_put o σ us d hu) h7⟩
    have skip : wantE all o σ = some false → opsWd X all K r (([], []) :: lb) (σ.put o.dst .und) → ∃ σ' bs, Runs X all ((o :: r).zip bs) σ σ' ∧ bs.length = (o :: r).length ∧ drawOk all (lb.reverse ++ bs) = true ∧ K σ' ∧ Fr ((o :: r).flatMap opDst) σ σ' := fun hw hW => by
      obtain ⟨σ', bs, h3, h4, h5, h6, h7⟩ := ih _ M β _ _ w (h.put hd .und) hW
      exact ⟨σ', ([], []) :: bs, .cons ⟨[], .und, .inr ⟨hw, rfl, rfl, rfl⟩, rfl⟩ h3, by simp [h4], by rw [List.reverse_cons, List.append_assoc] at h5; exact h5, h6, hfr (fr_put o σ [] .und upd0) h7⟩
    unfold opsWd at hW
    split at hW
    · rename_i hg
      exact run (by simp [wantE, hg]) hW
    · rename_i j want hg
      split at hW
      · rename_i t ht
        split at hW
        · rename_i b hb
          rcases condW_spec hW with ⟨rfl, hW⟩ | ⟨rfl, hW⟩
          · rw [setB_eq hb] at hW
            cases want
            · exact skip (by simp [wantE, hg, ht, hb]) hW
            · exact run (by simp [wantE, hg, ht, hb]) hW
          · rw [setB_eq hb] at hW
            cases want
            · exact run (by simp [wantE, hg, ht, hb]) hW
            · exact skip (by simp [wantE, hg, ht, hb]) hW
        · rename_i hb
          exact skip (by simp [wantE, hg, ht, hb]) hW
        · exact hW.elim
      · exact hW.elim

def Closed (ops : List Oper) (listed : Array Bool) : Prop := ∀ i o, ops[i]? = some o → listed.getD i false = true → ∀ e ∈ o.after, Region.binds .any e = true → listed.getD e.on false = true
theorem behind_listed {ops : List Oper} {listed : Array Bool} (hc : Closed ops listed) : ∀ (n i j : Nat) (o : Oper), ops[i]? = some o → (∀ e ∈ o.after, Region.binds .any e = true → listed.getD e.on false = true) → behind ops n i j = true → listed.getD j false = true
  | 0, _, _, _, _, _, h => by cases h
  | n + 1, i, j, o, ho, hall, h => by
    unfold behind at h
    rw [ho] at h
    simp only [List.any_eq_true, Bool.and_eq_true, Bool.or_eq_true] at h
    obtain ⟨e, he, hb, h⟩ := h
    have he' : e ∈ o.after := by simpa using he
    have hl := hall e he' hb
    rcases h with h | h
    · rw [← Nat.eq_of_beq_eq_true h]; exact hl
    · cases ho2 : ops[e.on]? with
      | none =>
        cases n with
        | zero => cases h
        | succ n => unfold behind at h; rw [ho2] at h; cases h
      | some o2 => exact behind_listed hc n e.on j o2 ho2 (fun e2 he2 hb2 => hc e.on o2 ho2 hl e2 he2 hb2) h

def left (ops : List Oper) (listed : Array Bool) : List Nat := (List.range ops.length).filter fun i => !listed.getD i true


theorem range_sorted (n : Nat) : (List.range n).Pairwise (· < ·) := List.pairwise_lt_range
theorem left_mem {ops : List Oper} {listed : Array Bool} {i : Nat} : i ∈ left ops listed ↔ i < ops.length ∧ listed.getD i true = false := by
  simp [left]
theorem left_set {ops : List Oper} {listed : Array Bool} {i : Nat} {pre post : List Nat} (h : left ops listed = pre ++ i :: post) : left ops (listed.setIfInBounds i true) = pre ++ post := by
  have hs : (left ops listed).Pairwise (· < ·) := (range_sorted _).filter _
  have e1 : left ops (listed.setIfInBounds i true) = (left ops listed).filter (fun k => k != i) := by
    unfold left
    rw [List.filter_filter]
    congr 1
    funext k
    by_cases hk : k = i
    · subst hk
      by_cases hlt : k < listed.size
      · simp [Array.getD, hlt]
      · simp [Array.getD, hlt]
    · have : (listed.setIfInBounds i true).getD k true = listed.getD k true := getD_set_ne true (Ne.symm hk)
      simp [this, hk]
  rw [e1, h]
  rw [h, List.pairwise_append, List.pairwise_cons] at hs
  obtain ⟨_, ⟨h2, _⟩, h3⟩ := hs
  rw [List.filter_append, List.filter_cons]
  have ha : pre.filter (fun k => k != i) = pre := List.filter_eq_self.2 fun k hk => by
    have := h3 k hk i List.mem_cons_self
    simp; omega
  have hb : post.filter (fun k => k != i) = post := List.filter_eq_self.2 fun k hk => by
    have := h2 k hk
    simp; omega
  simp [ha, hb]

theorem drawOk_spec {ops : List Oper} {lb : List RW} (h : drawOk ops lb = true) {i : Nat} {o : Oper} (ho : ops[i]? = some o) : (∀ e ∈ o.after, Region.binds .any e = true → e.on < i) ∧ ∀ j x, j < i → ops[j]? = some x → behind ops ops.length i j = true ∨ aptB ops x o (lb.getD j ([], [])) (lb.getD i ([], [])) = true ∨ insB x o (lb.getD j ([], [])) (lb.getD i ([], [])) = true := by
  have hi : i < ops.length := (List.getElem?_eq_some_iff.1 ho).1
  have h1 := List.all_eq_true.1 h i (List.mem_range.2 hi)
  rw [Bool.and_eq_true] at h1
  refine ⟨fun e he hb => ?_, fun j x hj hx => ?_⟩
  · have h2 := h1.1
    rw [ho] at h2
    have h3 := List.all_eq_true.1 h2 e (by simpa using he)
    rw [hb] at h3
    exact Nat.le_of_ble_eq_true h3
  · have h2 := List.all_eq_true.1 h1.2 j (List.mem_range.2 hj)
    rw [hx, ho, Bool.or_eq_true] at h2
    exact h2.imp id fun h2 => by simpa only [Bool.or_eq_true] using h2

theorem any_sound (hG : X.G w0) (hMG : ∀ b o, X.MG b o → M0 b o) (hS : ∀ b, S0 b → X.nG ≤ b) {ops : List Oper} {Q : Exit → Act → World → Prop} {σf : St κ} (hok : ∀ o ∈ ops, opOk N o = true) {lb : List RW} (hdr : drawOk ops lb = true) (hQ : ∀ M β a w, Sim X M0 S0 w0 N M β σf a w → Q .normal a w) :
    ∀ (fuel : Nat) (listed : Array Bool) (M : Nat → Nat → Prop) (β : Bt) (σ : St κ) (a : Act) (w : World), listed.size = ops.length → Closed ops listed → (left ops listed).length ≤ fuel → Sim X M0 S0 w0 N M β σ a w →
      Runs X ops ((left ops listed).filterMap fun i => (ops[i]?).map fun o => (o, lb.getD i ([], []))) σ σf → wpAny X.P .any ops.toArray Q fuel listed a w := by
  intro fuel
  have none_left : ∀ (listed : Array Bool) (M : Nat → Nat → Prop) (β : Bt) (σ : St κ) (a : Act) (w : World), left ops listed = [] → Sim X M0 S0 w0 N M β σ a w → Runs X ops ((left ops listed).filterMap fun i => (ops[i]?).map fun o => (o, lb.getD i ([], []))) σ σf → Q .normal a w := by
    intro listed M β σ a w h0 hs hr
    rw [h0] at hr
    cases hr
    exact hQ M β a w hs
  have ready_left : ∀ (listed : Array Bool) i, i ∈ Region.ready .any ops.toArray listed → i ∈ left ops listed := by
    intro listed i hi
    obtain ⟨h1, o, ho, _⟩ := mem_ready.1 hi
    refine left_mem.2 ⟨?_, h1⟩
    simpa using (Array.getElem?_eq_some_iff.1 ho).1
  induction fuel with
  | zero =>
    intro listed M β σ a w hsz hcl hlen hs hr
    have h0 : left ops listed = [] := List.eq_nil_of_length_eq_zero (by omega)
    refine ⟨?_, none_left listed M β σ a w h0 hs hr⟩
    cases hrd : Region.ready .any ops.toArray listed with
    | nil => rfl
    | cons x xs =>
      have := ready_left listed x (by rw [hrd]; exact List.mem_cons_self)
      rw [h0] at this
      cases this
  | succ fuel ih =>
    intro listed M β σ a w hsz hcl hlen hs hr
    refine ⟨fun hrd => ?_, fun i hi => ?_⟩
    · -- the least that is left would be ready
      refine none_left listed M β σ a w ?_ hs hr
      cases hl : left ops listed with
      | nil => rfl
      | cons i post =>
        have him : i ∈ left ops listed := by rw [hl]; exact List.mem_cons_self
        obtain ⟨hlt, hun⟩ := left_mem.1 him
        have hsort : (left ops listed).Pairwise (· < ·) := (range_sorted _).filter _
        rw [hl, List.pairwise_cons] at hsort
        have : i ∈ Region.ready .any ops.toArray listed := by
          refine mem_ready.2 ⟨hun, ops[i], by simp [hlt], fun e he hb => ?_⟩
          have h1 := (drawOk_spec hdr (List.getElem?_eq_getElem hlt)).1 e he hb
          cases hg : listed.getD e.on false with
          | true => rfl
          | false =>
            have hlt2 : e.on < listed.size := by omega
            have : listed.getD e.on true = false := by simp [Array.getD, hlt2] at hg ⊢; exact hg
            have hm : e.on ∈ left ops listed := left_mem.2 ⟨by omega, this⟩
            rw [hl] at hm
            rcases List.mem_cons.1 hm with h2 | h2
            · omega
            · have := hsort.1 _ h2; omega
        rw [hrd] at this
        cases this
    · obtain ⟨hun, o, ho, hall⟩ := mem_ready.1 hi
      have him := ready_left listed i hi
      obtain ⟨pre, post, hpp⟩ := List.append_of_mem him
      have ho' : ops[i]? = some o := by simpa using ho
      have hsort : (left ops listed).Pairwise (· < ·) := (range_sorted _).filter _
      rw [hpp, List.pairwise_append] at hsort
      rw [hpp, List.filterMap_append, List.filterMap_cons, ho'] at hr
      simp only [Option.map_some] at hr
      obtain ⟨σ1, h1, h2⟩ := hr.front (fun x hx => by
        obtain ⟨j, hj, hjx⟩ := List.mem_filterMap.1 hx
        obtain ⟨x, hjx', rfl⟩ := Option.map_eq_some_iff.1 hjx
        have hji := hsort.2.2 j hj i List.mem_cons_self
        have hjl : j ∈ left ops listed := by rw [hpp]; exact List.mem_append_left _ hj
        rcases (drawOk_spec hdr ho').2 j x hji hjx' with hb | hb
        · have := behind_listed hcl _ i j o ho' hall hb
          have h3 := (left_mem.1 hjl).2
          have hlt : j < listed.size := by rw [hsz]; exact (left_mem.1 hjl).1
          simp [Array.getD, hlt] at this h3
          rw [this] at h3
          cases h3
        · exact hb.imp aptB_spec id)
      refine stepG_wp hG hMG hS hs ho' (hok o (List.mem_of_getElem? ho')) h1 (fun M' β' a' w' hs' => ?_)
      refine ih (listed.setIfInBounds i true) M' β' σ1 a' w' (by simpa using hsz) ?_ ?_ hs' ?_
      · intro k ok hk hlk e he hb
        by_cases hki : i = k
        · subst hki
          have : ok = o := Option.some.inj (hk.symm.trans ho')
          subst this
          exact getD_set_true (hall e he hb)
        · rw [getD_set_ne false hki] at hlk
          exact getD_set_true (hcl k ok hk hlk e he hb)
      · rw [left_set hpp]
        rw [hpp] at hlen
        simp only [List.length_append, List.length_cons] at hlen ⊢
        omega
      · rw [left_set hpp, List.filterMap_append]
        exact h2
def mapL (ops : List Oper) : List Nat :=
  match ops with
  | [] => []
  | o :: r => match o.op with
    | .makeMap _ _ => match o.dst with
      | some l => l :: mapL r
      | none => mapL r
    | _ => mapL r
def openW (K : St κ → Prop) : List Nat → St κ → Prop
  | [], σ => K σ
  | l :: r, σ => match σ.ob l with
    | some (.map t es, true) => ∀ e0 : List (Value × D κ), e0.Perm es → openW K r (σ.setOb l (.map t e0) false)
    | _ => openW K r σ
theorem open_sound {K : St κ → Prop} : ∀ (L : List Nat) (σ : St κ), Sim X M0 S0 w0 N M β σ a w → openW K L σ → ∃ σ', Sim X M0 S0 w0 N M β σ' a w ∧ K σ' ∧ Fr [] σ σ'
  | [], σ, h, hW => ⟨σ, h, hW, Fr.refl _ _⟩
  | l :: r, σ, h, hW => by
    unfold openW at hW
    split at hW
    · rename_i t es hl
      obtain ⟨e0, hp, hs⟩ := h.unperm hl
      obtain ⟨σ', g1, g2, g3⟩ := open_sound r _ hs (hW e0 hp)
      refine ⟨σ', g1, g2, Fr.trans (b := σ.setOb l (.map t e0) false) ⟨fun i _ => rfl, fun k _ hk => ?_, rfl⟩ g3⟩
      have : k ≠ l := fun e => by rw [e, hl] at hk; cases hk
      simp only [St.setOb, beq_no this, cond_false]
      exact hk
    · exact open_sound r σ h hW
end
end Go.Proofs.YteojgenhgjhohaaDoor
