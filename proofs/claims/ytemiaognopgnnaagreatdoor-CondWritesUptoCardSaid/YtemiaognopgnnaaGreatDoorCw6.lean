/-
  Conditions as text: the signs' map. Conditions as text: the program's side. Conditions as text: the program's condText.
-/
import Derived.Test.YtemiaognopgnnaaGreatDoorCw3
namespace Go.Proofs.YtemiaognopgnnaaGreatDoor
open Go.RowKit
set_option linter.unusedVariables false
set_option linter.unusedSimpArgs false
namespace cw
open rp bl pn
section
variable (E : Env)
set_option maxRecDepth 100000
/-- The signs' map. -/
def signsM : List (Value × DD) := [(.int .i64 5, dS ⟨#[61]⟩), (.int .i64 6, dS ⟨#[33, 61]⟩), (.int .i64 7, dS ⟨#[60]⟩), (.int .i64 8, dS ⟨#[60, 61]⟩), (.int .i64 9, dS ⟨#[62]⟩), (.int .i64 10, dS ⟨#[62, 61]⟩), (.int .i64 11, dS ⟨#[104, 97, 115]⟩), (.int .i64 12, dS ⟨#[105, 110]⟩), (.int .i64 13, dS ⟨#[98, 101, 103, 105, 110, 115]⟩)]
theorem mset_new {es : List (Value × DD)} {k : Value} {d : DD} (h : ∀ p ∈ es, p.1 ≠ k) : mset es k d = es ++ [(k, d)] := by
  unfold mset
  rw [if_neg (fun ⟨p, hp, e⟩ => h p hp e)]
theorem mset_all : ∀ (es acc : List (Value × DD)), ((acc ++ es).map (·.1)).Nodup → es.foldl (fun es p => mset es p.1 p.2) acc = acc ++ es
  | [], acc, _ => by simp
  | (k, d) :: r, acc, h => by
    have hn : ∀ p ∈ acc, p.1 ≠ k := fun p hp e => by
      rw [List.map_append, List.nodup_append] at h
      exact h.2.2 p.1 (List.mem_map.2 ⟨p, hp, rfl⟩) k (by simp) e
    rw [List.foldl_cons, mset_new hn, mset_all r _ (by simpa using h)]
    simp
theorem signs_m : signsM.foldl (fun es p => mset es p.1 p.2) [] = signsM := mset_all signsM [] (by unfold signsM; simp)
theorem signs_1 : SpH (cx Tryz.prog mixed tyT_ok E) 83 [] [] (.mp 1) [(1, .map 104 signsM)] := by
  refine SpH.body Tryz.func83 (by kernel_rfl) rfl (by kernel_rfl) (by kernel_rfl) (by kernel_rfl) ?_
  repeat' first
    | (refine codeW_cond rfl ?_; first | (refine condW_dec ?_ ?_ <;> intro _ <;> try (exfalso; omega)) | refine condW_not ?_ | (refine condW_bool ?_ ?_ <;> intro _ <;> try (exfalso; omega)))
    | (refine facW_intro ?_; intro _)
    | refine Or.inl ?_
    | ((conv => whnf); first | (refine condW_dec ?_ ?_ <;> intro _ <;> try (exfalso; omega)) | refine condW_not ?_ | (refine condW_bool ?_ ?_ <;> intro _ <;> try (exfalso; omega)) | (refine nbC_t (fun _ => ?_) ?_) | (refine nbC_f ?_ (fun _ => ?_)))
    | refine And.intro (by first | omega | (simp only [Int.toNat_natCast] at *; omega) | (simp only [Nat.reduceAdd, Int.cast_ofNat_Int, true_and, and_true]; omega)  | kernel_rfl) ?_
    | refine RegW.run ?_
    | fail
  (conv => whnf)
  exact ⟨[(1, .map 104 signsM)], [], rfl, ⟨[], ⟨by kernel_rfl, by kernel_rfl, by kernel_rfl, by kernel_rfl, by kernel_rfl, by kernel_rfl, by kernel_rfl⟩, ⟨rfl, trivial⟩, (by
    exact ⟨⟨rfl, MLe.of_eq signs_m⟩, trivial⟩), trivial, trivial⟩, rfl⟩
theorem signs_l (L : Nat) : SpH (cx Tryz.prog mixed tyT_ok E) 83 [] [] (.mp L) [(L, .map 104 signsM)] := by
  have h := (signs_1 E).swap 1 L
  simpa only [D.renL, D.ren, renH, Ob.ren, swp_l] using h
end
end cw
end Go.Proofs.YtemiaognopgnnaaGreatDoor
namespace Go.Proofs.YtemiaognopgnnaaGreatDoor
open Go.RowKit
set_option linter.unusedVariables false
set_option linter.unusedSimpArgs false
namespace cw
open rp bl pn
section
variable (E : Env)
set_option maxRecDepth 100000
/-- The cells of a condition. -/
def cells9 (c : Cd) : List DD := [i64 c.op, dS c.route, i64 c.value.kind, dB c.value.b, i64 c.value.i, dS c.value.text, .rc (.vals c.value.items), encStrs c.value.keys, .rc (.conds c.kids)]
theorem kidP_h (c k : Cd) (hk : Sp (cx Tryz.prog mixed tyT_ok E) 46 [encC k] (dS (bs (cdB k)))) (hl : (cdB k).length ≤ 600000000000) : SpH (cx Tryz.prog mixed tyT_ok E) 82 [encC k, .ptr 2000 0] [(2000, .cells (cells9 c))] (dS (bs (kidB c.op k))) [(2000, .cells (cells9 c))] := by
  have h1 := hk
  have h2 : ⟨#[40]⟩ ++ bs (cdB k) ++ ⟨#[41]⟩ = bs ([40] ++ cdB k ++ [41]) := by rw [show (⟨#[40]⟩ : ByteArray) = bs [40] from rfl, show (⟨#[41]⟩ : ByteArray) = bs [41] from rfl, bs_app, bs_app]
  have h3 := bs_size (cdB k)
  unfold kidB cells9
  generalize cdB k = l at *
  by_cases hb : brk c.op k.op = true
  · rw [if_pos hb]
    unfold brk at hb
    simp only [Bool.or_eq_true, Bool.and_eq_true, Bool.not_eq_true', decide_eq_true_eq, decide_eq_false_iff_not] at hb
    rw [← h2]
    generalize bs l = s at *
    have hz1 : ((⟨#[40]⟩ : ByteArray) ++ s).size = 1 + s.size := ByteArray.size_append
    have hz0 : (⟨#[40]⟩ : ByteArray).size = 1 := rfl
    have hz2 : (⟨#[41]⟩ : ByteArray).size = 1 := rfl
    refine SpH.body Tryz.func82 (by kernel_rfl) rfl (by kernel_rfl) (by kernel_rfl) (by kernel_rfl) ?_
    repeat' first
      | (refine codeW_cond rfl ?_; first | (refine condW_dec ?_ ?_ <;> intro _ <;> try (exfalso; omega)) | refine condW_not ?_ | (refine condW_bool ?_ ?_ <;> intro _ <;> try (exfalso; omega)))
      | (refine facW_intro ?_; intro _)
      | refine Or.inl ?_
      | ((conv => whnf); first | (refine condW_dec ?_ ?_ <;> intro _ <;> try (exfalso; omega)) | refine condW_not ?_ | (refine condW_bool ?_ ?_ <;> intro _ <;> try (exfalso; omega)) | (refine nbC_t (fun _ => ?_) ?_) | (refine nbC_f ?_ (fun _ => ?_)))
      | refine And.intro (by first | omega | (simp only [Int.toNat_natCast] at *; omega) | (simp only [Nat.reduceAdd, Int.cast_ofNat_Int, true_and, and_true]; omega)  | kernel_rfl) ?_
      | refine RegW.run ?_
      | refine ⟨_, h1, ?_⟩
      | fail
    all_goals first
      | (exfalso; omega)
      | exact ⟨[(2000, .cells [i64 c.op, dS c.route, i64 c.value.kind, dB c.value.b, i64 c.value.i, dS c.value.text, .rc (.vals c.value.items), encStrs c.value.keys, .rc (.conds c.kids)])], [], rfl, ⟨[], ⟨by kernel_rfl, by kernel_rfl, by kernel_rfl, by kernel_rfl, by kernel_rfl, by kernel_rfl, by kernel_rfl⟩, ⟨⟨rfl, Dle.refl _ _⟩, trivial⟩, (by repeat' first | exact trivial | exact rfl | kernel_rfl | exact Dle.of_eq rfl | exact MLe.of_eq rfl | exact Dle.i (by omega) | exact Dle.i (by simp only [Int.toNat_natCast] at *; omega) | exact Dle.nil | exact Dle.rc Dle.nil | exact Option.some_ne_none _ | exact Or.inl rfl | exact Or.inr trivial | omega | (simp only [Int.toNat_natCast] at *; omega) | (intro _ _ _ _; exact Dle.of_eq rfl) | refine And.intro ?_ ?_), trivial, trivial⟩, rfl⟩
      | trace_state
  · rw [if_neg hb]
    unfold brk at hb
    simp only [Bool.or_eq_true, Bool.and_eq_true, Bool.not_eq_true', decide_eq_true_eq, decide_eq_false_iff_not] at hb
    generalize bs l = s at *
    refine SpH.body Tryz.func82 (by kernel_rfl) rfl (by kernel_rfl) (by kernel_rfl) (by kernel_rfl) ?_
    repeat' first
      | (refine codeW_cond rfl ?_; first | (refine condW_dec ?_ ?_ <;> intro _ <;> try (exfalso; omega)) | refine condW_not ?_ | (refine condW_bool ?_ ?_ <;> intro _ <;> try (exfalso; omega)))
      | (refine facW_intro ?_; intro _)
      | refine Or.inl ?_
      | ((conv => whnf); first | (refine condW_dec ?_ ?_ <;> intro _ <;> try (exfalso; omega)) | refine condW_not ?_ | (refine condW_bool ?_ ?_ <;> intro _ <;> try (exfalso; omega)) | (refine nbC_t (fun _ => ?_) ?_) | (refine nbC_f ?_ (fun _ => ?_)))
      | refine And.intro (by first | omega | (simp only [Int.toNat_natCast] at *; omega) | (simp only [Nat.reduceAdd, Int.cast_ofNat_Int, true_and, and_true]; omega)  | kernel_rfl) ?_
      | refine RegW.run ?_
      | refine ⟨_, h1, ?_⟩
      | fail
    all_goals first
      | (exfalso; omega)
      | exact ⟨[(2000, .cells [i64 c.op, dS c.route, i64 c.value.kind, dB c.value.b, i64 c.value.i, dS c.value.text, .rc (.vals c.value.items), encStrs c.value.keys, .rc (.conds c.kids)])], [], rfl, ⟨[], ⟨by kernel_rfl, by kernel_rfl, by kernel_rfl, by kernel_rfl, by kernel_rfl, by kernel_rfl, by kernel_rfl⟩, ⟨⟨rfl, Dle.refl _ _⟩, trivial⟩, (by repeat' first | exact trivial | exact rfl | kernel_rfl | exact Dle.of_eq rfl | exact MLe.of_eq rfl | exact Dle.i (by omega) | exact Dle.i (by simp only [Int.toNat_natCast] at *; omega) | exact Dle.nil | exact Dle.rc Dle.nil | exact Option.some_ne_none _ | exact Or.inl rfl | exact Or.inr trivial | omega | (simp only [Int.toNat_natCast] at *; omega) | (intro _ _ _ _; exact Dle.of_eq rfl) | refine And.intro ?_ ?_), trivial, trivial⟩, rfl⟩
      | trace_state
theorem kidP_l (L : Nat) (c k : Cd) (hk : Sp (cx Tryz.prog mixed tyT_ok E) 46 [encC k] (dS (bs (cdB k)))) (hl : (cdB k).length ≤ 600000000000) : SpH (cx Tryz.prog mixed tyT_ok E) 82 [encC k, .ptr L 0] [(L, .cells (cells9 c))] (dS (bs (kidB c.op k))) [(L, .cells (cells9 c))] := by
  have h := (kidP_h E c k hk hl).swap 2000 L
  simpa only [D.renL, D.ren, renH, Ob.ren, swp_l, encC, cells9, encStrs, List.map_cons, List.map_nil] using h
end
end cw
end Go.Proofs.YtemiaognopgnnaaGreatDoor
namespace Go.Proofs.YtemiaognopgnnaaGreatDoor
open Go.RowKit
set_option linter.unusedVariables false
set_option linter.unusedSimpArgs false
namespace cw
open rp bl pn
section
variable (E : Env)
set_option maxRecDepth 100000
theorem signs_look {o : Int} (h5 : 5 ≤ o) (h : o ≤ 13) : Look signsM (.int .i64 o) (zeroD (((cx Tryz.prog mixed tyT_ok E)).T 9)) (true, dS (bs (opW o))) := by
  have : o = 5 ∨ o = 6 ∨ o = 7 ∨ o = 8 ∨ o = 9 ∨ o = 10 ∨ o = 11 ∨ o = 12 ∨ o = 13 := by omega
  refine .inl ⟨(.int .i64 o, dS (bs (opW o))), ?_, rfl, rfl⟩
  unfold signsM
  rcases this with rfl | rfl | rfl | rfl | rfl | rfl | rfl | rfl | rfl <;> simp [opW, bs, dS]
set_option maxHeartbeats 8000000 in
theorem condText_sp (hP : ∀ w, E.G w → P10 w) : ∀ (N : Nat) (c : Cd), SizeOf.sizeOf c < N → condE c = 0 → i64C c → c.wt ≤ 100000000 → Sp (cx Tryz.prog mixed tyT_ok E) 46 [encC c] (dS (bs (cdB c)))
  | 0, c, h, _, _, _ => by omega
  | N + 1, c, h, hc, hi, hw => by
    have hwe := c.wt_eq
    have hf := ok_facts hc
    have hkl := fun x (hx : x ∈ c.kids) => cdB_len x (hf.2.2.2.2.2 x hx) (i64Cs_mem _ x (i64C_kids c hi) hx)
    have hkw := fun x (hx : x ∈ c.kids) => Cd.wt_mem c.kids x hx
    have ih := fun x (hx : x ∈ c.kids) => condText_sp hP N x (by have := kids_lt c x hx; omega) (hf.2.2.2.2.2 x hx) (i64Cs_mem _ x (i64C_kids c hi) hx) (by have := hkw x hx; omega)
    have ihk := fun x (hx : x ∈ c.kids) => kidP_l E 1 c x (ih x hx) (by have := hkl x hx; have := hkw x hx; omega)
    have hp := cdB_eq c
    by_cases c1 : c.op = 1
    · rw [if_pos (.inl c1)] at hp
      refine Sp.body Tryz.func46 (by kernel_rfl) rfl (by kernel_rfl) (by kernel_rfl) (by kernel_rfl) ?_
      repeat' first
        | (refine codeW_cond rfl ?_; first | (refine condW_dec ?_ ?_ <;> intro _ <;> try (exfalso; omega)) | refine condW_not ?_ | (refine condW_bool ?_ ?_ <;> intro _ <;> try (exfalso; omega)))
        | (refine facW_intro ?_; intro _)
        | refine Or.inl ?_
        | ((conv => whnf); first | (refine condW_dec ?_ ?_ <;> intro _ <;> try (exfalso; omega)) | refine condW_not ?_ | (refine condW_bool ?_ ?_ <;> intro _ <;> try (exfalso; omega)) | (refine nbC_t (fun _ => ?_) ?_) | (refine nbC_f ?_ (fun _ => ?_)))
        | refine And.intro (by first | omega | (simp only [Int.toNat_natCast] at *; omega) | (simp only [Nat.reduceAdd, Int.cast_ofNat_Int, true_and, and_true]; omega)  | kernel_rfl) ?_
        | refine RegW.run ?_
        | fail
      refine ⟨Nat, fun q => [(16, i64 q), (4, .own 16 1 0 (kL c.op (c.kids.take q)).length)], fun q => [], [1], fun q => [(16, 9, (kL c.op (c.kids.take q)).length, fun i j => .v (.string ((kL c.op (c.kids.take q)).getD i ⟨#[]⟩)))], fun q => q ≤ c.kids.length, fun q => c.kids.length - q, ⟨0, by omega, ⟨[(16, none)], ⟨by kernel_rfl, by kernel_rfl, by kernel_rfl, by kernel_rfl, by kernel_rfl, by kernel_rfl, by kernel_rfl⟩, (by repeat' first | exact trivial | exact rfl | kernel_rfl | exact Dle.of_eq rfl | exact MLe.of_eq rfl | exact Dle.i (by omega) | exact Dle.i (by simp only [Int.toNat_natCast] at *; omega) | exact Dle.nil | exact Dle.rc Dle.nil | exact Option.some_ne_none _ | exact Or.inl rfl | exact Or.inr trivial | omega | (simp only [Int.toNat_natCast] at *; omega) | (intro _ _ _ _; exact Dle.of_eq rfl) | refine And.intro ?_ ?_)⟩⟩, fun q hq => ?_⟩
      have hq2 : q ≤ c.kids.length := hq
      have hll : (kL c.op (c.kids.take q)).length ≤ 1000000000 := by rw [kL_len, List.length_take]; have := klen_le_wt c.kids; omega
      by_cases hlt : q < c.kids.length
      · have hm := getD_mem c.kids .zero q hlt
        have h1 := ihk (c.kids.getD q .zero) hm
        have e2 : (kL c.op (c.kids.take (q + 1))) = (kL c.op (c.kids.take q)) ++ [bs (kidB c.op (c.kids.getD q .zero))] := by unfold kL; rw [take_snoc c.kids .zero q hlt, List.map_append]; rfl
        have e3 : (kL c.op (c.kids.take q)).length + 1 = (kL c.op (c.kids.take (q + 1))).length := by rw [e2, List.length_append]; rfl
        have h9 : ∀ i j, i < (kL c.op (c.kids.take q)).length + 1 → j < 1 → Dle (cx Tryz.prog mixed tyT_ok E) (if i < (kL c.op (c.kids.take q)).length then .v (.string ((kL c.op (c.kids.take q)).getD i ⟨#[]⟩)) else ([.v (.string (bs (kidB c.op (c.kids.getD q .zero))))] : List DD).getD ((i - (kL c.op (c.kids.take q)).length) * 1 + j) .opq) (.v (.string ((kL c.op (c.kids.take (q + 1))).getD i ⟨#[]⟩))) := by
          rw [e2]
          intro i j hi hj
          obtain rfl : j = 0 := by omega
          by_cases hh : i < (kL c.op (c.kids.take q)).length
          · rw [if_pos hh]
            exact Dle.s (getD_snoc1 hh).symm
          · rw [if_neg hh, show i - (kL c.op (c.kids.take q)).length = 0 by omega]
            exact Dle.s (getD_snoc2 (by omega)).symm
        repeat' first
          | refine Or.inr ⟨_, _, _, h1, by kernel_rfl, (by repeat' first | exact trivial | exact rfl | kernel_rfl | exact Dle.of_eq rfl | exact MLe.of_eq rfl | exact Dle.i (by omega) | exact Dle.i (by simp only [Int.toNat_natCast] at *; omega) | exact Dle.nil | exact Dle.rc Dle.nil | exact Option.some_ne_none _ | exact Or.inl rfl | exact Or.inr trivial | omega | (simp only [Int.toNat_natCast] at *; omega) | (intro _ _ _ _; exact Dle.of_eq rfl) | refine And.intro ?_ ?_), ?_⟩
          | (refine codeW_cond rfl ?_; first | (refine condW_dec ?_ ?_ <;> intro _ <;> try (exfalso; omega)) | refine condW_not ?_ | (refine condW_bool ?_ ?_ <;> intro _ <;> try (exfalso; omega)))
          | (refine facW_intro ?_; intro _)
          | refine Or.inl ?_
          | ((conv => whnf); first | (refine condW_dec ?_ ?_ <;> intro _ <;> try (exfalso; omega)) | refine condW_not ?_ | (refine condW_bool ?_ ?_ <;> intro _ <;> try (exfalso; omega)) | (refine nbC_t (fun _ => ?_) ?_) | (refine nbC_f ?_ (fun _ => ?_)))
          | refine And.intro (by first | omega | (simp only [Int.toNat_natCast] at *; omega) | (simp only [Nat.reduceAdd, Int.cast_ofNat_Int, true_and, and_true]; omega)  | kernel_rfl) ?_
          | refine RegW.run ?_
          | fail
        all_goals first
          | (exfalso; omega)
          | exact ⟨q + 1, by omega, ⟨[(16, some 25)], ⟨by kernel_rfl, by kernel_rfl, by kernel_rfl, by kernel_rfl, by kernel_rfl, by kernel_rfl, by kernel_rfl⟩, (by repeat' first | (exact e3) | exact trivial | exact rfl | kernel_rfl | exact Dle.of_eq rfl | exact MLe.of_eq rfl | exact Dle.i (by omega) | exact Dle.i (by simp only [Int.toNat_natCast] at *; omega) | exact Dle.nil | exact Dle.rc Dle.nil | exact Option.some_ne_none _ | exact Or.inl rfl | exact Or.inr trivial | omega | (simp only [Int.toNat_natCast] at *; omega) | (intro _ _ _ _; exact Dle.of_eq rfl) | (intro i j hi hj; exact h9 i j hi hj) | refine And.intro ?_ ?_)⟩, by first | omega | (dsimp only; omega)⟩
          | trace_state
      · obtain rfl : q = c.kids.length := by omega
        have e5 : c.kids.take c.kids.length = c.kids := List.take_length
        have hsz := szL_kL c.op c.kids hf.2.2.2.2.2 (i64C_kids c hi)
        have h1 := join1_sp E (kL c.op (c.kids.take c.kids.length)) ⟨#[32, 97, 110, 100, 32]⟩ (by omega) (by decide) (by decide) (by rw [e5]; omega)
        have hjn : bs (cdB c) = jnS (kL c.op (c.kids.take c.kids.length)) ⟨#[32, 97, 110, 100, 32]⟩ := by
          rw [e5, hp]
          have := jn_kL c.op c.kids true
          rw [show sepB c.op = [32, 97, 110, 100, 32] by unfold sepB; grind] at this
          exact (congrArg bs this).symm
        rw [hjn]
        repeat' first
          | (refine codeW_cond rfl ?_; first | (refine condW_dec ?_ ?_ <;> intro _ <;> try (exfalso; omega)) | refine condW_not ?_ | (refine condW_bool ?_ ?_ <;> intro _ <;> try (exfalso; omega)))
          | (refine facW_intro ?_; intro _)
          | refine Or.inl ?_
          | ((conv => whnf); first | (refine condW_dec ?_ ?_ <;> intro _ <;> try (exfalso; omega)) | refine condW_not ?_ | (refine condW_bool ?_ ?_ <;> intro _ <;> try (exfalso; omega)) | (refine nbC_t (fun _ => ?_) ?_) | (refine nbC_f ?_ (fun _ => ?_)))
          | refine And.intro (by first | omega | (simp only [Int.toNat_natCast] at *; omega) | (simp only [Nat.reduceAdd, Int.cast_ofNat_Int, true_and, and_true]; omega)  | kernel_rfl) ?_
          | refine RegW.run ?_
          | refine ⟨_, h1, ?_⟩
          | fail
        all_goals first
          | (exfalso; omega)
          | exact Dle.refl _ _
          | trace_state
    · by_cases c2 : c.op = 2
      · rw [if_pos (.inr c2)] at hp
        refine Sp.body Tryz.func46 (by kernel_rfl) rfl (by kernel_rfl) (by kernel_rfl) (by kernel_rfl) ?_
        repeat' first
          | (refine codeW_cond rfl ?_; first | (refine condW_dec ?_ ?_ <;> intro _ <;> try (exfalso; omega)) | refine condW_not ?_ | (refine condW_bool ?_ ?_ <;> intro _ <;> try (exfalso; omega)))
          | (refine facW_intro ?_; intro _)
          | refine Or.inl ?_
          | ((conv => whnf); first | (refine condW_dec ?_ ?_ <;> intro _ <;> try (exfalso; omega)) | refine condW_not ?_ | (refine condW_bool ?_ ?_ <;> intro _ <;> try (exfalso; omega)) | (refine nbC_t (fun _ => ?_) ?_) | (refine nbC_f ?_ (fun _ => ?_)))
          | refine And.intro (by first | omega | (simp only [Int.toNat_natCast] at *; omega) | (simp only [Nat.reduceAdd, Int.cast_ofNat_Int, true_and, and_true]; omega)  | kernel_rfl) ?_
          | refine RegW.run ?_
          | fail
        refine ⟨Nat, fun q => [(16, i64 q), (4, .own 16 1 0 (kL c.op (c.kids.take q)).length)], fun q => [], [1], fun q => [(16, 9, (kL c.op (c.kids.take q)).length, fun i j => .v (.string ((kL c.op (c.kids.take q)).getD i ⟨#[]⟩)))], fun q => q ≤ c.kids.length, fun q => c.kids.length - q, ⟨0, by omega, ⟨[(16, none)], ⟨by kernel_rfl, by kernel_rfl, by kernel_rfl, by kernel_rfl, by kernel_rfl, by kernel_rfl, by kernel_rfl⟩, (by repeat' first | exact trivial | exact rfl | kernel_rfl | exact Dle.of_eq rfl | exact MLe.of_eq rfl | exact Dle.i (by omega) | exact Dle.i (by simp only [Int.toNat_natCast] at *; omega) | exact Dle.nil | exact Dle.rc Dle.nil | exact Option.some_ne_none _ | exact Or.inl rfl | exact Or.inr trivial | omega | (simp only [Int.toNat_natCast] at *; omega) | (intro _ _ _ _; exact Dle.of_eq rfl) | refine And.intro ?_ ?_)⟩⟩, fun q hq => ?_⟩
        have hq2 : q ≤ c.kids.length := hq
        have hll : (kL c.op (c.kids.take q)).length ≤ 1000000000 := by rw [kL_len, List.length_take]; have := klen_le_wt c.kids; omega
        by_cases hlt : q < c.kids.length
        · have hm := getD_mem c.kids .zero q hlt
          have h1 := ihk (c.kids.getD q .zero) hm
          have e2 : (kL c.op (c.kids.take (q + 1))) = (kL c.op (c.kids.take q)) ++ [bs (kidB c.op (c.kids.getD q .zero))] := by unfold kL; rw [take_snoc c.kids .zero q hlt, List.map_append]; rfl
          have e3 : (kL c.op (c.kids.take q)).length + 1 = (kL c.op (c.kids.take (q + 1))).length := by rw [e2, List.length_append]; rfl
          have h9 : ∀ i j, i < (kL c.op (c.kids.take q)).length + 1 → j < 1 → Dle (cx Tryz.prog mixed tyT_ok E) (if i < (kL c.op (c.kids.take q)).length then .v (.string ((kL c.op (c.kids.take q)).getD i ⟨#[]⟩)) else ([.v (.string (bs (kidB c.op (c.kids.getD q .zero))))] : List DD).getD ((i - (kL c.op (c.kids.take q)).length) * 1 + j) .opq) (.v (.string ((kL c.op (c.kids.take (q + 1))).getD i ⟨#[]⟩))) := by
            rw [e2]
            intro i j hi hj
            obtain rfl : j = 0 := by omega
            by_cases hh : i < (kL c.op (c.kids.take q)).length
            · rw [if_pos hh]
              exact Dle.s (getD_snoc1 hh).symm
            · rw [if_neg hh, show i - (kL c.op (c.kids.take q)).length = 0 by omega]
              exact Dle.s (getD_snoc2 (by omega)).symm
          repeat' first
            | refine Or.inr ⟨_, _, _, h1, by kernel_rfl, (by repeat' first | exact trivial | exact rfl | kernel_rfl | exact Dle.of_eq rfl | exact MLe.of_eq rfl | exact Dle.i (by omega) | exact Dle.i (by simp only [Int.toNat_natCast] at *; omega) | exact Dle.nil | exact Dle.rc Dle.nil | exact Option.some_ne_none _ | exact Or.inl rfl | exact Or.inr trivial | omega | (simp only [Int.toNat_natCast] at *; omega) | (intro _ _ _ _; exact Dle.of_eq rfl) | refine And.intro ?_ ?_), ?_⟩
            | (refine codeW_cond rfl ?_; first | (refine condW_dec ?_ ?_ <;> intro _ <;> try (exfalso; omega)) | refine condW_not ?_ | (refine condW_bool ?_ ?_ <;> intro _ <;> try (exfalso; omega)))
            | (refine facW_intro ?_; intro _)
            | refine Or.inl ?_
            | ((conv => whnf); first | (refine condW_dec ?_ ?_ <;> intro _ <;> try (exfalso; omega)) | refine condW_not ?_ | (refine condW_bool ?_ ?_ <;> intro _ <;> try (exfalso; omega)) | (refine nbC_t (fun _ => ?_) ?_) | (refine nbC_f ?_ (fun _ => ?_)))
            | refine And.intro (by first | omega | (simp only [Int.toNat_natCast] at *; omega) | (simp only [Nat.reduceAdd, Int.cast_ofNat_Int, true_and, and_true]; omega)  | kernel_rfl) ?_
            | refine RegW.run ?_
            | fail
          all_goals first
            | (exfalso; omega)
            | exact ⟨q + 1, by omega, ⟨[(16, some 25)], ⟨by kernel_rfl, by kernel_rfl, by kernel_rfl, by kernel_rfl, by kernel_rfl, by kernel_rfl, by kernel_rfl⟩, (by repeat' first | (exact e3) | exact trivial | exact rfl | kernel_rfl | exact Dle.of_eq rfl | exact MLe.of_eq rfl | exact Dle.i (by omega) | exact Dle.i (by simp only [Int.toNat_natCast] at *; omega) | exact Dle.nil | exact Dle.rc Dle.nil | exact Option.some_ne_none _ | exact Or.inl rfl | exact Or.inr trivial | omega | (simp only [Int.toNat_natCast] at *; omega) | (intro _ _ _ _; exact Dle.of_eq rfl) | (intro i j hi hj; exact h9 i j hi hj) | refine And.intro ?_ ?_)⟩, by first | omega | (dsimp only; omega)⟩
            | trace_state
        · obtain rfl : q = c.kids.length := by omega
          have e5 : c.kids.take c.kids.length = c.kids := List.take_length
          have hsz := szL_kL c.op c.kids hf.2.2.2.2.2 (i64C_kids c hi)
          have h1 := join1_sp E (kL c.op (c.kids.take c.kids.length)) ⟨#[32, 111, 114, 32]⟩ (by omega) (by decide) (by decide) (by rw [e5]; omega)
          have hjn : bs (cdB c) = jnS (kL c.op (c.kids.take c.kids.length)) ⟨#[32, 111, 114, 32]⟩ := by
            rw [e5, hp]
            have := jn_kL c.op c.kids true
            rw [show sepB c.op = [32, 111, 114, 32] by unfold sepB; grind] at this
            exact (congrArg bs this).symm
          rw [hjn]
          repeat' first
            | (refine codeW_cond rfl ?_; first | (refine condW_dec ?_ ?_ <;> intro _ <;> try (exfalso; omega)) | refine condW_not ?_ | (refine condW_bool ?_ ?_ <;> intro _ <;> try (exfalso; omega)))
            | (refine facW_intro ?_; intro _)
            | refine Or.inl ?_
            | ((conv => whnf); first | (refine condW_dec ?_ ?_ <;> intro _ <;> try (exfalso; omega)) | refine condW_not ?_ | (refine condW_bool ?_ ?_ <;> intro _ <;> try (exfalso; omega)) | (refine nbC_t (fun _ => ?_) ?_) | (refine nbC_f ?_ (fun _ => ?_)))
            | refine And.intro (by first | omega | (simp only [Int.toNat_natCast] at *; omega) | (simp only [Nat.reduceAdd, Int.cast_ofNat_Int, true_and, and_true]; omega)  | kernel_rfl) ?_
            | refine RegW.run ?_
            | refine ⟨_, h1, ?_⟩
            | fail
          all_goals first
            | (exfalso; omega)
            | exact Dle.refl _ _
            | trace_state
      · by_cases c3 : c.op = 3
        · rw [if_neg (c := c.op = 1 ∨ c.op = 2) (by omega), if_pos c3] at hp
          have hk1 := hf.2.2.1 c3
          have hlt : 0 < c.kids.length := by omega
          have hm := getD_mem c.kids .zero 0 hlt
          have hcf : cdF c.op true c.kids = kidB c.op (c.kids.getD 0 .zero) := by
            match hl : c.kids, hk1 with
            | [x], _ => simp only [cdF, List.append_nil]; rfl
          rw [hcf] at hp
          have hkl2 := kidB_len c.op _ (hf.2.2.2.2.2 _ hm) (i64Cs_mem _ _ (i64C_kids c hi) hm)
          have hkw2 := hkw _ hm
          have hbz := bs_size (kidB c.op (c.kids.getD 0 .zero))
          have hz0 : (⟨#[110, 111, 116, 32]⟩ : ByteArray).size = 4 := rfl
          have hpj : bs (cdB c) = ⟨#[110, 111, 116, 32]⟩ ++ bs (kidB c.op (c.kids.getD 0 .zero)) := by rw [hp, show (⟨#[110, 111, 116, 32]⟩ : ByteArray) = bs [110, 111, 116, 32] from rfl, bs_app]
          rw [hpj]
          have h1 := ihk _ hm
          refine Sp.body Tryz.func46 (by kernel_rfl) rfl (by kernel_rfl) (by kernel_rfl) (by kernel_rfl) ?_
          repeat' first
            | refine Or.inr ⟨_, _, _, h1, by kernel_rfl, (by repeat' first | exact trivial | exact rfl | kernel_rfl | exact Dle.of_eq rfl | exact MLe.of_eq rfl | exact Dle.i (by omega) | exact Dle.i (by simp only [Int.toNat_natCast] at *; omega) | exact Dle.nil | exact Dle.rc Dle.nil | exact Option.some_ne_none _ | exact Or.inl rfl | exact Or.inr trivial | omega | (simp only [Int.toNat_natCast] at *; omega) | (intro _ _ _ _; exact Dle.of_eq rfl) | refine And.intro ?_ ?_), ?_⟩
            | (refine codeW_cond rfl ?_; first | (refine condW_dec ?_ ?_ <;> intro _ <;> try (exfalso; omega)) | refine condW_not ?_ | (refine condW_bool ?_ ?_ <;> intro _ <;> try (exfalso; omega)))
            | (refine facW_intro ?_; intro _)
            | refine Or.inl ?_
            | ((conv => whnf); first | (refine condW_dec ?_ ?_ <;> intro _ <;> try (exfalso; omega)) | refine condW_not ?_ | (refine condW_bool ?_ ?_ <;> intro _ <;> try (exfalso; omega)) | (refine nbC_t (fun _ => ?_) ?_) | (refine nbC_f ?_ (fun _ => ?_)))
            | refine And.intro (by first | omega | (simp only [Int.toNat_natCast] at *; omega) | (simp only [Nat.reduceAdd, Int.cast_ofNat_Int, true_and, and_true]; omega)  | kernel_rfl) ?_
            | refine RegW.run ?_
            | fail
          all_goals first
            | (exfalso; omega)
            | exact Dle.refl _ _
            | trace_state
        · rw [if_neg (c := c.op = 1 ∨ c.op = 2) (by omega), if_neg c3] at hp
          by_cases c4 : c.op = 4
          · rw [if_pos c4] at hp
            rw [hp, bs_list]
            refine Sp.body Tryz.func46 (by kernel_rfl) rfl (by kernel_rfl) (by kernel_rfl) (by kernel_rfl) ?_
            repeat' first
              | (refine codeW_cond rfl ?_; first | (refine condW_dec ?_ ?_ <;> intro _ <;> try (exfalso; omega)) | refine condW_not ?_ | (refine condW_bool ?_ ?_ <;> intro _ <;> try (exfalso; omega)))
              | (refine facW_intro ?_; intro _)
              | refine Or.inl ?_
              | ((conv => whnf); first | (refine condW_dec ?_ ?_ <;> intro _ <;> try (exfalso; omega)) | refine condW_not ?_ | (refine condW_bool ?_ ?_ <;> intro _ <;> try (exfalso; omega)) | (refine nbC_t (fun _ => ?_) ?_) | (refine nbC_f ?_ (fun _ => ?_)))
              | refine And.intro (by first | omega | (simp only [Int.toNat_natCast] at *; omega) | (simp only [Nat.reduceAdd, Int.cast_ofNat_Int, true_and, and_true]; omega)  | kernel_rfl) ?_
              | refine RegW.run ?_
              | fail
            all_goals first
              | (exfalso; omega)
              | exact Dle.refl _ _
              | trace_state
          · rw [if_neg c4] at hp
            have h5 : 5 ≤ c.op := by omega
            have hv := hf.2.2.2.2.1 h5
            have hpl := pvB_len [] c.value (i64C_val c hi)
            have hpl2 : (([] : List UInt8).length + 3 * lvl c.value + 200) * c.value.wt ≤ 300 * c.value.wt := Nat.mul_le_mul_right _ (by simp only [List.length_nil]; omega)
            have h1 := valueText_sp E hP c.value hv.2.2.1 (i64C_val c hi) hv.2.2.2 (by omega) (by omega) (by omega)
            have hlk := signs_look E h5 hf.2.1
            have hsg := signs_l E 50
            have hol := opW_len c.op
            have hpj : bs (cdB c) = c.route ++ ⟨#[32]⟩ ++ bs (opW c.op) ++ ⟨#[32]⟩ ++ bs (pvB [] c.value) := by
              rw [hp, show (⟨#[32]⟩ : ByteArray) = bs [32] from rfl, ← bs_app, ← bs_app, ← bs_app, ← bs_app, bs_list]
            have hz0 : (⟨#[32]⟩ : ByteArray).size = 1 := rfl
            have hz1 : (c.route ++ ⟨#[32]⟩).size = c.route.size + 1 := ByteArray.size_append
            have hz2 : (c.route ++ ⟨#[32]⟩ ++ bs (opW c.op)).size = c.route.size + 1 + (opW c.op).length := by rw [ByteArray.size_append, hz1, bs_size]
            have hz3 : (c.route ++ ⟨#[32]⟩ ++ bs (opW c.op) ++ ⟨#[32]⟩).size = c.route.size + 1 + (opW c.op).length + 1 := by rw [ByteArray.size_append, hz2, hz0]
            have hz4 := bs_size (opW c.op)
            have hz5 := bs_size (pvB [] c.value)
            rw [hpj]
            refine Sp.body Tryz.func46 (by kernel_rfl) rfl (by kernel_rfl) (by kernel_rfl) (by kernel_rfl) ?_
            repeat' first
              | refine Or.inr ⟨_, _, _, hsg, by kernel_rfl, (by repeat' first | exact trivial | exact rfl | kernel_rfl | exact Dle.of_eq rfl | exact MLe.of_eq rfl | exact Dle.i (by omega) | exact Dle.i (by simp only [Int.toNat_natCast] at *; omega) | exact Dle.nil | exact Dle.rc Dle.nil | exact Option.some_ne_none _ | exact Or.inl rfl | exact Or.inr trivial | omega | (simp only [Int.toNat_natCast] at *; omega) | (intro _ _ _ _; exact Dle.of_eq rfl) | refine And.intro ?_ ?_), ?_⟩
              | (refine codeW_cond rfl ?_; first | (refine condW_dec ?_ ?_ <;> intro _ <;> try (exfalso; omega)) | refine condW_not ?_ | (refine condW_bool ?_ ?_ <;> intro _ <;> try (exfalso; omega)))
              | (refine facW_intro ?_; intro _)
              | refine Or.inl ?_
              | ((conv => whnf); first | (refine condW_dec ?_ ?_ <;> intro _ <;> try (exfalso; omega)) | refine condW_not ?_ | (refine condW_bool ?_ ?_ <;> intro _ <;> try (exfalso; omega)) | (refine nbC_t (fun _ => ?_) ?_) | (refine nbC_f ?_ (fun _ => ?_)))
              | refine And.intro (by first | omega | (simp only [Int.toNat_natCast] at *; omega) | (simp only [Nat.reduceAdd, Int.cast_ofNat_Int, true_and, and_true]; omega)  | kernel_rfl) ?_
              | refine RegW.run ?_
              | refine ⟨_, h1, ?_⟩
              | refine ⟨_, hlk, ?_⟩
              | fail
            all_goals first
              | (exfalso; omega)
              | exact Dle.refl _ _
              | trace_state
end
end cw
end Go.Proofs.YtemiaognopgnnaaGreatDoor
