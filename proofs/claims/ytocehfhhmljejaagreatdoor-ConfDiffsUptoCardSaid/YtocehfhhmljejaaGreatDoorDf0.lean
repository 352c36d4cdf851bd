/-
  The merge of two values, plain. The changes between two values, plain.
-/
import Derived.Test.YtocehfhhmljejaaGreatDoorTo0
import Derived.Test.YtocehfhhmljejaaGreatDoorU7
namespace Go.Proofs.YtocehfhhmljejaaGreatDoor
open Go.RowKit
set_option linter.unusedVariables false
set_option linter.unusedSimpArgs false
namespace mg
open cr se ap so tab
mutual
def mergeV : Vu → Vu → Vu
  | .mk k b i t l ks, far => if k ≠ 6 ∨ far.kind ≠ 6 then .mk k b i t l ks else mergeL l ks far far
def mergeL : List Vu → List ByteArray → Vu → Vu → Vu
  | [], _, _, out => out
  | x :: l, ks, far, out => match ks with
    | [] => out
    | k :: ks => mergeL l ks far (putK out k (if hasK far k = true then mergeV x (far.items.getD (findK far k) .zero) else x))
end
def pset (pm : List (ByteArray × Vu)) (k : ByteArray) (v : Vu) : List (ByteArray × Vu) := if ∃ p ∈ pm, p.1 = k then pm.map (fun p => if p.1 = k then (k, v) else p) else pm ++ [(k, v)]
theorem srt_ins {l : List ByteArray} {key : ByteArray} {m : Nat} (hs : Srt l) (hm : m ≤ l.length) (b1 : ∀ k, k < m → strLt (l.getD k ⟨#[]⟩) key = true) (b2 : ∀ k, m ≤ k → k < l.length → strLt key (l.getD k ⟨#[]⟩) = true) : Srt (insL l m key) := fun i j hij hj => by
  have hl := insL_len l m key hm
  rw [insL_at _ _ _ _ _ hm, insL_at _ _ _ _ _ hm]
  by_cases a : i < m
  · rw [if_pos a]
    by_cases b : j < m
    · rw [if_pos b]
      exact hs i j hij (by omega)
    · rw [if_neg b]
      by_cases d : j = m
      · rw [if_pos d]
        exact b1 i a
      · rw [if_neg d]
        exact hs i (j - 1) (by omega) (by omega)
  · rw [if_neg a, if_neg (show ¬ j < m by omega), if_neg (show ¬ j = m by omega)]
    by_cases d : i = m
    · rw [if_pos d]
      exact b2 (j - 1) (by omega) (by omega)
    · rw [if_neg d]
      exact hs (i - 1) (j - 1) (by omega) (by omega)
theorem ins_mem {α : Type} {l : List α} {m : Nat} {y x : α} : x ∈ insL l m y ↔ x = y ∨ x ∈ l := by
  unfold insL
  rw [List.mem_append, List.mem_cons]
  constructor
  · rintro (h | h | h)
    · exact .inr (List.mem_of_mem_take h)
    · exact .inl h
    · exact .inr (List.mem_of_mem_drop h)
  · rintro (h | h)
    · exact .inr (.inl h)
    · rw [← List.take_append_drop m l, List.mem_append] at h
      exact h.imp id .inr
theorem getD_mem2 {α : Type} {l : List α} {d : α} {i : Nat} (h : i < l.length) : l.getD i d ∈ l := by
  rw [List.getD_eq_getElem?_getD, List.getElem?_eq_getElem h]
  exact List.getElem_mem h
theorem set_getD {α : Type} (l : List α) (m i : Nat) (y d : α) (hm : m < l.length) : (l.set m y).getD i d = if i = m then y else l.getD i d := set_at l d y m i hm
theorem tab_put {T : Vu} {pm : List (ByteArray × Vu)} (h : TabOf T pm) (key : ByteArray) (y : Vu) : TabOf (putK T key y) (pset pm key y) := by
  have hlen := h.len
  have hm := find_le T key
  cases hh : hasK T key with
  | true =>
    have hlt := has_lt hh
    have hkey : T.keys.getD (findK T key) ⟨#[]⟩ = key := by
      unfold hasK at hh
      simp only [Bool.and_eq_true, decide_eq_true_eq] at hh
      exact hh.2
    rw [putK_yes0 T key y hh (by omega)]
    have hex : ∃ p ∈ pm, p.1 = key := ⟨_, h.has _ hlt, hkey⟩
    have hps : pset pm key y = pm.map (fun p => if p.1 = key then (key, y) else p) := by unfold pset; rw [if_pos hex]
    have hks : (pset pm key y).map (·.1) = pm.map (·.1) := by
      rw [hps, List.map_map]
      refine List.map_congr_left fun p _ => ?_
      simp only [Function.comp]
      by_cases e : p.1 = key
      · rw [if_pos e]; exact e.symm
      · rw [if_neg e]
    refine ⟨rfl, by show T.keys.length = (T.items.set _ _).length; rw [List.length_set]; exact hlen, h.srt, fun i hi => ?_, fun p hp => ?_, by rw [hks]; exact h.nd⟩
    · have hi : i < T.keys.length := hi
      show (T.keys.getD i ⟨#[]⟩, (T.items.set (findK T key) y).getD i .zero) ∈ _
      rw [set_getD _ _ _ _ _ (by omega), hps]
      by_cases e : i = findK T key
      · rw [if_pos e]
        refine List.mem_map.2 ⟨_, h.has _ hlt, ?_⟩
        rw [if_pos hkey, e, hkey]
      · rw [if_neg e]
        refine List.mem_map.2 ⟨_, h.has i hi, ?_⟩
        rw [if_neg]
        intro hk
        exact e (rs.find_at h.srt hi hk).1.symm
    · have hm2 : p.1 ∈ (pset pm key y).map (·.1) := List.mem_map.2 ⟨p, hp, rfl⟩
      rw [hks] at hm2
      exact (h.mem p.1).2 hm2
  | false =>
    have hno : key ∉ T.keys := fun hx => by
      obtain ⟨i, hi, e⟩ := tab.getD_in (d := (⟨#[]⟩ : ByteArray)) hx
      rw [(rs.find_at h.srt hi e).2] at hh
      cases hh
    have hno2 : ∀ p ∈ pm, p.1 ≠ key := fun p hp e => hno ((h.mem key).2 (List.mem_map.2 ⟨p, hp, e⟩))
    have hps : pset pm key y = pm ++ [(key, y)] := by unfold pset; rw [if_neg (fun ⟨p, hp, e⟩ => hno2 p hp e)]
    have e : putK T key y = .mk 6 false 0 ⟨#[]⟩ (insL T.items (findK T key) y) (insL T.keys (findK T key) key) := by
      unfold putK insL
      rw [hh]
      rfl
    rw [e]
    obtain ⟨b1, b2⟩ := bsr_spec (x := key) h.srt (T.keys.length + 1) 0 T.keys.length (by omega) (by omega) (Nat.le_refl _) (fun k hk => by omega) (fun k hk hk2 => by omega)
    have e5 : findK T key = bsr T.keys key 0 T.keys.length := rfl
    rw [← e5] at b1 b2
    have hl1 := insL_len T.keys (findK T key) key hm
    have hl2 := insL_len T.items (findK T key) y (by omega)
    refine ⟨rfl, by show (insL T.keys _ _).length = (insL T.items _ _).length; omega, srt_ins h.srt hm b1 (fun k hk hk2 => strLt_total (b2 k hk hk2) (fun e => hno (e ▸ getD_mem2 hk2))), fun i hi => ?_, fun p hp => ?_, ?_⟩
    · have hi : i < (insL T.keys (findK T key) key).length := hi
      show ((insL T.keys (findK T key) key).getD i ⟨#[]⟩, (insL T.items (findK T key) y).getD i .zero) ∈ _
      rw [insL_at _ _ _ _ _ hm, insL_at _ _ _ _ _ (by omega), hps, List.mem_append]
      by_cases a : i < findK T key
      · rw [if_pos a, if_pos a]
        exact .inl (h.has i (by omega))
      · rw [if_neg a, if_neg a]
        by_cases d : i = findK T key
        · rw [if_pos d, if_pos d]
          exact .inr (List.mem_singleton.2 rfl)
        · rw [if_neg d, if_neg d]
          exact .inl (h.has (i - 1) (by omega))
    · show p.1 ∈ insL T.keys _ _
      rw [hps, List.mem_append, List.mem_singleton] at hp
      rw [ins_mem]
      rcases hp with hp | rfl
      · exact .inr (h.all p hp)
      · exact .inl rfl
    · rw [hps, List.map_append, List.nodup_append]
      refine ⟨h.nd, by simp, fun a ha b hb => ?_⟩
      obtain ⟨p, hp, rfl⟩ := List.mem_map.1 ha
      simp only [List.map_cons, List.map_nil, List.mem_singleton] at hb
      rw [hb]
      exact hno2 p hp
def zipT (far : Vu) (n : Nat) : List (ByteArray × Vu) := (List.range n).map fun i => (far.keys.getD i ⟨#[]⟩, far.items.getD i .zero)
theorem zip_mem {far : Vu} {n : Nat} {p : ByteArray × Vu} : p ∈ zipT far n ↔ ∃ i, i < n ∧ p = (far.keys.getD i ⟨#[]⟩, far.items.getD i .zero) := by
  unfold zipT
  rw [List.mem_map]
  constructor
  · rintro ⟨i, hi, rfl⟩
    exact ⟨i, List.mem_range.1 hi, rfl⟩
  · rintro ⟨i, hi, rfl⟩
    exact ⟨i, List.mem_range.2 hi, rfl⟩
theorem zip_tab {far : Vu} (hf : far = .mk 6 false 0 ⟨#[]⟩ far.items far.keys) (hl : far.keys.length = far.items.length) (hs : Srt far.keys) : TabOf far (zipT far far.keys.length) := by
  refine ⟨hf, hl, hs, fun i hi => zip_mem.2 ⟨i, hi, rfl⟩, fun p hp => ?_, ?_⟩
  · obtain ⟨i, hi, rfl⟩ := zip_mem.1 hp
    exact getD_mem2 hi
  · unfold zipT
    rw [List.map_map]
    refine List.pairwise_map.2 ?_
    refine List.Pairwise.imp_of_mem (fun {a b} ha hb (hab : a ≠ b) e => hab ?_) List.nodup_range
    have ha := List.mem_range.1 ha
    have hb := List.mem_range.1 hb
    have e : far.keys.getD a ⟨#[]⟩ = far.keys.getD b ⟨#[]⟩ := e
    exact ((rs.find_at hs ha rfl).1.symm.trans (by rw [e])).trans (rs.find_at hs hb rfl).1
theorem putK_len (T : Vu) (key : ByteArray) (y : Vu) (hl : T.keys.length = T.items.length) : (putK T key y).keys.length = (putK T key y).items.length ∧ (putK T key y).keys.length ≤ T.keys.length + 1 := by
  have hm := find_le T key
  cases hh : hasK T key with
  | true =>
    have hlt := has_lt hh
    rw [putK_yes0 T key y hh (by omega)]
    refine ⟨?_, ?_⟩
    · show T.keys.length = (T.items.set _ _).length
      rw [List.length_set]; exact hl
    · show T.keys.length ≤ _
      omega
  | false =>
    have e : putK T key y = .mk 6 false 0 ⟨#[]⟩ (insL T.items (findK T key) y) (insL T.keys (findK T key) key) := by
      unfold putK insL
      rw [hh]
      rfl
    rw [e]
    have h1 := insL_len T.keys (findK T key) key hm
    have h2 := insL_len T.items (findK T key) y (by omega)
    refine ⟨?_, ?_⟩
    · show (insL T.keys _ _).length = (insL T.items _ _).length
      omega
    · show (insL T.keys _ _).length ≤ _
      omega
end mg
end Go.Proofs.YtocehfhhmljejaaGreatDoor
namespace Go.Proofs.YtocehfhhmljejaaGreatDoor
open Go.RowKit
set_option linter.unusedVariables false
set_option linter.unusedSimpArgs false
namespace df
open cr se ap so tab mg
structure Cg where
  route : ByteArray
  value : Vu
  gone : Bool
instance : Inhabited Cg := ⟨⟨⟨#[]⟩, .zero, false⟩⟩
def Cg.cell (c : Cg) (j : Nat) : DD :=
  match j with
  | 0 => dS c.route
  | 1 => i64 c.value.kind
  | 2 => dB c.value.b
  | 3 => i64 c.value.i
  | 4 => dS c.value.text
  | 5 => .rc (.vals c.value.items)
  | 6 => encStrs c.value.keys
  | 7 => dB c.gone
  | _ => .opq
def joinQ (r p : ByteArray) : ByteArray := if r = ⟨#[]⟩ then p else r ++ ⟨#[46]⟩ ++ p
theorem joinQ_size (r p : ByteArray) : (joinQ r p).size ≤ r.size + p.size + 1 := by
  unfold joinQ
  split
  · omega
  · rw [ByteArray.size_append, ByteArray.size_append, show (⟨#[46]⟩ : ByteArray).size = 1 from rfl]
    omega
def puts (b : Vu) : Nat → Vu → Vu
  | 0, T => T
  | n + 1, T => putK (puts b n T) (b.keys.getD n ⟨#[]⟩) (b.items.getD n .zero)
def keysM (a b : Vu) : List ByteArray := (puts b b.keys.length a).keys
theorem puts_len (b : Vu) {T : Vu} (hl : T.keys.length = T.items.length) : ∀ n, (puts b n T).keys.length = (puts b n T).items.length ∧ (puts b n T).keys.length ≤ T.keys.length + n
  | 0 => ⟨hl, Nat.le_refl _⟩
  | n + 1 => by
    obtain ⟨h1, h2⟩ := puts_len b hl n
    have h3 := putK_len (puts b n T) (b.keys.getD n ⟨#[]⟩) (b.items.getD n .zero) h1
    exact ⟨h3.1, by have := h3.2; show (putK _ _ _).keys.length ≤ _; omega⟩
theorem pset_keys (pm : List (ByteArray × Vu)) (k : ByteArray) (v : Vu) (x : ByteArray) : x ∈ (pset pm k v).map (·.1) ↔ x ∈ pm.map (·.1) ∨ x = k := by
  unfold pset
  by_cases h : ∃ p ∈ pm, p.1 = k
  · rw [if_pos h, List.map_map]
    have e : ((·.1) ∘ fun p : ByteArray × Vu => if p.1 = k then (k, v) else p) = (·.1) := by
      funext p
      show (if p.1 = k then (k, v) else p).1 = p.1
      by_cases e : p.1 = k
      · rw [if_pos e]; exact e.symm
      · rw [if_neg e]
    rw [e]
    constructor
    · exact .inl
    · rintro (h2 | rfl)
      · exact h2
      · obtain ⟨p, hp, rfl⟩ := h
        exact List.mem_map.2 ⟨p, hp, rfl⟩
  · rw [if_neg h, List.map_append, List.mem_append, List.map_singleton, List.mem_singleton]
theorem puts_tab {a : Vu} {pm : List (ByteArray × Vu)} (h : TabOf a pm) (b : Vu) : ∀ n, ∃ qm, TabOf (puts b n a) qm ∧ ∀ x, x ∈ qm.map (·.1) ↔ x ∈ pm.map (·.1) ∨ ∃ i, i < n ∧ b.keys.getD i ⟨#[]⟩ = x
  | 0 => ⟨pm, h, fun x => ⟨.inl, fun g => g.elim id fun ⟨i, hi, _⟩ => absurd hi (Nat.not_lt_zero i)⟩⟩
  | n + 1 => by
    obtain ⟨qm, h1, h2⟩ := puts_tab h b n
    refine ⟨_, tab_put h1 (b.keys.getD n ⟨#[]⟩) (b.items.getD n .zero), fun x => ?_⟩
    rw [pset_keys, h2]
    constructor
    · rintro ((h3 | ⟨i, hi, e⟩) | rfl)
      · exact .inl h3
      · exact .inr ⟨i, by omega, e⟩
      · exact .inr ⟨n, by omega, rfl⟩
    · rintro (h3 | ⟨i, hi, e⟩)
      · exact .inl (.inl h3)
      · by_cases hin : i = n
        · subst hin; exact .inr e.symm
        · exact .inl (.inr ⟨i, by omega, e⟩)
theorem keysM_spec {a b : Vu} (ha : faultE a = 0) (ka : a.kind = 6) : Srt (keysM a b) ∧ ∀ x, x ∈ keysM a b ↔ x ∈ a.keys ∨ x ∈ b.keys := by
  have hk := fault_keys ha
  have hT := zip_tab (form6 ha ka) (hk.2 ka) hk.1
  obtain ⟨qm, h1, h2⟩ := puts_tab hT b b.keys.length
  refine ⟨h1.srt, fun x => ?_⟩
  unfold keysM
  rw [h1.mem, h2, ← hT.mem]
  constructor
  · rintro (h | ⟨i, hi, rfl⟩)
    · exact .inl h
    · exact .inr (getD_mem2 hi)
  · rintro (h | h)
    · exact .inl h
    · obtain ⟨i, hi, e⟩ := tab.getD_in (d := ⟨#[]⟩) h
      exact .inr ⟨i, hi, e⟩
def entD (f : Vu → Vu → ByteArray → List Cg × List Cg) (a b : Vu) (r k : ByteArray) : List Cg × List Cg :=
  if hasK b k = false then ([⟨joinQ r k, .zero, true⟩], []) else if hasK a k = false then ([], [⟨joinQ r k, b.items.getD (findK b k) .zero, false⟩]) else f (a.items.getD (findK a k) .zero) (b.items.getD (findK b k) .zero) (joinQ r k)
def diffV : Nat → Vu → Vu → ByteArray → List Cg × List Cg
  | 0, _, _, _ => ([], [])
  | N + 1, a, b, r => if cmpV a b = 0 then ([], []) else if a.kind ≠ 6 ∨ b.kind ≠ 6 then ([], [⟨r, b, false⟩]) else
    ((keysM a b).flatMap fun k => (entD (diffV N) a b r k).1, (keysM a b).flatMap fun k => (entD (diffV N) a b r k).2)
def part1 (f : ByteArray → List Cg × List Cg) (ks : List ByteArray) (n : Nat) : List Cg := (ks.take n).flatMap fun k => (f k).1
def part2 (f : ByteArray → List Cg × List Cg) (ks : List ByteArray) (n : Nat) : List Cg := (ks.take n).flatMap fun k => (f k).2
theorem part1_next (f : ByteArray → List Cg × List Cg) {ks : List ByteArray} {n : Nat} (h : n < ks.length) : part1 f ks (n + 1) = part1 f ks n ++ (f (ks.getD n ⟨#[]⟩)).1 := by
  unfold part1
  rw [List.take_add_one, List.getElem?_eq_getElem h, List.flatMap_append, List.getD_eq_getElem?_getD, List.getElem?_eq_getElem h]
  simp
theorem part2_next (f : ByteArray → List Cg × List Cg) {ks : List ByteArray} {n : Nat} (h : n < ks.length) : part2 f ks (n + 1) = part2 f ks n ++ (f (ks.getD n ⟨#[]⟩)).2 := by
  unfold part2
  rw [List.take_add_one, List.getElem?_eq_getElem h, List.flatMap_append, List.getD_eq_getElem?_getD, List.getElem?_eq_getElem h]
  simp
theorem part1_end (f : ByteArray → List Cg × List Cg) (ks : List ByteArray) : part1 f ks ks.length = ks.flatMap fun k => (f k).1 := by unfold part1; rw [List.take_length]
theorem part2_end (f : ByteArray → List Cg × List Cg) (ks : List ByteArray) : part2 f ks ks.length = ks.flatMap fun k => (f k).2 := by unfold part2; rw [List.take_length]
theorem idx_find {v : Vu} (hs : Srt v.keys) (k : ByteArray) : idxS v.keys k 0 = if hasK v k = true then (findK v k : Int) else -1 := by
  rcases idxS_spec v.keys k (v.keys.length + 1) 0 (by omega) with ⟨h1, h2⟩ | ⟨m, h1, h2, h3⟩
  · rw [h1]
    cases hh : hasK v k
    · rw [if_neg (by decide)]
    · exfalso
      have hl := has_lt hh
      unfold hasK at hh
      simp only [Bool.and_eq_true, decide_eq_true_eq] at hh
      exact h2 _ (Nat.zero_le _) hl hh.2.symm
  · have h4 := rs.find_at hs h2 h3.symm
    rw [h1, h4.1, h4.2, if_pos rfl]
end df
end Go.Proofs.YtocehfhhmljejaaGreatDoor
