/-
  The merge of two values, plain. A schema as a value, plain.
-/
import Derived.Test.YtgdoelfajfjopaaGreatDoorTo0
import Derived.Test.YtgdoelfajfjopaaGreatDoorK0
import Derived.Test.YtgdoelfajfjopaaGreatDoorRs0
namespace Go.Proofs.YtgdoelfajfjopaaGreatDoor
open Go.RowKit
set_option linter.unusedVariables false
set_option linter.unusedSimpArgs false
namespace mg
open cr se ap so tab
mutual
/-- The merge of two values: what is near goes before what is far. -/
def mergeV : Vu → Vu → Vu
  | .mk k b i t l ks, far => if k ≠ 6 ∨ far.kind ≠ 6 then .mk k b i t l ks else mergeL l ks far far
def mergeL : List Vu → List ByteArray → Vu → Vu → Vu
  | [], _, _, out => out
  | x :: l, ks, far, out => match ks with
    | [] => out
    | k :: ks => mergeL l ks far (putK out k (if hasK far k = true then mergeV x (far.items.getD (findK far k) .zero) else x))
end
theorem mergeV_eq (v far : Vu) : mergeV v far = if v.kind ≠ 6 ∨ far.kind ≠ 6 then v else mergeL v.items v.keys far far := by
  cases v with
  | mk k b i t l ks =>
    rw [mergeV]
    rfl
theorem mergeL_drop {l : List Vu} {ks : List ByteArray} {i : Nat} {far out : Vu} (h1 : i < l.length) (h2 : i < ks.length) : mergeL (l.drop i) (ks.drop i) far out = mergeL (l.drop (i + 1)) (ks.drop (i + 1)) far (putK out (ks.getD i ⟨#[]⟩) (if hasK far (ks.getD i ⟨#[]⟩) = true then mergeV (l.getD i .zero) (far.items.getD (findK far (ks.getD i ⟨#[]⟩)) .zero) else l.getD i .zero)) := by
  rw [drop_cons l .zero i h1, drop_cons ks ⟨#[]⟩ i h2]
  simp only [mergeL]
theorem mergeL_end {l : List Vu} {ks : List ByteArray} {i : Nat} {far out : Vu} (h1 : l.length ≤ i) : mergeL (l.drop i) (ks.drop i) far out = out := by
  rw [List.drop_of_length_le h1]
  simp only [mergeL]
/-- Entries with one put. -/
def pset (pm : List (ByteArray × Vu)) (k : ByteArray) (v : Vu) : List (ByteArray × Vu) := if ∃ p ∈ pm, p.1 = k then pm.map (fun p => if p.1 = k then (k, v) else p) else pm ++ [(k, v)]
theorem mset_es (pm : List (ByteArray × Vu)) (k : ByteArray) (v : Vu) : mset (esOf pm) (.string k) (encV v) = esOf (pset pm k v) := by
  have hx : (∃ p ∈ esOf pm, p.1 = .string k) ↔ ∃ p ∈ pm, p.1 = k := by
    constructor
    · rintro ⟨q, hq, he⟩
      obtain ⟨p, hp, rfl⟩ := List.mem_map.1 hq
      injection he with he
      exact ⟨p, hp, he⟩
    · rintro ⟨p, hp, rfl⟩
      exact ⟨_, List.mem_map.2 ⟨p, hp, rfl⟩, rfl⟩
  unfold mset pset
  by_cases h : ∃ p ∈ pm, p.1 = k
  · rw [if_pos (hx.2 h), if_pos h]
    unfold esOf
    rw [List.map_map, List.map_map]
    refine List.map_congr_left fun p _ => ?_
    simp only [Function.comp]
    by_cases e : p.1 = k
    · rw [if_pos (by rw [e]), if_pos e]
    · rw [if_neg (fun h => by injection h with h; exact e h), if_neg e]
  · rw [if_neg (fun q => h (hx.1 q)), if_neg h]
    unfold esOf
    rw [List.map_append]
    rfl
theorem srt_ins {l : List ByteArray} {key : ByteArray} {m : Nat} (hs : Srt l) (hm : m ≤ l.length) (b1 : ∀ k, k < m → strLt (l.getD k ⟨#[]⟩) key = true) (b2 : ∀ k, m ≤ k → k < l.length → strLt key (l.getD k ⟨#[]⟩) = true) : Srt (insL l m key) := fun i j hij hj => by
  have hl := insL_len l m key hm
  rw [insL_at _ _ _ _ _ hm, insL_at _ _ _ _ _ hm]
  by_cases a : i < m
  · rw [if_pos a]
    by_cases b : j < m
    · rw [if_pos b]
      exact hs i j hij (by omega)
    · rw [if_neg b]
      by_cases d : j = m
      · rw [if_pos d]
        exact b1 i a
      · rw [if_neg d]
        exact hs i (j - 1) (by omega) (by omega)
  · rw [if_neg a, if_neg (show ¬ j < m by omega), if_neg (show ¬ j = m by omega)]
    by_cases d : i = m
    · rw [if_pos d]
      exact b2 (j - 1) (by omega) (by omega)
    · rw [if_neg d]
      exact hs (i - 1) (j - 1) (by omega) (by omega)
theorem ins_mem {α : Type} {l : List α} {m : Nat} {y x : α} : x ∈ insL l m y ↔ x = y ∨ x ∈ l := by
  unfold insL
  rw [List.mem_append, List.mem_cons]
  constructor
  · rintro (h | h | h)
    · exact .inr (List.mem_of_mem_take h)
    · exact .inl h
    · exact .inr (List.mem_of_mem_drop h)
  · rintro (h | h)
    · exact .inr (.inl h)
    · rw [← List.take_append_drop m l, List.mem_append] at h
      exact h.imp id .inr
theorem getD_mem2 {α : Type} {l : List α} {d : α} {i : Nat} (h : i < l.length) : l.getD i d ∈ l := by
  rw [List.getD_eq_getElem?_getD, List.getElem?_eq_getElem h]
  exact List.getElem_mem h
theorem set_getD {α : Type} (l : List α) (m i : Nat) (y d : α) (hm : m < l.length) : (l.set m y).getD i d = if i = m then y else l.getD i d := set_at l d y m i hm
/-- A table with an item put is the table of the entries with one put. -/
theorem tab_put {T : Vu} {pm : List (ByteArray × Vu)} (h : TabOf T pm) (key : ByteArray) (y : Vu) : TabOf (putK T key y) (pset pm key y) := by
  have hlen := h.len
  have hm := find_le T key
  cases hh : hasK T key with
  | true =>
    have hlt := has_lt hh
    have hkey : T.keys.getD (findK T key) ⟨#[]⟩ = key := by
      unfold hasK at hh
      simp only [Bool.and_eq_true, decide_eq_true_eq] at hh
      exact hh.2
    rw [putK_yes0 T key y hh (by omega)]
    have hex : ∃ p ∈ pm, p.1 = key := ⟨_, h.has _ hlt, hkey⟩
    have hps : pset pm key y = pm.map (fun p => if p.1 = key then (key, y) else p) := by unfold pset; rw [if_pos hex]
    have hks : (pset pm key y).map (·.1) = pm.map (·.1) := by
      rw [hps, List.map_map]
      refine List.map_congr_left fun p _ => ?_
      simp only [Function.comp]
      by_cases e : p.1 = key
      · rw [if_pos e]; exact e.symm
      · rw [if_neg e]
    refine ⟨rfl, by show T.keys.length = (T.items.set _ _).length; rw [List.length_set]; exact hlen, h.srt, fun i hi => ?_, fun p hp => ?_, by rw [hks]; exact h.nd⟩
    · have hi : i < T.keys.length := hi
      show (T.keys.getD i ⟨#[]⟩, (T.items.set (findK T key) y).getD i .zero) ∈ _
      rw [set_getD _ _ _ _ _ (by omega), hps]
      by_cases e : i = findK T key
      · rw [if_pos e]
        refine List.mem_map.2 ⟨_, h.has _ hlt, ?_⟩
        rw [if_pos hkey, e, hkey]
      · rw [if_neg e]
        refine List.mem_map.2 ⟨_, h.has i hi, ?_⟩
        rw [if_neg]
        intro hk
        exact e (rs.find_at h.srt hi hk).1.symm
    · have hm2 : p.1 ∈ (pset pm key y).map (·.1) := List.mem_map.2 ⟨p, hp, rfl⟩
      rw [hks] at hm2
      exact (h.mem p.1).2 hm2
  | false =>
    have hno : key ∉ T.keys := fun hx => by
      obtain ⟨i, hi, e⟩ := tab.getD_in (d := (⟨#[]⟩ : ByteArray)) hx
      rw [(rs.find_at h.srt hi e).2] at hh
      cases hh
    have hno2 : ∀ p ∈ pm, p.1 ≠ key := fun p hp e => hno ((h.mem key).2 (List.mem_map.2 ⟨p, hp, e⟩))
    have hps : pset pm key y = pm ++ [(key, y)] := by unfold pset; rw [if_neg (fun ⟨p, hp, e⟩ => hno2 p hp e)]
    have e : putK T key y = .mk 6 false 0 ⟨#[]⟩ (insL T.items (findK T key) y) (insL T.keys (findK T key) key) := by
      unfold putK insL
      rw [hh]
      rfl
    rw [e]
    obtain ⟨b1, b2⟩ := bsr_spec (x := key) h.srt (T.keys.length + 1) 0 T.keys.length (by omega) (by omega) (Nat.le_refl _) (fun k hk => by omega) (fun k hk hk2 => by omega)
    have e5 : findK T key = bsr T.keys key 0 T.keys.length := rfl
    rw [← e5] at b1 b2
    have hl1 := insL_len T.keys (findK T key) key hm
    have hl2 := insL_len T.items (findK T key) y (by omega)
    refine ⟨rfl, by show (insL T.keys _ _).length = (insL T.items _ _).length; omega, srt_ins h.srt hm b1 (fun k hk hk2 => strLt_total (b2 k hk hk2) (fun e => hno (e ▸ getD_mem2 hk2))), fun i hi => ?_, fun p hp => ?_, ?_⟩
    · have hi : i < (insL T.keys (findK T key) key).length := hi
      show ((insL T.keys (findK T key) key).getD i ⟨#[]⟩, (insL T.items (findK T key) y).getD i .zero) ∈ _
      rw [insL_at _ _ _ _ _ hm, insL_at _ _ _ _ _ (by omega), hps, List.mem_append]
      by_cases a : i < findK T key
      · rw [if_pos a, if_pos a]
        exact .inl (h.has i (by omega))
      · rw [if_neg a, if_neg a]
        by_cases d : i = findK T key
        · rw [if_pos d, if_pos d]
          exact .inr (List.mem_singleton.2 rfl)
        · rw [if_neg d, if_neg d]
          exact .inl (h.has (i - 1) (by omega))
    · show p.1 ∈ insL T.keys _ _
      rw [hps, List.mem_append, List.mem_singleton] at hp
      rw [ins_mem]
      rcases hp with hp | rfl
      · exact .inr (h.all p hp)
      · exact .inl rfl
    · rw [hps, List.map_append, List.nodup_append]
      refine ⟨h.nd, by simp, fun a ha b hb => ?_⟩
      obtain ⟨p, hp, rfl⟩ := List.mem_map.1 ha
      simp only [List.map_cons, List.map_nil, List.mem_singleton] at hb
      rw [hb]
      exact hno2 p hp
/-- The first n entries of a table. -/
def zipT (far : Vu) (n : Nat) : List (ByteArray × Vu) := (List.range n).map fun i => (far.keys.getD i ⟨#[]⟩, far.items.getD i .zero)
theorem zip_mem {far : Vu} {n : Nat} {p : ByteArray × Vu} : p ∈ zipT far n ↔ ∃ i, i < n ∧ p = (far.keys.getD i ⟨#[]⟩, far.items.getD i .zero) := by
  unfold zipT
  rw [List.mem_map]
  constructor
  · rintro ⟨i, hi, rfl⟩
    exact ⟨i, List.mem_range.1 hi, rfl⟩
  · rintro ⟨i, hi, rfl⟩
    exact ⟨i, List.mem_range.2 hi, rfl⟩
theorem zip_step {far : Vu} (hs : Srt far.keys) {n : Nat} (hn : n < far.keys.length) : pset (zipT far n) (far.keys.getD n ⟨#[]⟩) (far.items.getD n .zero) = zipT far (n + 1) := by
  have hno : ¬ ∃ p ∈ zipT far n, p.1 = far.keys.getD n ⟨#[]⟩ := by
    rintro ⟨p, hp, e⟩
    obtain ⟨i, hi, rfl⟩ := zip_mem.1 hp
    have := hs i n hi hn
    rw [show far.keys.getD i ⟨#[]⟩ = far.keys.getD n ⟨#[]⟩ from e, strLt_irrefl] at this
    cases this
  unfold pset
  rw [if_neg hno]
  unfold zipT
  rw [List.range_succ, List.map_append]
  rfl
theorem zip_tab {far : Vu} (hf : far = .mk 6 false 0 ⟨#[]⟩ far.items far.keys) (hl : far.keys.length = far.items.length) (hs : Srt far.keys) : TabOf far (zipT far far.keys.length) := by
  refine ⟨hf, hl, hs, fun i hi => zip_mem.2 ⟨i, hi, rfl⟩, fun p hp => ?_, ?_⟩
  · obtain ⟨i, hi, rfl⟩ := zip_mem.1 hp
    exact getD_mem2 hi
  · unfold zipT
    rw [List.map_map]
    refine List.pairwise_map.2 ?_
    refine List.Pairwise.imp_of_mem (fun {a b} ha hb (hab : a ≠ b) e => hab ?_) List.nodup_range
    have ha := List.mem_range.1 ha
    have hb := List.mem_range.1 hb
    have e : far.keys.getD a ⟨#[]⟩ = far.keys.getD b ⟨#[]⟩ := e
    exact ((rs.find_at hs ha rfl).1.symm.trans (by rw [e])).trans (rs.find_at hs hb rfl).1
/-- What the entries say of a key is what the far table says. -/
def FarAt (far : Vu) (pm : List (ByteArray × Vu)) (key : ByteArray) : Prop := (hasK far key = true → (key, far.items.getD (findK far key) .zero) ∈ pm) ∧ (hasK far key = false → ∀ p ∈ pm, p.1 ≠ key)
theorem far_zip {far : Vu} (hs : Srt far.keys) (key : ByteArray) : FarAt far (zipT far far.keys.length) key := by
  refine ⟨fun h => ?_, fun h p hp e => ?_⟩
  · refine zip_mem.2 ⟨findK far key, has_lt h, ?_⟩
    unfold hasK at h
    simp only [Bool.and_eq_true, decide_eq_true_eq] at h
    rw [h.2]
  · obtain ⟨i, hi, rfl⟩ := zip_mem.1 hp
    rw [(rs.find_at hs hi e).2] at h
    cases h
theorem far_set {far : Vu} {pm : List (ByteArray × Vu)} {key k0 : ByteArray} {v : Vu} (h : FarAt far pm key) (hne : key ≠ k0) : FarAt far (pset pm k0 v) key := by
  have hsub : ∀ p : ByteArray × Vu, p.1 = key → (p ∈ pset pm k0 v ↔ p ∈ pm) := fun p hp => by
    unfold pset
    split
    · rw [List.mem_map]
      constructor
      · rintro ⟨q, hq, rfl⟩
        by_cases e : q.1 = k0
        · rw [if_pos e] at hp
          exact absurd hp.symm hne
        · rw [if_neg e]
          exact hq
      · intro hm
        exact ⟨p, hm, if_neg (fun e => hne (hp.symm.trans e))⟩
    · rw [List.mem_append, List.mem_singleton]
      constructor
      · rintro (h | rfl)
        · exact h
        · exact absurd hp.symm hne
      · exact .inl
  exact ⟨fun hx => (hsub _ rfl).2 (h.1 hx), fun hx p hp e => h.2 hx p ((hsub p e).1 hp) e⟩
theorem putK_len (T : Vu) (key : ByteArray) (y : Vu) (hl : T.keys.length = T.items.length) : (putK T key y).keys.length = (putK T key y).items.length ∧ (putK T key y).keys.length ≤ T.keys.length + 1 := by
  have hm := find_le T key
  cases hh : hasK T key with
  | true =>
    have hlt := has_lt hh
    rw [putK_yes0 T key y hh (by omega)]
    refine ⟨?_, ?_⟩
    · show T.keys.length = (T.items.set _ _).length
      rw [List.length_set]; exact hl
    · show T.keys.length ≤ _
      omega
  | false =>
    have e : putK T key y = .mk 6 false 0 ⟨#[]⟩ (insL T.items (findK T key) y) (insL T.keys (findK T key) key) := by
      unfold putK insL
      rw [hh]
      rfl
    rw [e]
    have h1 := insL_len T.keys (findK T key) key hm
    have h2 := insL_len T.items (findK T key) y (by omega)
    refine ⟨?_, ?_⟩
    · show (insL T.keys _ _).length = (insL T.items _ _).length
      omega
    · show (insL T.keys _ _).length ≤ _
      omega
end mg
end Go.Proofs.YtgdoelfajfjopaaGreatDoor
namespace Go.Proofs.YtgdoelfajfjopaaGreatDoor
open Go.RowKit
set_option linter.unusedVariables false
set_option linter.unusedSimpArgs false
namespace sw
open cr se ap so tab mg
theorem pset_mem {pm : List (ByteArray × Vu)} {k : ByteArray} {v : Vu} {p : ByteArray × Vu} : p ∈ pset pm k v ↔ p = (k, v) ∨ (p ∈ pm ∧ p.1 ≠ k) := by
  unfold pset
  split
  · rename_i h
    obtain ⟨q, hq, hk⟩ := h
    rw [List.mem_map]
    constructor
    · rintro ⟨r, hr, rfl⟩
      by_cases e : r.1 = k
      · rw [if_pos e]; exact .inl rfl
      · rw [if_neg e]; exact .inr ⟨hr, e⟩
    · rintro (rfl | ⟨hp, e⟩)
      · exact ⟨q, hq, if_pos hk⟩
      · exact ⟨p, hp, if_neg e⟩
  · rename_i h
    rw [List.mem_append, List.mem_singleton]
    constructor
    · rintro (hp | rfl)
      · exact .inr ⟨hp, fun e => h ⟨p, hp, e⟩⟩
      · exact .inl rfl
    · rintro (rfl | ⟨hp, _⟩)
      · exact .inr rfl
      · exact .inl hp
theorem pset_swap {pm : List (ByteArray × Vu)} {a b : ByteArray} {x y : Vu} (hne : a ≠ b) (p : ByteArray × Vu) : p ∈ pset (pset pm a x) b y ↔ p ∈ pset (pset pm b y) a x := by
  rw [pset_mem, pset_mem, pset_mem, pset_mem]
  constructor
  · rintro (rfl | ⟨rfl | ⟨h1, h2⟩, h3⟩)
    · exact .inr ⟨.inl rfl, fun e => hne e.symm⟩
    · exact .inl rfl
    · exact .inr ⟨.inr ⟨h1, h3⟩, h2⟩
  · rintro (rfl | ⟨rfl | ⟨h1, h2⟩, h3⟩)
    · exact .inr ⟨.inl rfl, hne⟩
    · exact .inl rfl
    · exact .inr ⟨.inr ⟨h1, h3⟩, h2⟩
theorem tab_congr {T : Vu} {pm pm' : List (ByteArray × Vu)} (h : TabOf T pm) (he : ∀ p, p ∈ pm ↔ p ∈ pm') (hn : (pm'.map (·.1)).Nodup) : TabOf T pm' :=
  ⟨h.form, h.len, h.srt, fun i hi => (he _).1 (h.has i hi), fun p hp => h.all p ((he p).2 hp), hn⟩
theorem tab_swap {T : Vu} {pm : List (ByteArray × Vu)} (h : TabOf T pm) {a b : ByteArray} (x y : Vu) (hne : a ≠ b) : TabOf (putK (putK T a x) b y) (pset (pset pm b y) a x) :=
  tab_congr (tab_put (tab_put h a x) b y) (pset_swap hne) (tab_put (tab_put h b y) a x).nd
def emp : Vu := .mk 6 false 0 ⟨#[]⟩ [] []
theorem tab_emp : TabOf emp [] := ⟨rfl, rfl, fun i j _ hj => absurd hj (Nat.not_lt_zero _), fun i hi => absurd hi (Nat.not_lt_zero _), fun p hp => (by cases hp), List.nodup_nil⟩
def txt (s : ByteArray) : Vu := .mk 3 false 0 s [] []
def tru (b : Bool) : Vu := .mk 1 b 0 ⟨#[]⟩ [] []
def whl (n : Int) : Vu := .mk 2 false n ⟨#[]⟩ [] []
def lst (l : List Vu) : Vu := .mk 5 false 0 ⟨#[]⟩ l []
/-- The name of a kind. -/
def kname (k : Int) : ByteArray := if k = -1 then (⟨#[97, 110, 121]⟩ : ByteArray) else rs.names.getD k.toNat ⟨#[]⟩
def t1 (f : Fd) : Vu := putK (putK (putK emp (⟨#[114, 111, 117, 116, 101]⟩ : ByteArray) (txt f.route)) (⟨#[107, 105, 110, 100]⟩ : ByteArray) (txt (kname f.kind))) (⟨#[110, 101, 101, 100]⟩ : ByteArray) (tru f.need)
def t2 (f : Fd) : Vu := if f.bounded = true then putK (putK (t1 f) (⟨#[109, 97, 120]⟩ : ByteArray) (whl f.hi)) (⟨#[109, 105, 110]⟩ : ByteArray) (whl f.lo) else t1 f
def t3 (f : Fd) : Vu := if 0 < f.oneOf.length then putK (t2 f) (⟨#[111, 110, 101, 111, 102]⟩ : ByteArray) (lst (f.oneOf.map txt)) else t2 f
/-- A field as a value. -/
def fieldV (f : Fd) : Vu := if f.dflt.kind ≠ 0 then putK (t3 f) (⟨#[100, 101, 102, 97, 117, 108, 116]⟩ : ByteArray) f.dflt else t3 f
def p1 (f : Fd) : List (ByteArray × Vu) := pset (pset (pset [] (⟨#[114, 111, 117, 116, 101]⟩ : ByteArray) (txt f.route)) (⟨#[107, 105, 110, 100]⟩ : ByteArray) (txt (kname f.kind))) (⟨#[110, 101, 101, 100]⟩ : ByteArray) (tru f.need)
def p2 (f : Fd) : List (ByteArray × Vu) := if f.bounded = true then pset (pset (p1 f) (⟨#[109, 105, 110]⟩ : ByteArray) (whl f.lo)) (⟨#[109, 97, 120]⟩ : ByteArray) (whl f.hi) else p1 f
def p3 (f : Fd) : List (ByteArray × Vu) := if 0 < f.oneOf.length then pset (p2 f) (⟨#[111, 110, 101, 111, 102]⟩ : ByteArray) (lst (f.oneOf.map txt)) else p2 f
/-- A field's entries. -/
def fieldP (f : Fd) : List (ByteArray × Vu) := if f.dflt.kind ≠ 0 then pset (p3 f) (⟨#[100, 101, 102, 97, 117, 108, 116]⟩ : ByteArray) f.dflt else p3 f
theorem tab1 (f : Fd) : TabOf (t1 f) (p1 f) := tab_put (tab_put (tab_put tab_emp _ _) _ _) _ _
theorem tab2 (f : Fd) : TabOf (t2 f) (p2 f) := by
  unfold t2 p2
  split
  · exact tab_swap (tab1 f) _ _ (by decide)
  · exact tab1 f
theorem tab3 (f : Fd) : TabOf (t3 f) (p3 f) := by
  unfold t3 p3
  split
  · exact tab_put (tab2 f) _ _
  · exact tab2 f
theorem tabF (f : Fd) : TabOf (fieldV f) (fieldP f) := by
  unfold fieldV fieldP
  split
  · exact tab_put (tab3 f) _ _
  · exact tab3 f
/-- A schema as a value. -/
def schV (l : List Fd) (b : Bool) : Vu := putK (putK emp (⟨#[102, 105, 101, 108, 100, 115]⟩ : ByteArray) (lst (l.map fieldV))) (⟨#[115, 116, 114, 105, 99, 116]⟩ : ByteArray) (tru b)
def schP (l : List Fd) (b : Bool) : List (ByteArray × Vu) := pset (pset [] (⟨#[115, 116, 114, 105, 99, 116]⟩ : ByteArray) (tru b)) (⟨#[102, 105, 101, 108, 100, 115]⟩ : ByteArray) (lst (l.map fieldV))
theorem tabS (l : List Fd) (b : Bool) : TabOf (schV l b) (schP l b) := tab_swap tab_emp _ _ (by decide)
/-- What SchemaValue answers. -/
def schR (l : List Fd) (b : Bool) : Vu × Int := if schemaE l ≠ 0 then (.zero, schemaE l) else if checkE (schV l b) ≠ 0 then (.zero, checkE (schV l b)) else (schV l b, 0)
end sw
end Go.Proofs.YtgdoelfajfjopaaGreatDoor
