/-
  A slice that the call appends to, of any element type, however it began (nil, a conversion's row): one notion, 'Buf'; append of cells that lie somewhere, of a string's bytes; what it reads as.
-/
import Derived.Test.YtelddhhhgjfmeaaDoorByt
import Derived.Deep.Upon
import Derived.Deep.AppendSrc
import Derived.Lib.SlBytesConst
namespace Go.Proofs.YtelddhhhgjfmeaaDoor
open Go.RowKit Go.Deep

theorem tape_setCells (b : Nat) : ∀ (vs : List Value) (o : Nat) (w : World), (w.setCells b o vs).tape = w.tape
  | [], _, _ => rfl
  | v :: r, o, w => by
    show ((w.setCell ⟨b, o, none⟩ v).setCells b (o + 1) r).tape = w.tape
    rw [tape_setCells b r (o + 1)]
    unfold World.setCell
    repeat' split
    all_goals rfl

/-- The value is a slice of n elements that read as the cells xs, in a row of the call's own (block B or later), its spare writable. -/
structure Buf (B size : Nat) (w : World) (v : Value) (n : Nat) (xs : List Value) : Prop where
  len : xs.length = n * size
  val : (v = .slice none 0 0 ∧ n = 0) ∨ ∃ g c, v = .slice (some ⟨g, 0, none⟩) n c ∧ B ≤ g ∧ g < w.heap.size ∧ n ≤ c ∧ c ≤ maxLen ∧ (∀ j, j < n * size → w.cell? ⟨g, j, none⟩ = xs[j]?) ∧
    (∀ j, j < c * size → (w.cell? ⟨g, j, none⟩).isSome = true ∧ w.frozen? ⟨g, j, none⟩ = false)

section
variable {B size : Nat} {w w' : World} {v : Value} {n : Nat} {xs : List Value}

theorem Buf.nil (B size : Nat) (w : World) : Buf B size w (.slice none 0 0) 0 [] := ⟨by simp, .inl ⟨rfl, rfl⟩⟩
theorem Buf.shape (h : Buf B size w v n xs) : ∃ A c, v = .slice A n c := by
  rcases h.val with ⟨rfl, rfl⟩ | ⟨g, c, rfl, _⟩
  · exact ⟨_, _, rfl⟩
  · exact ⟨_, _, rfl⟩
theorem Buf.carry (h : Buf B size w v n xs) (hs : w.heap.size ≤ w'.heap.size) (hb : ∀ g, B ≤ g → g < w.heap.size → v.ownBlock = some g → w'.heap[g]? = w.heap[g]?) : Buf B size w' v n xs := by
  refine ⟨h.len, ?_⟩
  rcases h.val with ⟨rfl, rfl⟩ | ⟨g, c, rfl, h1, h2, h3, h4, h5, h6⟩
  · exact .inl ⟨rfl, rfl⟩
  · have e := hb g h1 h2 rfl
    exact .inr ⟨g, c, rfl, h1, by omega, h3, h4, fun j hj => (World.cell?_of_block (a := ⟨g, j, none⟩) e).trans (h5 j hj), fun j hj => ⟨by rw [World.cell?_of_block (a := ⟨g, j, none⟩) e]; exact (h6 j hj).1, (World.frozen?_of_block (a := ⟨g, j, none⟩) e).trans (h6 j hj).2⟩⟩
theorem Buf.below (h : Buf B size w v n xs) (hb : Below w.heap.size w w') : Buf B size w' v n xs := h.carry hb.size (fun g _ hg _ => hb.block g hg)
theorem Buf.alloc (h : Buf B size w v n xs) (o : Obj) : Buf B size (w.alloc o) v n xs := h.below (Below.alloc (Below.refl _ _) (Nat.le_refl _) _)
theorem Buf.drew (h : Buf B size w v n xs) : Buf B size w.drew v n xs := h.below (Below.drew (Below.refl _ _))
theorem Buf.drewN (h : Buf B size w v n xs) (k : Nat) : Buf B size (w.drewN k) v n xs := h.carry (Nat.le_refl _) (fun _ _ _ _ => rfl)
theorem Buf.kept {row : Option Nat} (h : Buf B size w v n xs) (hg : w.grownBy w' row) (hne : v.ownBlock ≠ row ∨ row = none) : Buf B size w' v n xs :=
  h.carry hg.size (fun g _ h1 h2 => hg.block g h1 (by
    rcases hne with hne | rfl
    · rw [← h2]; exact hne
    · simp))

theorem Buf.rd {α : Type} {f : α → List Value} {l : List α} {A : Option Addr} {c : Nat} (h : Buf B size w (.slice A n c) n (l.flatMap f)) (hf : ∀ x, (f x).length = size) (hs : 0 < size) : Rd w size f A l ∧ l.length = n := by
  have hl : l.length = n := by
    have h1 := h.len
    rw [flatMap_len hf] at h1
    exact Nat.eq_of_mul_eq_mul_right hs h1
  refine ⟨?_, hl⟩
  rcases h.val with ⟨h1, h0⟩ | ⟨g, c', h1, _, _, _, _, h5, _⟩
  · exact .inl (List.eq_nil_of_length_eq_zero (by omega))
  · injection h1 with hA _ _
    subst hA
    refine .inr ⟨g, 0, rfl, fun k x hx j v hv => ?_⟩
    have hk : k < l.length := (List.getElem?_eq_some_iff.1 hx).1
    have hj : j < size := by rw [← hf x]; exact (List.getElem?_eq_some_iff.1 hv).1
    have hb : k * size + j < n * size := by
      have : (k + 1) * size ≤ n * size := Nat.mul_le_mul_right _ (by omega)
      rw [Nat.succ_mul] at this
      omega
    have hc := h5 (k * size + j) hb
    rw [flatMap_at hf l k x hx j hj, hv] at hc
    rw [Nat.zero_add]
    exact hc
end

section
variable {P : Program} {t e : TypeId} {z : Value} {size bytes : Nat}

theorem run_append_buf (T : SlTy P t e z size bytes) {B : Nat} {w : World} {v : Value} {n : Nat} {xs : List Value} (h : Buf B size w v n xs) (hB : B ≤ w.heap.size) (tx ty : TypeId) (x : Value) (m : Nat) (news : List Value) (hs : Src P size tx x m news w)
    (hby : (n + m) * bytes ≤ 140737488355328) :
    ∃ v' w', (Builtin.append_ #[t, tx] ty #[v, x]).run P w = .ok v' w' ∧ Buf B size w' v' (n + m) (xs ++ news) ∧ w.grownBy w' v.ownBlock ∧ (v'.ownBlock = v.ownBlock ∨ ∃ g, v'.ownBlock = some g ∧ w.heap.size ≤ g) := by
  obtain ⟨i, hi, hz, hsz, hbt⟩ := T.info
  subst hsz hbt
  have hnl := hs.newsLen
  have hpos := T.bpos
  have h63 : n + m ≤ 140737488355328 := Nat.le_trans (Nat.le_mul_of_pos_right (n + m) hpos) hby
  have h63' : n + m ≤ maxLen := by unfold maxLen; omega
  have hxs := h.len
  have hlen : (xs ++ news).length = (n + m) * i.size := by rw [List.length_append, hxs, hnl, Nat.add_mul]
  have grow : ∀ (bs : Option Addr) (sc : Nat), v = .slice bs n sc → sc < n + m → (Builtin.firstCells i.size n (.slice bs n sc)).run P w.drew = .ok xs.toArray w.drew →
      ∃ v' w', (Builtin.append_ #[t, tx] ty #[v, x]).run P w = .ok v' w' ∧ Buf B i.size w' v' (n + m) (xs ++ news) ∧ w.grownBy w' v.ownBlock ∧ (v'.ownBlock = v.ownBlock ∨ ∃ g, v'.ownBlock = some g ∧ w.heap.size ≤ g) := by
    rintro bs sc rfl hg hold
    have hrun := run_append_grow_src (P := P) w t tx ty e i z T.und hi hz bs n sc xs hold x m news hs hg (by omega) (growslice_fits hg hby)
    have hge := grownCap_ge w (n + m) sc e
    have hcm := grownCap_le_maxLen w (n + m) sc e h63'
    have hblk : ∀ k, k < w.heap.size → (w.drew.alloc (.cells ((xs ++ news).toArray ++ Builtin.zeroCells z.cells (grownCap w (n + m) sc e - (n + m))) e)).heap[k]? = w.heap[k]? := fun k hk => Below.heap_alloc w.drew _ k hk
    have hsz : ((xs ++ news).toArray ++ Builtin.zeroCells z.cells (grownCap w (n + m) sc e - (n + m))).size = grownCap w (n + m) sc e * i.size := by
      rw [Array.size_append, List.size_toArray, hlen, size_zeroCells, T.zs, ← Nat.add_mul]
      congr 1
      omega
    refine ⟨_, _, hrun, ⟨hlen, .inr ⟨w.heap.size, _, rfl, hB, by simp, hge, hcm, fun j hj => ?_, fun j hj => ⟨?_, ?_⟩⟩⟩, ⟨rfl, rfl, rfl, by simp, fun k hk _ => hblk k hk⟩, .inr ⟨_, rfl, Nat.le_refl _⟩⟩
    · have e1 : (w.drew.alloc (.cells ((xs ++ news).toArray ++ Builtin.zeroCells z.cells (grownCap w (n + m) sc e - (n + m))) e)).cell? ⟨w.heap.size, j, none⟩ = _ := World.cell?_alloc_new w.drew _ _ j
      rw [e1, Array.getElem?_append_left (by simp only [List.size_toArray]; rw [hlen]; exact hj), List.getElem?_toArray]
    · have e1 : (w.drew.alloc (.cells ((xs ++ news).toArray ++ Builtin.zeroCells z.cells (grownCap w (n + m) sc e - (n + m))) e)).cell? ⟨w.heap.size, j, none⟩ = _ := World.cell?_alloc_new w.drew _ _ j
      rw [e1, Array.getElem?_eq_getElem (by rw [hsz]; exact hj)]
      rfl
    · exact World.frozen?_alloc_new w.drew _ _ j
  rcases h.val with ⟨rfl, rfl⟩ | ⟨g, c, rfl, h1, h2, h3, h4, h5, h6⟩
  · obtain rfl : xs = [] := List.eq_nil_of_length_eq_zero (by simpa using hxs)
    rcases Nat.eq_zero_or_pos m with h0 | h0
    · subst h0
      obtain rfl : news = [] := List.eq_nil_of_length_eq_zero (by simpa using hnl)
      exact ⟨_, _, run_append_nothing (P := P) w t tx ty e i T.und hi none 0 0 (Nat.le_refl _) x hs, by simpa using h, ⟨rfl, rfl, rfl, Nat.le_refl _, fun _ _ _ => rfl⟩, .inl rfl⟩
    · exact grow none 0 rfl (by omega) (run_firstCells_none (P := P) w.drew i.size 0 0 0)
  · by_cases hfit : n + m ≤ c
    · have hroom : (n + m) * i.size ≤ c * i.size := Nat.mul_le_mul_right _ hfit
      rw [Nat.add_mul] at hroom
      have hsome : ∀ j, j < news.length → (w.cell? ⟨g, 0 + n * i.size + j, none⟩).isSome = true := fun j hj => by rw [Nat.zero_add]; exact (h6 (n * i.size + j) (by omega)).1
      have hrun := run_append_room_src (P := P) w t tx ty e i T.und hi g 0 n c x m news hs hfit hsome (fun j hj => by rw [Nat.zero_add]; exact (h6 (n * i.size + j) (by omega)).2)
      have hk := World.keptBut_setCells g (may := fun p => ∃ j, p = .cell g j) news (0 + n * i.size) w (fun j _ => ⟨_, rfl⟩)
      refine ⟨_, _, hrun, ⟨hlen, .inr ⟨g, c, rfl, h1, Nat.lt_of_lt_of_le h2 hk.size, hfit, h4, fun j hj => ?_, fun j hj => ⟨?_, ?_⟩⟩⟩, ⟨World.os_setCells _ _ _ _, tape_setCells _ _ _ _, World.output_setCells _ _ _ _, hk.size, fun k hk' hne => World.heap_setCells_other w g _ news hk' (fun e => hne (by rw [e]; rfl))⟩, .inl rfl⟩
      · by_cases hj1 : j < xs.length
        · rw [World.cell?_setCells_out g _ _ _ _ (fun _ _ => Or.inl (by show j < 0 + n * i.size; omega)), List.getElem?_append_left hj1]
          exact h5 j (by omega)
        · rw [Nat.add_mul] at hj
          have hin := World.cell?_setCells_in g news (0 + n * i.size) w hsome (j - xs.length) (by omega)
          rw [show 0 + n * i.size + (j - xs.length) = j by omega] at hin
          rw [hin, List.getElem?_append_right (by omega), List.getElem?_eq_getElem (by omega)]
      · by_cases hj1 : j < 0 + n * i.size ∨ 0 + n * i.size + news.length ≤ j
        · rw [World.cell?_setCells_out g _ _ _ _ (fun _ _ => hj1)]
          exact (h6 j hj).1
        · have hin := World.cell?_setCells_in g news (0 + n * i.size) w hsome (j - n * i.size) (by omega)
          rw [show 0 + n * i.size + (j - n * i.size) = j by omega] at hin
          rw [hin]; rfl
      · rw [World.frozen?_setCells]
        exact (h6 j hj).2
    · refine grow (some ⟨g, 0, none⟩) c rfl (by omega) (run_firstCells_some (P := P) w.drew i.size n ⟨g, 0, none⟩ n c xs hxs (fun j u hu => ?_))
      have hj : j < n * i.size := by rw [← hxs]; exact (List.getElem?_eq_some_iff.1 hu).1
      have := h5 j hj
      rw [hu] at this
      have hadd : (⟨g, 0, none⟩ : Addr).add j = ⟨g, j, none⟩ := by unfold Addr.add; split <;> simp_all
      rw [hadd]; exact this

/-- For the walk: at the append; what is appended lies somewhere ('Src.ofSlice', 'Src.ofString', 'Src.ofNil'). -/
theorem bufApp (T : SlTy P t e z size bytes) (w : World) {ops : Array Oper} {rest : List Oper} {o : Oper} {a : Act} {Q : Exit → Act → World → Prop} (hgd : o.guard = none) (s x : Operand) (tx : TypeId)
    (ho : o.op = .call { callee := .builtin .append, args := #[s, x], argTypes := #[t, tx] }) (B : Nat) {v : Value} {n : Nat} {xs : List Value} (hv : a.eval s = v) (h : Buf B size w v n xs) (hB : B ≤ w.heap.size)
    (xv : Value) (m : Nat) (news : List Value) (hx : a.eval x = xv) (hs : Src P size tx xv m news w) (hby : (n + m) * bytes ≤ 140737488355328)
    (hK : ∀ v' w', Buf B size w' v' (n + m) (xs ++ news) → Below B w w' → w.grownBy w' v.ownBlock → (v'.ownBlock = v.ownBlock ∨ ∃ g, v'.ownBlock = some g ∧ w.heap.size ≤ g) → wpList P ops Q rest (a.put o.dst v') w') : wpList P ops Q (o :: rest) a w := by
  refine wpList_plain hgd fun K hK' => ?_
  obtain ⟨v', w', hrun, h1, h2, h3⟩ := run_append_buf T h hB tx o.type xv m news hs hby
  have hb' : Below B w w' := (Below.refl B w).grown h2 hB (fun k hk => by
    rcases h.val with ⟨rfl, _⟩ | ⟨g, c, rfl, h4, _⟩
    · cases hk
    · injection hk with hk; simp at hk; omega)
  unfold Oper.wp
  simp [execOp, ho, resolve, invoke, builtin, hv, hx, hrun, Result.andThen]
  exact hK' _ _ (hK v' w' h1 hb' h2 h3)
end

/-- 'append(out, x..)': the literal lies in the block just laid. -/
theorem Src.lit {P : Program} {t e : TypeId} {size : Nat} (ht : P.underlying t = some (.slice e)) (w : World) (H : Nat) (hH : w.heap.size = H) (cs : Array Value) (m c : Nat) (hl : cs.size = m * size) (h1 : cs.toList.all Value.oneCell' = true) (te : TypeId) :
    Src P size t (.slice (some ⟨H, 0, none⟩) m c) m cs.toList (w.alloc (.cells cs te)) := by
  subst hH
  refine Src.ofSlice _ ht ⟨w.heap.size, 0, none⟩ m c cs.toList (by simpa using hl) (fun j u hu => ?_) (List.all_eq_true.1 h1)
  have hadd : (⟨w.heap.size, 0, none⟩ : Addr).add j = ⟨w.heap.size, j, none⟩ := by unfold Addr.add; split <;> simp_all
  rw [hadd, World.cell?_alloc_new]
  simpa using hu

/-- '[]byte(s)'. -/
theorem buf_bytes (w : World) (e : TypeId) (s : ByteArray) (hs : s.size ≤ maxLen) (B : Nat) (hB : B ≤ w.heap.size) :
    Buf B 1 (Lib.bytesWorld w e s) (.slice (some ⟨w.heap.size, 0, none⟩) s.size (grownCap w s.size 0 e)) s.size (bcells s.data.toList) := by
  have hsz : s.data.toList.length = s.size := Array.length_toList
  have hge := grownCap_ge w s.size 0 e
  have hcs : (Lib.bytesCells w e s).size = grownCap w s.size 0 e := by
    unfold Lib.bytesCells
    rw [Array.size_append, Array.size_map, Array.size_replicate]
    have : s.data.size = s.size := rfl
    omega
  refine ⟨by rw [bcells_len, hsz, Nat.mul_one], .inr ⟨w.heap.size, _, rfl, hB, by rw [Lib.bytesWorld_size]; omega, hge, grownCap_le_maxLen w _ _ e hs, fun j hj => ?_, fun j hj => ⟨?_, ?_⟩⟩⟩
  · rw [Nat.mul_one] at hj
    rw [Lib.bytesWorld_cell w e s j hj, bcells_at (by omega)]
    simp [List.getD, hj]
  · simp only [World.cell?, Lib.bytesWorld_at_new]
    rw [Nat.mul_one] at hj
    simp [hcs, hj]
  · rw [Nat.mul_one] at hj
    simp only [World.frozen?, Lib.bytesWorld_at_new]
    simp [hcs]
    omega
theorem below_bytes (w : World) (e : TypeId) (s : ByteArray) : Below w.heap.size w (Lib.bytesWorld w e s) :=
  ⟨by simp [Lib.bytesWorld, World.freeze] <;> rfl, by simp [Lib.bytesWorld, World.freeze] <;> rfl, by simp [Lib.bytesWorld, World.freeze] <;> rfl, by rw [Lib.bytesWorld_size]; omega, fun k hk => Lib.bytesWorld_at_old w e s k hk⟩

set_option maxRecDepth 100000 in
/-- 'string(out)'. -/
theorem buf_str {B : Nat} {w : World} {n c : Nat} {A : Option Addr} {l : List UInt8} (h : Buf B 1 w (.slice A n c) n (bcells l)) :
    (convert 82 9 (.slice A n c)).run Tryd.prog w = .ok (.string (bstr l)) w := by
  have hl : l.length = n := by have := h.len; rw [bcells_len, Nat.mul_one] at this; exact this
  rcases h.val with ⟨h1, h0⟩ | ⟨g, c', h1, _, _, _, _, h5, _⟩
  · obtain rfl : l = [] := List.eq_nil_of_length_eq_zero (by omega)
    injection h1 with h1 _ _
    subst h1
    rw [run_convert_bytes_nil w 82 5 Tryd.underlying82 Tryd.underlying5 _ _ _ Tryd.underlying9]
    rfl
  · injection h1 with hA _ _
    subst hA
    rw [run_convert_bytes_arg w 82 5 Tryd.underlying82 Tryd.underlying5 g 0 n c (l.map fun b => (b.toNat : Int)) (by simpa using hl) (fun i hi => ?_) _ Tryd.underlying9, strOfNums_bytes]
    have hc := h5 i (by omega)
    rw [Nat.zero_add, hc, bcells_at (by omega)]
    simp [List.getElem?_map, List.getElem?_eq_getElem (show i < l.length by omega)]
end Go.Proofs.YtelddhhhgjfmeaaDoor
