/- Ops, part B: slices. -/
import Derived.Test.YtpjfebedfejmgaaOpsA
import Derived.Deep.AppendSrc
namespace Go.Dec
set_option linter.unusedVariables false
set_option linter.unusedSimpArgs false

/-- A slice that owns its array: nil, or cells of elements of T (sz cells each) from a place of a block on, with room up to its capacity. -/
def slc (T : TypeId) (sz : Nat) (l : Sl) (cs : List Value) : HP := fun p =>
  (l.a = none ∧ l.len = 0 ∧ l.cap = 0 ∧ cs = []) ∨
  ∃ b off arr fr, l.a = some ⟨b, off, none⟩ ∧ p b = some (.cells arr T fr) ∧ cs.length = l.len * sz ∧ l.len ≤ l.cap ∧ off + l.cap * sz ≤ arr.size ∧
    (∀ i, i < cs.length → arr[off + i]? = cs[i]?) ∧ unfrozen fr off (l.cap * sz)

/-- A slice whose cells may be read. -/
def Rd (w : World) (sz : Nat) (l : Sl) (cs : List Value) : Prop :=
  cs.length = l.len * sz ∧ (l.len = 0 ∨ ∃ b off arr T fr, l.a = some ⟨b, off, none⟩ ∧ w.heap[b]? = some (.cells arr T fr) ∧ ∀ i, i < cs.length → arr[off + i]? = cs[i]?)

section
variable {P : Program} {w : World} {l : List HP} {Q : Post} {S : World → Prop} {T : TypeId} {sz : Nat} {x y : Sl} {cs ds : List Value}

theorem Sat.rd (h : Sat w (slc T sz x cs :: l)) : Rd w sz x cs := by
  obtain ⟨p1, p2, h1, h2, hd, hA, hl⟩ := h
  rcases hA with ⟨ha, hl0, hc0, rfl⟩ | ⟨b, off, arr, fr, ha, hb, hlen, hle, hsz, hcs, hf⟩
  · exact ⟨by simp [hl0], .inl hl0⟩
  · exact ⟨hlen, .inr ⟨b, off, arr, T, fr, ha, h1 b _ hb, hcs⟩⟩

theorem slc_nil (T : TypeId) (sz : Nat) : ∀ p, slc T sz ⟨none, 0, 0⟩ [] p := fun p => .inl ⟨rfl, rfl, rfl, rfl⟩

theorem Sat.slc_nil (h : Sat w l) : Sat w (slc T sz ⟨none, 0, 0⟩ [] :: l) :=
  ⟨⟨fun _ => none, World.env' w⟩, World.ph w, ⟨(fun _ _ h => by cases h), rfl⟩, PH.sub_refl _, (fun _ => Or.inl rfl), Dec.slc_nil T sz _, h⟩

/-- A block that is all a slice's. -/
theorem Sat.slc_of {b : Nat} {arr : Array Value} {n : Nat} (h : Sat w (pt b (.cells arr T) :: l)) (hn : arr.size = n * sz) : Sat w (slc T sz ⟨some ⟨b, 0, none⟩, n, n⟩ arr.toList :: l) :=
  h.imp fun p hp => .inr ⟨b, 0, arr, (0, 0), rfl, hp, by simp [hn], Nat.le_refl _, by simp [hn], fun i _ => by simp, unfrozen_zero _ _⟩

theorem getElem?_putCells : ∀ (vs : List Value) {arr : Array Value} {o i : Nat}, o + vs.length ≤ arr.size →
    (putCells arr o vs)[i]? = if o ≤ i ∧ i < o + vs.length then vs[i - o]? else arr[i]?
  | [], arr, o, i, h => by simp only [putCells, List.length_nil, Nat.add_zero]; rw [if_neg (by omega)]
  | v :: r, arr, o, i, h => by
    simp only [List.length_cons] at h
    simp only [putCells, List.length_cons]
    rw [getElem?_putCells r (by simp; omega), Array.getElem?_setIfInBounds]
    by_cases h1 : o + 1 ≤ i ∧ i < o + 1 + r.length
    · rw [if_pos h1, if_pos (by omega), show i - o = (i - (o + 1)) + 1 by omega, List.getElem?_cons_succ]
    · rw [if_neg h1]
      by_cases h2 : o = i
      · subst h2
        rw [if_pos rfl, if_pos (by omega), if_pos (by omega)]
        simp
      · rw [if_neg h2, if_neg (by omega)]

theorem size_putCells : ∀ (vs : List Value) {arr : Array Value} {o : Nat}, (putCells arr o vs).size = arr.size
  | [], arr, o => rfl
  | v :: r, arr, o => by simp only [putCells]; rw [size_putCells r]; simp

theorem setCells_eq {b : Nat} {T' : TypeId} {fr : Nat × Nat} : ∀ (vs : List Value) {w : World} {arr : Array Value} {o : Nat}, w.heap[b]? = some (.cells arr T' fr) →
    w.setCells b o vs = setB w b (.cells (putCells arr o vs) T' fr)
  | [], w, arr, o, hb => by
    simp only [World.setCells, putCells]
    unfold setB
    have hlt : b < w.heap.size := (Array.getElem?_eq_some_iff.1 hb).1
    have : w.heap.setIfInBounds b (.cells arr T' fr) = w.heap := by
      apply Array.ext_getElem?
      intro j
      rw [Array.getElem?_setIfInBounds]
      by_cases hj : b = j
      · subst hj
        have hg : w.heap[b] = .cells arr T' fr := by
          have := hb; rw [Array.getElem?_eq_getElem hlt] at this; exact Option.some.inj this
        simp [hlt, hg]
      · simp [hj]
    rw [this]
  | v :: r, w, arr, o, hb => by
    simp only [World.setCells, putCells]
    rw [setCell_eq hb, setCells_eq r (get_setB hb), setB_setB]

/-- What is appended can be read. -/
theorem src_of (hk : ∃ e', P.underlying T = some (.slice e')) (hy : Rd w sz y ds) (h1 : ∀ u ∈ ds, u.oneCell' = true) : Src P sz T y.v y.len ds w := by
  obtain ⟨e', hk⟩ := hk
  obtain ⟨hlen, h0 | ⟨b, off, arr, T', fr, ha, hb, hcs⟩⟩ := hy
  · have hds : ds = [] := List.length_eq_zero_iff.1 (by rw [hlen, h0, Nat.zero_mul])
    subst hds
    obtain ⟨a, ln, cp⟩ := y
    simp only at h0
    subst h0
    cases a with
    | none => exact Src.ofNil w hk cp
    | some a => exact Src.ofSlice w hk a 0 cp [] (by simp) (fun j u h => by simp at h) h1
  · obtain ⟨a, ln, cp⟩ := y
    simp only at ha hlen
    subst ha
    refine Src.ofSlice w hk ⟨b, off, none⟩ ln cp ds hlen (fun j u hj => ?_) h1
    have hlt : j < ds.length := (List.getElem?_eq_some_iff.1 hj).1
    rw [add_mk, cell_of hb, hcs j hlt, hj]

/-- append, of a slice that owns its array, from a source that is elsewhere. -/
theorem app_spec {t tx ty : TypeId} {i : TypeInfo} {z : Value} (ht : P.underlying t = some (.slice T)) (hi : P.info? T = some i) (hz : i.zero = some z) (hzs : z.cells.size = i.size)
    (hs : Sat w (slc T i.size x cs :: l)) {v : Value} {n : Nat} (hsrc : Src P i.size tx v n ds w) (hbound : (x.len + n) * i.bytes ≤ 140737488355328) (h63 : x.len + n ≤ 9223372036854775807) :
    ∃ r w', (app t tx ty x.v v).run P w = .ok r.v w' ∧ r.len = x.len + n ∧ Sat w' (slc T i.size r (cs ++ ds) :: l) ∧ (∀ b, b < w.heap.size → (∀ o, x.a ≠ some ⟨b, o, none⟩) → w'.heap[b]? = w.heap[b]?) ∧ w.heap.size ≤ w'.heap.size := by
  have hrd := hs.rd
  by_cases hroom : x.len + n ≤ x.cap
  · -- there is room
    have hs' := hs
    obtain ⟨p1, p2, h1, h2, hd, hA, hl⟩ := hs
    rcases hA with ⟨ha, hl0, hc0, rfl⟩ | ⟨b, off, arr, fr, ha, hb, hlen, hle, hsz, hcs, hf⟩
    · -- nil
      have hn0 : n = 0 := by omega
      subst hn0
      have hds : ds = [] := List.length_eq_zero_iff.1 (by rw [hsrc.newsLen, Nat.zero_mul])
      subst hds
      obtain ⟨a, ln, cp⟩ := x
      simp only at ha hl0 hc0
      subst ha hl0 hc0
      refine ⟨⟨none, 0, 0⟩, w, ?_, rfl, hs', fun _ _ _ => rfl, Nat.le_refl _⟩
      rcases hsrc.kind with ⟨e', hk⟩ | hk <;>
        simp [app, Builtin.append_, run_underlying ht, run_underlying hk, sizeOf, typeInfo, hi, hsrc.len, hsrc.cells]
    · have hbw : w.heap[b]? = some (.cells arr T fr) := h1 b _ hb
      obtain ⟨a, ln, cp⟩ := x
      simp only at ha hlen hle hsz hf hroom
      subst ha
      have hfit : off + ln * i.size + ds.length ≤ arr.size := by
        rw [hsrc.newsLen, Nat.add_assoc, ← Nat.add_mul]
        exact Nat.le_trans (Nat.add_le_add_left (Nat.mul_le_mul_right _ hroom) _) hsz
      have hrun := run_append_room_src (P := P) w t tx ty T i ht hi b off ln cp v n ds hsrc hroom
        (fun j hj => by rw [cell_of hbw]; simp; omega)
        (fun j hj => by
          have h3 : ln * i.size + ds.length ≤ cp * i.size := by rw [hsrc.newsLen, ← Nat.add_mul]; exact Nat.mul_le_mul_right _ hroom
          have := hf (off + ln * i.size + j) (by omega) (by omega)
          simp only [World.frozen?, hbw]
          simpa using this)
      rw [setCells_eq ds hbw] at hrun
      refine ⟨⟨some ⟨b, off, none⟩, ln + n, cp⟩, _, hrun, rfl, ?_, fun b' hb' hne => ?_, by simp [setB]⟩
      · have hset : Sat w (pt b (.cells arr T fr) :: l) := ⟨p1, p2, h1, h2, hd, hb, hl⟩
        refine hset.set.imp fun p hp => .inr ⟨b, off, _, fr, rfl, hp, ?_, hroom, ?_, fun j hj => ?_, hf⟩
        · rw [List.length_append, hlen, hsrc.newsLen, Nat.add_mul]
        · rw [size_putCells]; exact hsz
        · rw [List.length_append, hlen] at hj
          rw [getElem?_putCells ds hfit]
          by_cases hjl : j < ln * i.size
          · rw [if_neg (by omega), hcs j (by omega), List.getElem?_append_left (by omega)]
          · rw [if_pos (by omega), List.getElem?_append_right (by omega), hlen]
            congr 1; omega
      · have : b ≠ b' := fun e => hne off (by rw [e])
        simp [setB, Array.getElem?_setIfInBounds_ne this]
  · -- there is none
    have hold : (Builtin.firstCells i.size x.len x.v).run P w.drew = .ok cs.toArray w.drew := by
      have hrd' : Rd w.drew i.size x cs := hrd
      have hkk : (∃ e', P.underlying t = some (.slice e')) := ⟨T, ht⟩
      obtain ⟨hlen, h0 | ⟨b, off, arr, T', fr, ha, hb, hcs⟩⟩ := hrd'
      · have hcs0 : cs = [] := List.length_eq_zero_iff.1 (by rw [hlen, h0, Nat.zero_mul])
        subst hcs0
        obtain ⟨a, ln, cp⟩ := x
        simp only at h0
        subst h0
        cases a with
        | none => simp [Builtin.firstCells]
        | some a => exact run_firstCells_some (P := P) w.drew i.size 0 a 0 cp [] (by simp) (fun j u h => by simp at h)
      · obtain ⟨a, ln, cp⟩ := x
        simp only at ha hlen
        subst ha
        refine run_firstCells_some (P := P) w.drew i.size ln ⟨b, off, none⟩ ln cp cs hlen (fun j u hj => ?_)
        have hlt : j < cs.length := (List.getElem?_eq_some_iff.1 hj).1
        rw [add_mk, cell_of hb, hcs j hlt, hj]
    have hrun := run_append_grow_src (P := P) w t tx ty T i z ht hi hz x.a x.len x.cap cs hold v n ds hsrc (by omega) (by omega) (growslice_fits (by omega) hbound)
    have hge := grownCap_ge w (x.len + n) x.cap T
    refine ⟨⟨some ⟨w.heap.size, 0, none⟩, x.len + n, grownCap w (x.len + n) x.cap T⟩, _, hrun, rfl, ?_, fun b hb _ => ?_, (by show _ ≤ (w.heap.push _).size; simp)⟩
    · have hp := (hs.tail).push (w' := w.drew.alloc (.cells ((cs ++ ds).toArray ++ Builtin.zeroCells z.cells (grownCap w (x.len + n) x.cap T - (x.len + n))) T)) (o := .cells ((cs ++ ds).toArray ++ Builtin.zeroCells z.cells (grownCap w (x.len + n) x.cap T - (x.len + n))) T) rfl
      refine hp.imp fun p hp => .inr ⟨w.heap.size, 0, _, (0, 0), rfl, hp, ?_, hge, ?_, fun j hj => ?_, unfrozen_zero _ _⟩
      · rw [List.length_append, hrd.1, hsrc.newsLen, Nat.add_mul]
      · simp only [Array.size_append, List.size_toArray, List.length_append, size_zeroCells, hrd.1, hsrc.newsLen, hzs, Nat.zero_add]
        rw [← Nat.add_mul, ← Nat.add_mul]
        exact Nat.mul_le_mul_right _ (by omega)
      · rw [Nat.zero_add, Array.getElem?_append_left (by simpa using hj)]
        simp
    · show (w.heap.push _)[b]? = _
      simp [Array.getElem?_push, Nat.ne_of_lt hb]

/-- append of what another slice holds. -/
theorem wp_app {t tx ty : TypeId} {i : TypeInfo} {z : Value} {k : Sl × Unit → Prog} (ht : P.underlying t = some (.slice T)) (htx : ∃ e', P.underlying tx = some (.slice e')) (hi : P.info? T = some i) (hz : i.zero = some z) (hzs : z.cells.size = i.size)
    (hs : Sat w (slc T i.size x cs :: l)) (hy : Rd w i.size y ds) (h1 : ∀ u ∈ ds, u.oneCell' = true) (hbound : (x.len + y.len) * i.bytes ≤ 140737488355328) (h63 : x.len + y.len ≤ 9223372036854775807)
    (h : ∀ r w', r.len = x.len + y.len → Sat w' (slc T i.size r (cs ++ ds) :: l) → (k (r, ())).wp P tt w' Q) : (Prog.act (app t tx ty x.v y.v) sL k).wp P tt w Q := by
  obtain ⟨r, w', hrun, hlen, hs', _⟩ := app_spec (ty := ty) ht hi hz hzs hs (src_of htx hy h1) hbound h63
  exact ⟨(r, ()), w', hrun, trivial, h r w' hlen hs'⟩

/-! ### Slices made of their elements -/

def bsCells (P : Program) (t : TypeId) (n : Nat) (ps : Array (Nat × Value)) : Option (TypeId × Array Value) :=
  match P.underlying t with
  | some (.slice el) => match P.info? el with
    | some i => if n * i.size > 16777216 then none else match (if n * i.size = 0 then some #[] else (i.zero.map Value.cells)) with
      | some zero => match Instr.fill (fun j => some (j * i.size, i.size)) ((Array.range (n * i.size)).map (zero[· % zero.size]!)) ps.toList with
        | some cells => some (el, cells)
        | none => none
      | none => none
    | none => none
  | _ => none

theorem run_bs {t : TypeId} {n : Nat} {ps : Array (Nat × Value)} {el : TypeId} {cells : Array Value} (h : bsCells P t n ps = some (el, cells)) :
    (Instr.buildSlice t n ps).run P w = .ok (.slice (some ⟨w.heap.size, 0, none⟩) n n) { w with heap := w.heap.push (.cells cells el) } := by
  unfold bsCells at h
  split at h
  · rename_i el' ht
    split at h
    · rename_i i hi
      split at h
      · cases h
      · rename_i hsmall
        split at h
        · rename_i zero hzero
          split at h
          · rename_i cells' hfill
            obtain ⟨rfl, rfl⟩ := Prod.mk.inj (Option.some.inj h)
            have hsz : sizeOf? P el' = some i.size := by unfold sizeOf?; rw [hi]
            have hs : ¬ (n * i.size > 2 ^ 24) := by simpa using hsmall
            by_cases h0 : n * i.size = 0
            · rw [if_pos h0] at hzero
              obtain rfl := Option.some.inj hzero
              simp only [Instr.buildSlice, Sem.run_bind, run_underlying' ht, Result.andThen_ok, run_sizeOf' hsz, if_neg hs, if_pos h0, Sem.run_pure, hfill, newRow, run_newObj]
            · rw [if_neg h0] at hzero
              cases hzz : i.zero with
              | none => rw [hzz] at hzero; cases hzero
              | some z =>
                rw [hzz] at hzero
                obtain rfl := Option.some.inj hzero
                have hzv : (zeroValue el').run P w = .ok z w := by simp [zeroValue, typeInfo, hi, hzz]
                simp only [Instr.buildSlice, Sem.run_bind, run_underlying' ht, Result.andThen_ok, run_sizeOf' hsz, if_neg hs, if_neg h0, hzv, Sem.run_pure, hfill, newRow, run_newObj]
          · cases h
        · cases h
    · cases h
  · cases h

theorem wp_bs {t : TypeId} {n : Nat} {ps : Array (Nat × Value)} {el : TypeId} {cells : Array Value} {k : Sl × Unit → Prog} (hc : bsCells P t n ps = some (el, cells)) (hs : Sat w l)
    (h : ∀ b w', Sat w' (pt b (.cells cells el) :: l) → (k (⟨some ⟨b, 0, none⟩, n, n⟩, ())).wp P tt w' Q) : (Prog.act (Instr.buildSlice t n ps) sL k).wp P tt w Q :=
  ⟨(⟨some ⟨w.heap.size, 0, none⟩, n, n⟩, ()), _, run_bs hc, trivial, h _ _ (hs.push rfl)⟩

/-- A new block, all of it a slice, can be read. -/
theorem Rd.pt {b : Nat} {arr : Array Value} {n : Nat} (h : Sat w (pt b (.cells arr T) :: l)) (hn : arr.size = n * sz) : Rd w sz ⟨some ⟨b, 0, none⟩, n, n⟩ arr.toList :=
  (h.slc_of hn).rd

/-- An element's cell, read. -/
theorem Rd.cell {i j : Nat} (h : Rd w sz x cs) (hi : i < x.len) (hj : j < sz) : ∃ b off arr T fr, x.a = some ⟨b, off, none⟩ ∧ w.heap[b]? = some (.cells arr T fr) ∧ arr[off + (i * sz + j)]? = cs[i * sz + j]? ∧ i * sz + j < cs.length := by
  obtain ⟨hlen, h0 | ⟨b, off, arr, T', fr, ha, hb, hcs⟩⟩ := h
  · omega
  · have hlt : i * sz + j < cs.length := by
      rw [hlen]
      calc i * sz + j < i * sz + sz := by omega
        _ = (i + 1) * sz := by rw [Nat.add_mul, Nat.one_mul]
        _ ≤ x.len * sz := Nat.mul_le_mul_right _ hi
    exact ⟨b, off, arr, T', fr, ha, hb, hcs _ hlt, hlt⟩

end
end Go.Dec
