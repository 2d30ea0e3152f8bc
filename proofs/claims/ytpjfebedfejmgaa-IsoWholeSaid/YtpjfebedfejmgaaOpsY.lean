/- Ops, part Y: bytes and texts; literals; slices cut, joined, stored into. -/
import Derived.Test.YtpjfebedfejmgaaOpsM
import Derived.Lib.ConvBytes
import Derived.Lib.SlBytesConst
namespace Go.Dec
set_option linter.unusedVariables false
set_option linter.unusedSimpArgs false

/-- A slice type of bytes, and its elements' type. -/
class ByE (P : Program) (t : TypeId) (e : outParam TypeId) : Prop where
  ok : P.underlying t = some (.slice e) ∧ P.underlying e = some (.int .u8) ∧ sizeOf? P e = some 1

def encU (b : UInt8) : List Value := [.int .u8 b.toNat]
instance : Enc1 encU (.int .u8) (fun b => (b.toNat : Int)) := ⟨fun _ => rfl⟩
instance : EncN encU 1 := ⟨fun _ => rfl, by decide, by simp [encU, Value.oneCell']⟩
theorem flat_encU (bs : List UInt8) : bs.flatMap encU = bs.map fun b => Value.int .u8 b.toNat := by
  induction bs with
  | nil => rfl
  | cons n r ih => rw [List.flatMap_cons, ih]; rfl
theorem flat_len {α : Type} {enc : α → List Value} {sz : Nat} [h : EncN enc sz] (xs : List α) : (xs.flatMap enc).length = xs.length * sz := flat_length h.len xs

section
variable {P : Program} {w : World} {l r : List HP} {Q : Post} {S : World → Prop} {T ts t e : TypeId} {sz : Nat} {x : Sl} {g : Prop}

/-- How long a slice is. -/
theorem Sat.slen {α : Type} {enc : α → List Value} {xs : List α} (hs : Sat w l) (x : Sl) [hf : FocR l x sz (xs.flatMap enc)] [hE : EncN enc sz] : x.len = xs.length := (hf.rd w hs).len hE.len hE.pos

theorem Sat.slc_cap {cs : List Value} (hs : Sat w (slc T sz x cs :: l)) : x.len ≤ x.cap := by
  obtain ⟨p1, p2, h1, h2, hd, hA, hl⟩ := hs
  rcases hA with ⟨-, h1, h2, -⟩ | ⟨b, off, arr, fr, ha, hb, hlen, hle, -⟩
  · omega
  · exact hle

/-- '[]byte(s)'. -/
theorem wp_toB [ht : ByE P t e] [hst : StT P ts] {s : ByteArray} {k : Sl → Prog} (hs : Sat w l) (h : ∀ x w', Sat w' (slc e 1 x (s.data.toList.flatMap encU) :: l) → (k x).wp P S w' Q) (hS : ∀ w', S w' := by exact fun _ => trivial) :
    (Prog.act (convert ts t (.string s)) sL (u1 k)).wp P S w Q := by
  obtain ⟨h1, h2, -⟩ := ht.ok
  have hrun := Lib.run_convert_string_bytes (P := P) w ts t e s hst.ok h1 h2
  refine ⟨(⟨some ⟨w.heap.size, 0, none⟩, s.size, grownCap w s.size 0 e⟩, ()), _, hrun, hS _, h _ _ ?_⟩
  have hge := grownCap_ge w s.size 0 e
  have hpush : (Lib.bytesWorld w e s).heap = w.heap.push (.cells (Lib.bytesCells w e s) e ((Lib.bytesCells w e s).size, (Lib.bytesCells w e s).size + 1)) := by
    apply Array.ext_getElem?
    intro i
    rw [Array.getElem?_push]
    by_cases hi : i = w.heap.size
    · rw [hi, if_pos rfl]; exact Lib.bytesWorld_at_new w e s
    · rw [if_neg hi]
      rcases Nat.lt_or_ge i w.heap.size with h' | h'
      · exact Lib.bytesWorld_at_old w e s i h'
      · rw [Array.getElem?_eq_none (by rw [Lib.bytesWorld_size]; omega), Array.getElem?_eq_none h']
  have hp := hs.push hpush rfl rfl
  refine hp.imp fun p hp => .inr ⟨w.heap.size, 0, _, _, rfl, hp, ?_, hge, ?_, fun i hi => ?_, fun i h1 h2 h3 => ?_⟩
  · rw [flat_len]; rfl
  · simp [Lib.bytesCells]; show s.data.size + _ ≥ _; have : s.size = s.data.size := rfl; omega
  · rw [flat_len] at hi
    have hi : i < s.data.toList.length := by omega
    rw [Nat.zero_add, flat_encU]
    have hi2 : i < s.data.size := by simpa using hi
    have hi3 : ¬ s.size ≤ i := by have : s.size = s.data.size := rfl; omega
    simp [Lib.bytesCells, Array.getElem?_append, hi2, hi3]
  · have : (Lib.bytesCells w e s).size = s.size + (grownCap w s.size 0 e - s.size) := by simp [Lib.bytesCells]
    dsimp only at h2 h3
    omega

/-- 'string(b)'. -/
theorem run_ofB [ht : ByE P t e] [hst : StT P ts] {bs : List UInt8} (hs : Sat w l) [hf : FocR l x 1 (bs.flatMap encU)] : (convert t ts (.slice x.a x.len x.cap)).run P w = .ok (.string ⟨bs.toArray⟩) w := by
  obtain ⟨h1, h2, -⟩ := ht.ok
  have hl := hs.slen x (xs := bs) (enc := encU)
  obtain ⟨hlen, h0⟩ := hf.rd w hs
  obtain ⟨a, n, c⟩ := x
  simp only at hl h0 ⊢
  subst hl
  by_cases hz : bs = []
  · subst hz
    rw [run_convert_bytes_string w t ts e a _ c h1 h2 hst.ok]
    cases a <;> simp [Conv.bytesToString, loadCells, loadCellsFrom]
    all_goals rfl
  · rcases h0 with h0 | ⟨b, off, arr, T', fr, rfl, hb, hc⟩
    · exact absurd (List.length_eq_zero_iff.1 h0) hz
    · exact run_convert_bytes_back w t ts e _ c bs h1 h2 hst.ok fun j hj => by
        rw [add_mk, cell_of hb, hc j (by rw [flat_len]; omega), flat_encU]
        simp [hj]

theorem wp_ofB [ht : ByE P t e] [hst : StT P ts] {bs : List UInt8} {k : ByteArray → Prog} (hs : Sat w l) [hf : FocR l x 1 (bs.flatMap encU)] (h : (k ⟨bs.toArray⟩).wp P S w Q) :
    (Prog.read g (convert t ts (.slice x.a x.len x.cap)) sS (u1 k)).wp P S w Q := ⟨(_, ()), fun _ => run_ofB hs, h⟩

/-- A slice literal: its elements. -/
theorem wp_slit {α : Type} {enc : α → List Value} {n : Nat} {ps : Array (Nat × Value)} {el : TypeId} {bytes : Nat} {cs : Array Value} {k : Sl → Prog} (hs : Sat w l) [ht : SlT P t el sz bytes] [hE : EncN enc sz] (xs : List α) (hc : bsCells P t n ps = some (el, cs))
    (h : ∀ b w', Sat w' (slc el sz ⟨some ⟨b, 0, none⟩, n, n⟩ (xs.flatMap enc) :: l) → (k ⟨some ⟨b, 0, none⟩, n, n⟩).wp P S w' Q) (hx : xs.flatMap enc = cs.toList := by rfl) (hn : xs.length = n := by rfl) (hS : ∀ w', S w' := by exact fun _ => trivial) :
    (Prog.act (Instr.buildSlice t n ps) sL (u1 k)).wp P S w Q := by
  have hp := hs.push (o := .cells cs el) (w' := { w with heap := w.heap.push (.cells cs el) }) rfl
  refine ⟨(⟨some ⟨w.heap.size, 0, none⟩, n, n⟩, ()), _, run_bs hc, hS _, h _ _ ?_⟩
  rw [hx]
  exact hp.slc_of (by rw [← Array.length_toList, ← hx, flat_len, hn])

/-- An empty slice literal. -/
theorem bs0 {bytes : Nat} {el : TypeId} [ht : SlT P t el sz bytes] : bsCells P t 0 #[] = some (el, #[]) := by
  obtain ⟨i, z, hi, h2, h3, h4, h5⟩ := ht.parts
  unfold bsCells
  simp [ht.ok.1, hi, Instr.fill]
/-- A slice literal of one element. -/
theorem wp_slit1 {α : Type} {enc : α → List Value} {v : Value} {el : TypeId} {bytes : Nat} {cs : List Value} {k : Sl → Prog} (hs : Sat w l) [ht : SlT P t el sz bytes] [hE : EncN enc sz] [hv : Cells v cs] (y : α)
    (h : ∀ x w', Sat w' (slc el sz x ([y].flatMap enc) :: l) → (k x).wp P S w' Q) (hy : cs = enc y := by rfl) (hS : ∀ w', S w' := by exact fun _ => trivial) (hz : (!Nat.beq sz 0 && Nat.ble sz 16777216) = true := by rfl) :
    (Prog.act (Instr.buildSlice t 1 #[(0, v)]) sL (u1 k)).wp P S w Q := by
  have h1 : v.cells = (enc y).toArray := by rw [hv.ok, hy]
  rw [Bool.and_eq_true, Bool.not_eq_true'] at hz
  have hlen := hE.len y
  exact wp_slit hs [y] (bs1 h1 hz.1 hz.2 (by simp [hlen])) (fun b w' => h _ w') (by simp) rfl hS

/-- '[]byte("..")' of a constant: a literal, marked. -/
theorem wp_blit [ht : ByE P t e] {n : Nat} {ps : Array (Nat × Value)} {cs : Array Value} {k : Sl → Prog} (hs : Sat w l) (bs : List UInt8) (hc : bsCells P t n ps = some (e, cs))
    (h : ∀ x w', Sat w' (slc e 1 x (bs.flatMap encU) :: l) → (k x).wp P S w' Q) (hx : bs.flatMap encU = cs.toList := by rfl) (hn : bs.length = n := by rfl) (hS : ∀ w', S w' := by exact fun _ => trivial) :
    (Prog.act (Instr.buildSlice t n ps) sL (u1 fun y => .act (convert t t (.slice y.a y.len y.cap)) sL (u1 k))).wp P S w Q := by
  obtain ⟨h1, h2, -⟩ := ht.ok
  have hp := hs.push (o := .cells cs e (cs.size, cs.size + 1)) (w' := w.alloc (.cells cs e (cs.size, cs.size + 1))) rfl
  have hsz : cs.size = n := by rw [← Array.length_toList, ← hx, flat_len, hn]; omega
  refine ⟨(⟨some ⟨w.heap.size, 0, none⟩, n, n⟩, ()), w.alloc (.cells cs e), run_bs hc, hS _, ?_⟩
  refine ⟨(⟨some ⟨w.heap.size, 0, none⟩, n, n⟩, ()), w.alloc (.cells cs e (cs.size, cs.size + 1)), Lib.run_convert_bytes_const w t e cs n n h1 h2, hS _, h _ _ ?_⟩
  refine hp.imp fun p hp => .inr ⟨w.heap.size, 0, cs, _, rfl, hp, by rw [hx]; simp [hsz], Nat.le_refl _, by simp [hsz], fun i _ => by rw [hx]; simp, fun i h1 h2 h3 => ?_⟩
  dsimp only at h2 h3
  omega

/-- append of all of a slice that can be read to one that owns its array. -/
theorem wp_app' {α : Type} {enc : α → List Value} {xs ys : List α} {tx ty el el' : TypeId} {bytes sz' bytes' : Nat} {x y : Sl} {k : Sl → Prog} (hs : Sat w l) [ht : SlT P t el sz bytes] [htx : SlT P tx el' sz' bytes'] [hf : FocS l x el sz (xs.flatMap enc) r] [hy : FocR l y sz (ys.flatMap enc)] [hE : EncN enc sz]
    (h : ∀ z w', Sat w' (slc el sz z ((xs ++ ys).flatMap enc) :: r) → (k z).wp P S w' Q) (hb : (xs.length + ys.length) * bytes ≤ 140737488355328 ∧ xs.length + ys.length ≤ 9223372036854775807 := by omega) (hS : ∀ w', S w' := by exact fun _ => trivial) :
    (Prog.act (app t tx ty (.slice x.a x.len x.cap) (.slice y.a y.len y.cap)) sL (u1 k)).wp P S w Q := by
  have h1 : x.len = xs.length := (hs.focS x).rd.len hE.len hE.pos
  have h2 := hs.slen y (xs := ys) (enc := enc)
  refine wp_ap hs (hy.rd w hs) (fun u hu => ?_) (by rw [h1, h2]; exact hb.1) (by rw [h1, h2]; exact hb.2) fun z w' _ hs' => ⟨hS _, h z w' ?_⟩
  · obtain ⟨a, -, hu⟩ := List.mem_flatMap.1 hu
    exact hE.one a u hu
  · rw [List.flatMap_append]; exact hs'

/-- A slice, cut at its end, so that nothing behind can be reached. -/
theorem Sat.slc_cut {cs : List Value} {n : Nat} (hs : Sat w (slc T sz x cs :: l)) (hn : n ≤ x.len) : Sat w (slc T sz ⟨x.a, n, n⟩ (cs.take (n * sz)) :: l) := by
  refine hs.imp fun p hp => ?_
  rcases hp with ⟨h1, h2, h3, rfl⟩ | ⟨b, off, arr, fr, ha, hb, hlen, hle, hsz, hc, hf⟩
  · exact .inl ⟨h1, by dsimp only; omega, by dsimp only; omega, by simp⟩
  · have hnc : n * sz ≤ x.cap * sz := Nat.mul_le_mul_right _ (by omega)
    have hnl : n * sz ≤ x.len * sz := Nat.mul_le_mul_right _ hn
    refine .inr ⟨b, off, arr, fr, ha, hb, ?_, Nat.le_refl _, by dsimp only; omega, fun i hi => ?_, fun i h1 h2 => hf i h1 (by dsimp only at h2; omega)⟩
    · rw [List.length_take, hlen]; dsimp only; omega
    · rw [List.length_take] at hi
      rw [hc i (by omega), List.getElem?_take, if_pos (by omega)]

theorem take_flat {α : Type} {enc : α → List Value} [hE : EncN enc sz] : ∀ (xs : List α) (n : Nat), (xs.flatMap enc).take (n * sz) = (xs.take n).flatMap enc
  | [], n => by simp
  | x :: xs, 0 => by simp
  | x :: xs, n + 1 => by
    rw [List.take_succ_cons, List.flatMap_cons, List.flatMap_cons, Nat.add_mul, Nat.one_mul, Nat.add_comm, List.take_append, hE.len, List.take_of_length_le (by rw [hE.len]; omega), Nat.add_sub_cancel_left, take_flat xs n]

/-- The beginning of a slice that can be read, read. -/
theorem Rd.pre {α : Type} {enc : α → List Value} [hE : EncN enc sz] {xs : List α} (h : Rd w sz x (xs.flatMap enc)) {n c : Nat} (hn : n ≤ xs.length) : Rd w sz ⟨x.a, n, c⟩ ((xs.take n).flatMap enc) := by
  obtain ⟨hlen, h0⟩ := h
  refine ⟨by rw [flat_len, List.length_take, Nat.min_eq_left hn], ?_⟩
  rcases h0 with h0 | ⟨b, off, arr, T', fr, ha, hb, hc⟩
  · rw [flat_len, h0] at hlen
    have := hE.pos
    have h1 : xs.length = 0 := by
      rcases Nat.mul_eq_zero.1 (hlen.trans (Nat.zero_mul _)) with h | h
      · exact h
      · omega
    exact .inl (by show n = 0; omega)
  · refine .inr ⟨b, off, arr, T', fr, ha, hb, fun i hi => ?_⟩
    rw [← take_flat, List.length_take] at hi
    rw [hc i (by omega), ← take_flat, List.getElem?_take, if_pos (by omega)]
theorem FocR.pre {α : Type} {enc : α → List Value} [hE : EncN enc sz] {xs : List α} [hf : FocR l x sz (xs.flatMap enc)] {n c : Nat} (hn : n ≤ xs.length) : FocR l ⟨x.a, n, c⟩ sz ((xs.take n).flatMap enc) := ⟨fun w hs => (hf.rd w hs).pre hn⟩

/-- A store of an element of one cell into a slice. -/
theorem wp_ixS {α : Type} {enc : α → List Value} {xs : List α} {i i' : Int} {k : Prog} {v : Value} (hs : Sat w l) [hf : FocS l x T sz (xs.flatMap enc) r] [hE : EncN enc sz] [hT : One P t] (n : Nat) (hn : n < xs.length) (y : α)
    (h : ∀ w', Sat w' (slc T sz x ((xs.set n y).flatMap enc) :: r) → k.wp P S w' Q) (hi : i = n := by first | rfl | omega) (hi' : i' = i := by rfl) (hy : v.cells.toList = enc y := by rfl) (hsz : Nat.beq sz 1 = true := by rfl) (hS : ∀ w', S w' := by exact fun _ => trivial) :
    (Prog.ex [.adr] (c1 fun a => 0 ≤ i ∧ i < ((x.len : Nat) : Int) ∧ x.a = some a) (u1 fun a => .actU (st t (Addr.add a (Int.toNat i' * sz)) v) k)).wp P S w Q := by
  have hz := Nat.eq_of_beq_eq_true hsz
  subst hz hi hi'
  have hr := (hs.focS x).rd
  have hl : x.len = xs.length := hr.len hE.len hE.pos
  obtain ⟨a, ha, he⟩ := hr.el hE.len (by omega)
  refine ⟨(a, ()), ⟨by omega, by omega, ha⟩, ?_⟩
  exact wp_stE (xs := xs) (i := n) (y := y) hE.len hs ha hn (fun b o e => by subst e; rw [add_mk, Int.toNat_natCast]) hT.ok.2 hy (hE.one y) fun w' hs' => ⟨hS _, h w' hs'⟩

/-- One cell of an element. -/
class EncF {α : Type} (enc : α → List Value) (j : Nat) (p : Pr) (dec : outParam (α → p.D)) : Prop where
  ok : ∀ y, (enc y)[j]? = some (p.mk (dec y))

theorem run_ixF {α : Type} {enc : α → List Value} {xs : List α} {j n : Nat} {p : Pr} {dec : α → p.D} (hs : Sat w l) [hf : FocR l x sz (xs.flatMap enc)] [hE : EncN enc sz] [hD : EncF enc j p dec] [hT : One P T] (hn : n < xs.length) :
    ∃ a, x.a = some a ∧ x.len = xs.length ∧ (ld T (Addr.add (Addr.add a (n * sz)) j)).run P w = .ok ((Sh.one (.one p)).mk (dec xs[n], ())) w := by
  have hr := hf.rd w hs
  have hl : x.len = xs.length := hr.len hE.len hE.pos
  obtain ⟨a, ha, he⟩ := hr.el hE.len (by omega)
  refine ⟨a, ha, hl, ?_⟩
  have h2 := At.fld (P := P) (T := T) (he n hn) (hD.ok xs[n])
  cases p <;> exact h2

theorem wp_ixF {α : Type} {enc : α → List Value} {xs : List α} {i i' : Int} {j : Nat} {g' : Prop} {p : Pr} {dec : α → p.D} {f : p.D → Prog} (hs : Sat w l) [hf : FocR l x sz (xs.flatMap enc)] [hE : EncN enc sz] [hD : EncF enc j p dec] [hT : One P T]
    (n : Nat) (hn : n < xs.length) (h : (f (dec xs[n])).wp P S w Q) (hi : i = n := by first | rfl | omega) (hi' : i' = i := by rfl) :
    (Prog.ex [.adr] (c1 fun a => 0 ≤ i ∧ i < ((x.len : Nat) : Int) ∧ x.a = some a) (u1 fun a => .read g' (ld T (Addr.add (Addr.add a (Int.toNat i' * sz)) j)) (.one (.one p)) (u1 f))).wp P S w Q := by
  subst hi hi'
  obtain ⟨a, ha, hl, hr⟩ := run_ixF (P := P) (T := T) (j := j) (enc := enc) (p := p) (dec := dec) (x := x) hs hn
  exact ⟨(a, ()), ⟨by omega, by omega, ha⟩, (dec xs[n], ()), fun _ => by rw [Int.toNat_natCast]; exact hr, h⟩
theorem wp_ixFg {α : Type} {enc : α → List Value} {xs : List α} {i i' : Int} {j : Nat} {g g' : Prop} {p : Pr} {dec : α → p.D} {f : p.D → Prog} (hs : Sat w l) [hf : FocR l x sz (xs.flatMap enc)] [hE : EncN enc sz] [hD : EncF enc j p dec] [hT : One P T]
    (n : Nat) (hn : n < xs.length) (h : (f (dec xs[n])).wp P S w Q) (hi : i = n := by first | rfl | omega) (hi' : i' = i := by rfl) :
    (Prog.ex [.adr] (c1 fun a => g → 0 ≤ i ∧ i < ((x.len : Nat) : Int) ∧ x.a = some a) (u1 fun a => .read g' (ld T (Addr.add (Addr.add a (Int.toNat i' * sz)) j)) (.one (.one p)) (u1 f))).wp P S w Q := by
  subst hi hi'
  obtain ⟨a, ha, hl, hr⟩ := run_ixF (P := P) (T := T) (j := j) (enc := enc) (p := p) (dec := dec) (x := x) hs hn
  exact ⟨(a, ()), fun _ => ⟨by omega, by omega, ha⟩, (dec xs[n], ()), fun _ => by rw [Int.toNat_natCast]; exact hr, h⟩

/-- A store of one cell of an element. -/
theorem wp_ixSF {α : Type} {enc : α → List Value} {xs : List α} {i i' : Int} {j : Nat} {k : Prog} {v : Value} (hs : Sat w l) [hf : FocS l x T sz (xs.flatMap enc) r] [hE : EncN enc sz] [hT : One P t] (n : Nat) (hn : n < xs.length) (y : α)
    (h : ∀ w', Sat w' (slc T sz x ((xs.set n y).flatMap enc) :: r) → k.wp P S w' Q) (hi : i = n := by first | rfl | omega) (hi' : i' = i := by rfl) (hy : enc y = (enc xs[n]).set j v := by rfl) [hv : Cells v [v]] [ho : Ones [v]] (hj : j < sz := by decide) (hS : ∀ w', S w' := by exact fun _ => trivial) :
    (Prog.ex [.adr] (c1 fun a => 0 ≤ i ∧ i < ((x.len : Nat) : Int) ∧ x.a = some a) (u1 fun a => .actU (st t (Addr.add (Addr.add a (Int.toNat i' * sz)) j) v) k)).wp P S w Q := by
  subst hi hi'
  have hr := (hs.focS x).rd
  have hl : x.len = xs.length := hr.len hE.len hE.pos
  obtain ⟨a, ha, he⟩ := hr.el hE.len (by omega)
  refine ⟨(a, ()), ⟨by omega, by omega, ha⟩, ?_⟩
  exact wp_stF (xs := xs) (i := n) (j := j) (y := y) hE.len hs ha hn hj (fun b o e => by subst e; rw [add_mk, add_mk, Int.toNat_natCast, Nat.add_assoc]) hv.ok (by have := ho.ok v (List.mem_singleton.2 rfl); exact this) hy fun w' hs' => ⟨hS _, h w' hs'⟩

end
end Go.Dec
