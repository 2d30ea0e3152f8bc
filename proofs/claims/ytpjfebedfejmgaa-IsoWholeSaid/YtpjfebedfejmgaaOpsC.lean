/- Ops, part C: the same rules, the parts found by instance search. -/
import Derived.Test.YtpjfebedfejmgaaOpsB
namespace Go.Dec
set_option linter.unusedVariables false
set_option linter.unusedSimpArgs false

/-- Part H stands in l; r is the rest. -/
class Foc (l : List HP) (H : HP) (r : outParam (List HP)) : Prop where
  perm : l.Perm (H :: r)
instance Foc.head {H : HP} {l : List HP} : Foc (H :: l) H l := ⟨.refl _⟩
instance (priority := low) Foc.tail {x H : HP} {l r : List HP} [h : Foc l H r] : Foc (x :: l) H (x :: r) := ⟨(List.Perm.cons x h.perm).trans (.swap _ _ _)⟩

/-- Block b stands in l. -/
class FocB (l : List HP) (b : Nat) (o : outParam Obj) (r : outParam (List HP)) : Prop where
  perm : l.Perm (pt b o :: r)
instance FocB.head {b : Nat} {o : Obj} {l : List HP} : FocB (pt b o :: l) b o l := ⟨.refl _⟩
instance (priority := low) FocB.tail {x : HP} {b : Nat} {o : Obj} {l r : List HP} [h : FocB l b o r] : FocB (x :: l) b o (x :: r) := ⟨(List.Perm.cons x h.perm).trans (.swap _ _ _)⟩

/-- The slice x stands in l. -/
class FocS (l : List HP) (x : Sl) (T : outParam TypeId) (sz : outParam Nat) (cs : outParam (List Value)) (r : outParam (List HP)) : Prop where
  perm : l.Perm (slc T sz x cs :: r)
instance FocS.head {x : Sl} {T : TypeId} {sz : Nat} {cs : List Value} {l : List HP} : FocS (slc T sz x cs :: l) x T sz cs l := ⟨.refl _⟩
instance (priority := low) FocS.tail {y : HP} {x : Sl} {T : TypeId} {sz : Nat} {cs : List Value} {l r : List HP} [h : FocS l x T sz cs r] : FocS (y :: l) x T sz cs (y :: r) := ⟨(List.Perm.cons y h.perm).trans (.swap _ _ _)⟩

/-- The parts of pre stand in l; F is the rest. -/
class Split (l pre : List HP) (F : outParam (List HP)) : Prop where
  perm : l.Perm (pre ++ F)
instance Split.nil {l : List HP} : Split l [] l := ⟨.refl _⟩
instance Split.cons {l r pre F : List HP} {H : HP} [h1 : Foc l H r] [h2 : Split r pre F] : Split l (H :: pre) F := ⟨h1.perm.trans (.cons H h2.perm)⟩

/-- A type whose values are one cell. -/
class One (P : Program) (T : TypeId) : Prop where
  ok : aggT P T = some false ∧ sizeOf? P T = some 1
/-- A struct or array of n cells. -/
class Agg (P : Program) (T : TypeId) (n : outParam Nat) : Prop where
  ok : aggT P T = some true ∧ sizeOf? P T = some n

section
variable {P : Program} {w : World} {l r : List HP} {Q : Post} {S : World → Prop} {b : Nat} {o : Obj}

theorem Sat.foc (H : HP) [h : Foc l H r] (hs : Sat w l) : Sat w (H :: r) := hs.perm h.perm
theorem Sat.focB (b : Nat) [h : FocB l b o r] (hs : Sat w l) : Sat w (pt b o :: r) := hs.perm h.perm
theorem Sat.focS (x : Sl) {T : TypeId} {sz : Nat} {cs : List Value} [h : FocS l x T sz cs r] (hs : Sat w l) : Sat w (slc T sz x cs :: r) := hs.perm h.perm
theorem Sat.split {pre F : List HP} [h : Split l pre F] (hs : Sat w l) : Sat w (pre ++ F) := hs.perm h.perm
theorem Sat.blk (b : Nat) [h : FocB l b o r] (hs : Sat w l) : w.heap[b]? = some o := (hs.focB b).get

section
variable {T T' : TypeId} {off : Nat} {cs : Array Value} {fr : Nat × Nat} {g : Prop}

theorem wp_ld {p : Pr} {x : p.D} {f : p.D → Prog} (hs : Sat w l) [hb : FocB l b (.cells cs T' fr) r] [hT : One P T] (hc : cs[off]? = some (p.mk x)) (h : (f x).wp P S w Q) :
    (Prog.read g (ld T ⟨b, off, none⟩) (.one (.one p)) (u1 f)).wp P S w Q := by
  refine ⟨(x, ()), fun _ => ?_, h⟩
  have := run_ld1 (P := P) hT.ok.1 (hs.focB b).get hc
  cases p <;> exact this

theorem wp_hd {p : Pr} {x : p.D} {f : p.D → Prog} (hs : Sat w l) [hb : FocB l b (.cells cs T' fr) r] [hT : One P T] (hc : cs[off]? = some (p.mk x))
    (h : (f x).wp P (fun w' => S w' ∧ (g → (ld T ⟨b, off, none⟩).run P w' = .ok ((Sh.one (.one p)).mk (x, ())) w')) w Q) :
    (Prog.hold g (ld T ⟨b, off, none⟩) (.one (.one p)) (u1 f)).wp P S w Q := by
  refine ⟨(x, ()), fun _ => ?_, h⟩
  have := run_ld1 (P := P) hT.ok.1 (hs.focB b).get hc
  cases p <;> exact this

theorem run_ldF {p : Pr} {x : p.D} (hs : Sat w l) [hb : FocB l b (.cells cs T' fr) r] [hT : One P T] (hc : cs[off]? = some (p.mk x)) :
    (ld T ⟨b, off, none⟩).run P w = .ok ((Sh.one (.one p)).mk (x, ())) w := by
  have := run_ld1 (P := P) hT.ok.1 (hs.focB b).get hc
  cases p <;> exact this

theorem wp_ldA {n : Nat} {ps : List Pr} (x : HL ps) {k : HL ps → Prog} (hs : Sat w l) [hb : FocB l b (.cells cs T' fr) r] [hT : Agg P T n] (hn : Nat.ble (off + n) cs.size = true) (hc : cs.extract off (off + n) = (HL.vals ps x).toArray) (h : (k x).wp P S w Q) :
    (Prog.read g (ld T ⟨b, off, none⟩) (.one (.agg ps)) k).wp P S w Q := by
  refine ⟨x, fun _ => ?_, h⟩
  rw [run_ldA (P := P) hT.ok.1 hT.ok.2 (hs.focB b).get (Nat.le_of_ble_eq_true hn), hc]

theorem run_ldAF {n : Nat} {ps : List Pr} {x : HL ps} (hs : Sat w l) [hb : FocB l b (.cells cs T' fr) r] [hT : Agg P T n] (hn : Nat.ble (off + n) cs.size = true) (hc : cs.extract off (off + n) = (HL.vals ps x).toArray) :
    (ld T ⟨b, off, none⟩).run P w = .ok ((Sh.one (.agg ps)).mk x) w := by
  rw [run_ldA (P := P) hT.ok.1 hT.ok.2 (hs.focB b).get (Nat.le_of_ble_eq_true hn), hc]

theorem wp_hdA {n : Nat} {ps : List Pr} (x : HL ps) {k : HL ps → Prog} (hs : Sat w l) [hb : FocB l b (.cells cs T' fr) r] [hT : Agg P T n] (hn : Nat.ble (off + n) cs.size = true) (hc : cs.extract off (off + n) = (HL.vals ps x).toArray)
    (h : (k x).wp P (fun w' => S w' ∧ (g → (ld T ⟨b, off, none⟩).run P w' = .ok ((Sh.one (.agg ps)).mk x) w')) w Q) :
    (Prog.hold g (ld T ⟨b, off, none⟩) (.one (.agg ps)) k).wp P S w Q := by
  refine ⟨x, fun _ => ?_, h⟩
  rw [run_ldA (P := P) hT.ok.1 hT.ok.2 (hs.focB b).get (Nat.le_of_ble_eq_true hn), hc]

/-- A store of one cell. -/
theorem wp_st1 {v : Value} {k : Prog} (hs : Sat w l) [hb : FocB l b (.cells cs T' (0, 0)) r] [hT : One P T] (hsz : Nat.ble (off + 1) cs.size = true) (hv : v.cells = #[v]) (hone : v.oneCell' = true)
    (h : ∀ w', Sat w' (pt b (.cells (cs.setIfInBounds off v) T' (0, 0)) :: r) → S w' ∧ k.wp P S w' Q) : (Prog.actU (st T ⟨b, off, none⟩ v) k).wp P S w Q := by
  have := run_st (P := P) (v := v) hT.ok.2 (hs.focB b).get (Nat.le_of_ble_eq_true hsz) (by rw [hv]; rfl) (by rw [hv]; simpa using hone) (unfrozen_zero _ _)
  rw [hv] at this
  have h' := h _ (hs.focB b).set
  exact ⟨_, this, h'.1, h'.2⟩

/-- A store of a struct. -/
theorem wp_stA {n : Nat} {vs : Array Value} {k : Prog} (hs : Sat w l) [hb : FocB l b (.cells cs T' (0, 0)) r] [hT : Agg P T n] (hsz : Nat.ble (off + n) cs.size = true) (hv : vs.size = n) (hone : ∀ x ∈ vs.toList, x.oneCell' = true)
    (h : ∀ w', Sat w' (pt b (.cells (putCells cs off vs.toList) T' (0, 0)) :: r) → S w' ∧ k.wp P S w' Q) : (Prog.actU (st T ⟨b, off, none⟩ (.agg vs)) k).wp P S w Q := by
  have := run_st (P := P) (v := .agg vs) hT.ok.2 (hs.focB b).get (Nat.le_of_ble_eq_true hsz) hv hone (unfrozen_zero _ _)
  have h' := h _ (hs.focB b).set
  exact ⟨_, this, h'.1, h'.2⟩

theorem wp_new' {z : Value} {k : Addr × Unit → Prog} (hz : zeroOf P T = some z) (hs : Sat w l)
    (h : ∀ b w', Sat w' (pt b (.cells z.cells T) :: l) → S w' ∧ (k (⟨b, 0, none⟩, ())).wp P S w' Q) : (Prog.act (new T) sA k).wp P S w Q :=
  have h' := h _ _ (hs.push (o := .cells z.cells T) (w' := { w with heap := w.heap.push (.cells z.cells T) }) rfl)
  ⟨(⟨w.heap.size, 0, none⟩, ()), _, run_new hz, h'.1, h'.2⟩

theorem wp_callS {f : FuncId} {args : List Value} {s : Sh} {k : HL s.prims → Prog} {vs₀ : List Value} {R : World → Prop} (x : HL s.prims)
    (hc : Ret P f args.toArray w fun vs w' => vs = vs₀ ∧ R w') (hx : pack vs₀ = s.mk x)
    (h : ∀ w', R w' → S w' ∧ (k x).wp P S w' Q) : (Prog.call f args s k).wp P S w Q :=
  wp_call hc fun vs w' ⟨hv, hR⟩ => ⟨x, by rw [hv, hx], h w' hR⟩

end
end
end Go.Dec
namespace Go.Dec
/-- The zero value of a type. -/
class Zer (P : Program) (T : TypeId) (z : outParam Value) : Prop where
  ok : zeroOf P T = some z
/-- A slice type: its elements' type, their cells, their bytes. -/
class SlT (P : Program) (t : TypeId) (el : outParam TypeId) (sz bytes : outParam Nat) : Prop where
  ok : P.underlying t = some (.slice el) ∧ (P.info? el).map (fun i => (i.size, i.bytes, i.zero.map (·.cells.size))) = some (sz, bytes, some sz)

section
variable {P : Program} {w : World} {l r : List HP} {Q : Post} {S : World → Prop}

theorem wp_newZ {T : TypeId} {z : Value} [hz : Zer P T z] {k : Addr × Unit → Prog} (hs : Sat w l)
    (h : ∀ b w', Sat w' (pt b (.cells z.cells T) :: l) → S w' ∧ (k (⟨b, 0, none⟩, ())).wp P S w' Q) : (Prog.act (new T) sA k).wp P S w Q := wp_new' hz.ok hs h

theorem SlT.parts {t el : TypeId} {sz bytes : Nat} (h : SlT P t el sz bytes) : ∃ i z, P.info? el = some i ∧ i.size = sz ∧ i.bytes = bytes ∧ i.zero = some z ∧ z.cells.size = i.size := by
  obtain ⟨h1, h2⟩ := h.ok
  cases hi : P.info? el with
  | none => rw [hi] at h2; cases h2
  | some i =>
    rw [hi] at h2
    simp only [Option.map_some, Option.some.injEq, Prod.mk.injEq] at h2
    obtain ⟨e1, e2, e3⟩ := h2
    cases hz : i.zero with
    | none => rw [hz] at e3; cases e3
    | some z => rw [hz] at e3; exact ⟨i, z, rfl, e1, e2, hz, by simp only [Option.map_some, Option.some.injEq] at e3; rw [e3, e1]⟩

/-- append of one slice to another that owns its array. -/
theorem wp_ap {t tx ty el el' : TypeId} {sz bytes sz' bytes' : Nat} {x y : Sl} {cs ds : List Value} {k : Sl × Unit → Prog} [ht : SlT P t el sz bytes] [htx : SlT P tx el' sz' bytes'] (hs : Sat w l) [hf : FocS l x el sz cs r]
    (hy : Rd w sz y ds) (h1 : ∀ u ∈ ds, u.oneCell' = true) (hbound : (x.len + y.len) * bytes ≤ 140737488355328) (h63 : x.len + y.len ≤ 9223372036854775807)
    (h : ∀ z w', z.len = x.len + y.len → Sat w' (slc el sz z (cs ++ ds) :: r) → S w' ∧ (k (z, ())).wp P S w' Q) : (Prog.act (app t tx ty x.v y.v) sL k).wp P S w Q := by
  obtain ⟨i, z, hi, rfl, rfl, hz, hzs⟩ := ht.parts
  obtain ⟨z, w', hrun, hlen, hs', _⟩ := app_spec (ty := ty) ht.ok.1 hi hz hzs (hs.focS x) (src_of ⟨_, htx.ok.1⟩ hy h1) hbound h63
  have h' := h z w' hlen hs'
  exact ⟨(z, ()), w', hrun, h'.1, h'.2⟩

/-- 'append(x, v)': the one element comes in a slice of its own. -/
theorem wp_ap1 {t ty el : TypeId} {sz bytes : Nat} {x : Sl} {cs : List Value} {ps : Array (Nat × Value)} {arr : Array Value} {k : Sl × Unit → Prog} [ht : SlT P t el sz bytes] (hs : Sat w l) [hf : FocS l x el sz cs r]
    (hps : bsCells P t 1 ps = some (el, arr)) (harr : arr.size = sz) (h1 : ∀ u ∈ arr.toList, u.oneCell' = true) (hbound : (x.len + 1) * bytes ≤ 140737488355328) (h63 : x.len + 1 ≤ 9223372036854775807)
    (h : ∀ z w', z.len = x.len + 1 → Sat w' (slc el sz z (cs ++ arr.toList) :: r) → S w' ∧ (k (z, ())).wp P S w' Q) (hS : ∀ w', Sat w' l → S w') :
    (Prog.act (Instr.buildSlice t 1 ps) sL (u1 fun y => .act (app t t ty x.v y.v) sL k)).wp P S w Q := by
  have hp := hs.push (o := .cells arr el) (w' := { w with heap := w.heap.push (.cells arr el) }) rfl
  refine ⟨(⟨some ⟨w.heap.size, 0, none⟩, 1, 1⟩, ()), _, run_bs hps, hS _ hp.tail, ?_⟩
  have hrd : Rd { w with heap := w.heap.push (.cells arr el) } sz ⟨some ⟨w.heap.size, 0, none⟩, 1, 1⟩ arr.toList := Rd.pt hp (by simp [harr])
  exact wp_ap (ht := ht) (htx := ht) (x := x) (y := ⟨some ⟨w.heap.size, 0, none⟩, 1, 1⟩) hp.tail hrd h1 hbound h63 h

end
end Go.Dec
