/- Ops, part A: what the operations on memory do to its parts. -/
import Derived.Test.YtpjfebedfejmgaaSat
namespace Go.Dec
set_option linter.unusedVariables false
set_option linter.unusedSimpArgs false

abbrev tt : World → Prop := fun _ => True

def zeroOf (P : Program) (T : TypeId) : Option Value := match P.info? T with
  | some i => i.zero
  | none => none

section
variable {P : Program} {w : World} {l : List HP} {Q : Post} {S : World → Prop}

/-! ### The steps of a Prog, one rule each -/
theorem wp_done {e : Nat} {vs : List Value} (h : Q e vs w) : (Prog.done e vs).wp P S w Q := h
theorem wp_must {c : Prop} {k : Prog} (hc : c) (h : k.wp P S w Q) : (Prog.must c k).wp P S w Q := ⟨hc, h⟩
theorem wp_lt {p : Pr} {x : p.D} {k : p.D → Prog} (h : (k x).wp P S w Q) : (Prog.lt p x k).wp P S w Q := h
theorem wp_lt_eq {p : Pr} {x : p.D} {k : p.D → Prog} (h : ∀ y, y = x → (k y).wp P S w Q) : (Prog.lt p x k).wp P S w Q := h x rfl
theorem wp_ite {b : Bool} {p q : Prog} (h1 : b = true → p.wp P S w Q) (h2 : b = false → q.wp P S w Q) : (Prog.ite b p q).wp P S w Q := ⟨h1, h2⟩
theorem wp_ite_t {b : Bool} {p q : Prog} (hb : b = true) (h : p.wp P S w Q) : (Prog.ite b p q).wp P S w Q := ⟨fun _ => h, fun h' => (by rw [hb] at h'; cases h')⟩
theorem wp_ite_f {b : Bool} {p q : Prog} (hb : b = false) (h : q.wp P S w Q) : (Prog.ite b p q).wp P S w Q := ⟨fun h' => (by rw [hb] at h'; cases h'), fun _ => h⟩
theorem wp_ex {ps : List Pr} {c : HL ps → Prop} {k : HL ps → Prog} (x : HL ps) (hc : c x) (h : (k x).wp P S w Q) : (Prog.ex ps c k).wp P S w Q := ⟨x, hc, h⟩
theorem wp_read {g : Prop} {m : Sem Value} {s : Sh} {k : HL s.prims → Prog} (x : HL s.prims) (hm : g → m.run P w = .ok (s.mk x) w) (h : (k x).wp P S w Q) : (Prog.read g m s k).wp P S w Q := ⟨x, hm, h⟩
theorem wp_tick {k : Prog} (h : ∀ w', SameW w' w → k.wp P S w' Q) : (Prog.tick k).wp P S w Q := h _ ⟨rfl, rfl, rfl⟩
theorem wp_untick {k : Prog} (h : k.wp P tt w Q) : (Prog.untick k).wp P S w Q := h
theorem wp_both {p q : Prog} (h1 : p.wp P S w Q) (h2 : q.wp P S w Q) : (Prog.both p q).wp P S w Q := ⟨h1, h2⟩
theorem wp_bind {e : Nat} {ss : List Sh1} {p : Prog} {k : HL (prims ss) → Prog}
    (h : p.wp P S w (Q.catch e fun vs w' => ∃ x, vs = valsOf ss x ∧ (k x).wp P S w' Q)) : (Prog.bind e ss p k).wp P S w Q := h
/-- What lies between. -/
theorem wp_mid {e : Nat} {ss : List Sh1} {p : Prog} {k : HL (prims ss) → Prog} (M : HL (prims ss) → World → Prop)
    (hp : p.wp P S w (Q.catch e fun vs w' => ∃ x, vs = valsOf ss x ∧ M x w')) (hk : ∀ x w, M x w → (k x).wp P S w Q) : (Prog.bind e ss p k).wp P S w Q :=
  Prog.wp_mono p (fun e' vs w h => ⟨fun he => let ⟨x, hx, hm⟩ := h.1 he; ⟨x, hx, hk x w hm⟩, h.2⟩) hp
theorem wp_loop {e : Nat} {ss : List Sh1} {x : HL (prims ss)} {body : HL (prims ss) → Prog} (I : Nat → HL (prims ss) → World → Prop) (n : Nat) (h0 : I n x w)
    (h : ∀ n x w, I n x w → (body x).wp P S w (Q.catch e fun vs w' => ∃ x' m, m < n ∧ vs = valsOf ss x' ∧ I m x' w')) : (Prog.loop e ss x body).wp P S w Q := ⟨I, ⟨n, h0⟩, h⟩

/-- The post at a tag that is caught, and at another. -/
theorem catch_here {e : Nat} {C : List Value → World → Prop} {vs : List Value} (h : C vs w) : (Post.catch Q e C) e vs w := ⟨fun _ => h, fun h' => absurd rfl h'⟩
theorem wp_leave {e : Nat} {C : List Value → World → Prop} {vs : List Value} (h : C vs w) : (Prog.done e vs).wp P S w (Post.catch Q e C) := catch_here h
theorem wp_pass {e e' : Nat} {C : List Value → World → Prop} {vs : List Value} (h : (Prog.done e' vs).wp P S w Q) (hne : Nat.beq e' e = false := by rfl) : (Prog.done e' vs).wp P S w (Post.catch Q e C) :=
  ⟨fun h' => absurd h' (Nat.ne_of_beq_eq_false hne), fun _ => h⟩
theorem catch_other {e e' : Nat} {C : List Value → World → Prop} {vs : List Value} (hne : e' ≠ e) (h : Q e' vs w) : (Post.catch Q e C) e' vs w := ⟨fun h' => absurd h' hne, fun _ => h⟩

/-- A call, by a contract: what it returns, its shape told. -/
theorem wp_call {f : FuncId} {args : List Value} {s : Sh} {k : HL s.prims → Prog} {R : List Value → World → Prop}
    (hc : Calls P f args.toArray w fun e w' => ∃ vs, e = .returned (pack vs) ∧ R vs w')
    (h : ∀ vs w', R vs w' → ∃ x, pack vs = s.mk x ∧ S w' ∧ (k x).wp P S w' Q) : (Prog.call f args s k).wp P S w Q := by
  refine Calls.mono hc fun e w' ⟨vs, he, hR⟩ => ?_
  obtain ⟨x, hx, hS, hk⟩ := h vs w' hR
  exact ⟨x, by rw [he, hx], hS, hk⟩

/-! ### Runs -/
theorem run_newVar {T : TypeId} {v : Value} : (newVar T v).run P w = .ok ⟨w.heap.size, 0, none⟩ { w with heap := w.heap.push (.cells v.cells T) } := by
  simp [newVar, newRow]

theorem run_new {T : TypeId} {z : Value} (hz : zeroOf P T = some z) : (new T).run P w = .ok (.pointer (some ⟨w.heap.size, 0, none⟩)) { w with heap := w.heap.push (.cells z.cells T) } := by
  have : (zeroValue T).run P w = .ok z w := by
    unfold zeroOf at hz
    cases hi : P.info? T with
    | none => rw [hi] at hz; cases hz
    | some i => rw [hi] at hz; simp only at hz; simp [zeroValue, typeInfo, hi, hz]
  simp only [new, Instr.alloc, Sem.run_bind, this, Result.andThen_ok, run_newVar, Sem.run_pure]

theorem wp_new {T : TypeId} {k : Addr × Unit → Prog} {z : Value} (hz : zeroOf P T = some z) (hs : Sat w l)
    (h : ∀ b w', Sat w' (pt b (.cells z.cells T) :: l) → (k (⟨b, 0, none⟩, ())).wp P tt w' Q) : (Prog.act (new T) sA k).wp P tt w Q :=
  ⟨(⟨w.heap.size, 0, none⟩, ()), _, run_new hz, trivial, h _ _ (hs.push rfl)⟩

theorem wp_box {T : TypeId} {v : Value} {k : Addr × Unit → Prog} (hs : Sat w l)
    (h : ∀ b w', Sat w' (pt b (.cells v.cells T) :: l) → (k (⟨b, 0, none⟩, ())).wp P tt w' Q) : (Prog.act (Instr.box T v) sA k).wp P tt w Q :=
  ⟨(⟨w.heap.size, 0, none⟩, ()), { w with heap := w.heap.push (.cells v.cells T) }, by simp only [Instr.box, Sem.run_bind, run_newVar, Result.andThen_ok, Sem.run_pure], trivial, h _ _ (hs.push rfl)⟩

theorem cell_of {b off : Nat} {cs : Array Value} {T : TypeId} {fr : Nat × Nat} (hb : w.heap[b]? = some (.cells cs T fr)) : w.cell? ⟨b, off, none⟩ = cs[off]? := by
  simp [World.cell?, hb]

theorem add_mk (b off n : Nat) : (Addr.mk b off none).add n = ⟨b, off + n, none⟩ := by
  unfold Addr.add; split
  · rename_i h; subst h; rfl
  · rfl

theorem run_ld1 {T : TypeId} {b off : Nat} {cs : Array Value} {T' : TypeId} {fr : Nat × Nat} {v : Value} (hT : aggT P T = some false) (hb : w.heap[b]? = some (.cells cs T' fr)) (hc : cs[off]? = some v) :
    (ld T ⟨b, off, none⟩).run P w = .ok v w := by
  simp only [ld, Instr.loadAt, Instr.sureAddr, loadVar, Sem.run_bind, Sem.run_pure, Result.andThen_ok, run_isAgg hT, Bool.false_eq_true, if_false, run_load, cell_of hb, hc]

theorem run_loadCells {b : Nat} {cs : Array Value} {T' : TypeId} {fr : Nat × Nat} (hb : w.heap[b]? = some (.cells cs T' fr)) :
    ∀ (n : Nat) {off i : Nat} {acc : Array Value}, off + i + n ≤ cs.size → (loadCellsFrom ⟨b, off, none⟩ i n acc).run P w = .ok (acc ++ cs.extract (off + i) (off + i + n)) w
  | 0, off, i, acc, h => by simp [loadCellsFrom]; omega
  | n + 1, off, i, acc, h => by
    have hlt : off + i < cs.size := by omega
    have hc : cs[off + i]? = some cs[off + i] := by simp [hlt]
    simp only [loadCellsFrom, Sem.run_bind, run_load, add_mk, cell_of hb, hc, Result.andThen_ok]
    rw [run_loadCells hb n (by omega)]
    congr 1
    apply Array.ext'
    simp only [Array.toList_append, Array.toList_push, List.append_assoc, Array.toList_extract, List.extract_eq_take_drop]
    congr 1
    rw [show off + i + (n + 1) - (off + i) = n + 1 by omega, show off + (i + 1) + n - (off + (i + 1)) = n by omega, show off + (i + 1) = off + i + 1 by omega]
    rw [List.drop_eq_getElem_cons (l := cs.toList) (i := off + i) (by simpa using hlt), List.take_succ_cons]
    simp

theorem run_ldA {T : TypeId} {b off n : Nat} {cs : Array Value} {T' : TypeId} {fr : Nat × Nat} (hT : aggT P T = some true) (hn : sizeOf? P T = some n) (hb : w.heap[b]? = some (.cells cs T' fr)) (hc : off + n ≤ cs.size) :
    (ld T ⟨b, off, none⟩).run P w = .ok (.agg (cs.extract off (off + n))) w := by
  simp only [ld, Instr.loadAt, Instr.sureAddr, loadVar, Sem.run_bind, Sem.run_pure, Result.andThen_ok, run_isAgg hT, if_true, run_sizeOf' hn, loadCells, run_loadCells hb n (i := 0) (by omega)]
  simp

/-- Cells, written over from a place on. -/
def putCells (cs : Array Value) : Nat → List Value → Array Value
  | _, [] => cs
  | off, v :: r => putCells (cs.setIfInBounds off v) (off + 1) r

def unfrozen (fr : Nat × Nat) (lo n : Nat) : Prop := ∀ i, lo ≤ i → i < lo + n → ¬ (fr.1 ≤ i ∧ i < fr.2)

theorem unfrozen_zero (lo n : Nat) : unfrozen (0, 0) lo n := fun i _ _ h => by simp at h

theorem setCell_eq {b off : Nat} {v : Value} {cs : Array Value} {T' : TypeId} {fr : Nat × Nat} (hb : w.heap[b]? = some (.cells cs T' fr)) :
    w.setCell ⟨b, off, none⟩ v = setB w b (.cells (cs.setIfInBounds off v) T' fr) := by
  unfold World.setCell setB
  congr 1
  apply Array.ext_getElem?
  intro i
  rw [Array.getElem?_modify, Array.getElem?_setIfInBounds]
  have hlt : b < w.heap.size := (Array.getElem?_eq_some_iff.1 hb).1
  by_cases hi : b = i
  · subst hi
    have hg : w.heap[b] = .cells cs T' fr := by
      have := hb; rw [Array.getElem?_eq_getElem hlt] at this; exact Option.some.inj this
    simp [hg, hlt]
  · simp [hi]

theorem setB_setB {b : Nat} {o o' : Obj} : setB (setB w b o) b o' = setB w b o' := by simp [setB]

theorem get_setB {b : Nat} {o o' : Obj} (hb : w.heap[b]? = some o) : (setB w b o').heap[b]? = some o' := by
  have hlt : b < w.heap.size := (Array.getElem?_eq_some_iff.1 hb).1
  simp [setB, hlt]

theorem run_storeCells {b : Nat} {T' : TypeId} {fr : Nat × Nat} : ∀ (vs : List Value) {w : World} {cs : Array Value} {off i : Nat}, w.heap[b]? = some (.cells cs T' fr) → off + i + vs.length ≤ cs.size →
    unfrozen fr (off + i) vs.length → (∀ v ∈ vs, v.oneCell' = true) → (storeCells ⟨b, off, none⟩ vs i).run P w = .ok () (setB w b (.cells (putCells cs (off + i) vs) T' fr))
  | [], w, cs, off, i, hb, hsz, hf, hv => by
    show Result.ok () w = _
    simp only [putCells]
    congr 1
    unfold setB
    have hlt : b < w.heap.size := (Array.getElem?_eq_some_iff.1 hb).1
    have : w.heap.setIfInBounds b (.cells cs T' fr) = w.heap := by
      apply Array.ext_getElem?
      intro j
      rw [Array.getElem?_setIfInBounds]
      by_cases hj : b = j
      · subst hj
        have hg : w.heap[b] = .cells cs T' fr := by
          have := hb; rw [Array.getElem?_eq_getElem hlt] at this; exact Option.some.inj this
        simp [hlt, hg]
      · simp [hj]
    rw [this]
  | v :: r, w, cs, off, i, hb, hsz, hf, hv => by
    rw [List.length_cons] at hsz hf
    have hlt : off + i < cs.size := by omega
    have hfz : w.frozen? ⟨b, off + i, none⟩ = false := by
      have := hf (off + i) (by omega) (by omega)
      simp only [World.frozen?, hb]
      simpa using this
    simp only [storeCells, Sem.run_bind, run_store _ _ _ _ _ (hv v (List.mem_cons_self ..)), add_mk, cell_of hb]
    rw [show cs[off + i]? = some cs[off + i] by simp [hlt]]
    simp only [hfz, Bool.false_eq_true, if_false, Result.andThen_ok, setCell_eq hb]
    rw [run_storeCells r (get_setB hb) (by simp; omega) (fun j h1 h2 => hf j (by omega) (by omega)) (fun v hv' => hv v (List.mem_cons_of_mem _ hv')), setB_setB]
    rfl

theorem run_st {T : TypeId} {b off : Nat} {cs : Array Value} {T' : TypeId} {fr : Nat × Nat} {v : Value} {n : Nat} (hn : sizeOf? P T = some n) (hb : w.heap[b]? = some (.cells cs T' fr)) (hsz : off + n ≤ cs.size)
    (hv : v.cells.size = n) (hone : ∀ x ∈ v.cells.toList, x.oneCell' = true) (hf : unfrozen fr off n) :
    (st T ⟨b, off, none⟩ v).run P w = .ok () (setB w b (.cells (putCells cs off v.cells.toList) T' fr)) := by
  simp only [st, Instr.storeAt, Instr.sureAddr, storeVar, Sem.run_bind, Sem.run_pure, Result.andThen_ok, run_sizeOf' hn]
  rw [if_neg (by simp [hv])]
  exact run_storeCells _ (i := 0) hb (by simp [hv]; omega) (by simpa [hv] using hf) hone

theorem wp_st {T : TypeId} {b off : Nat} {cs : Array Value} {T' : TypeId} {fr : Nat × Nat} {v : Value} {n : Nat} {k : Prog} (hs : Sat w (pt b (.cells cs T' fr) :: l)) (hn : sizeOf? P T = some n) (hsz : off + n ≤ cs.size)
    (hv : v.cells.size = n) (hone : ∀ x ∈ v.cells.toList, x.oneCell' = true) (hf : unfrozen fr off n)
    (h : ∀ w', Sat w' (pt b (.cells (putCells cs off v.cells.toList) T' fr) :: l) → k.wp P tt w' Q) : (Prog.actU (st T ⟨b, off, none⟩ v) k).wp P tt w Q :=
  ⟨_, run_st hn hs.get hsz hv hone hf, trivial, h _ hs.set⟩

end
end Go.Dec
namespace Go.Dec
section
variable {P : Program} {w : World} {Q : Post}

/-- A call whose result is told. -/
theorem wp_callr {f : FuncId} {args : List Value} {s : Sh} {k : HL s.prims → Prog} {vs₀ : List Value} {R : World → Prop} (x : HL s.prims)
    (hc : Calls P f args.toArray w fun e w' => ∃ vs, e = .returned (pack vs) ∧ vs = vs₀ ∧ R w') (hx : pack vs₀ = s.mk x)
    (h : ∀ w', R w' → (k x).wp P tt w' Q) : (Prog.call f args s k).wp P tt w Q :=
  wp_call hc fun vs w' ⟨hv, hR⟩ => ⟨x, by rw [hv, hx], trivial, h w' hR⟩

/-- What a call returns, and what it leaves. -/
abbrev Ret (P : Program) (f : FuncId) (args : Array Value) (w : World) (R : List Value → World → Prop) : Prop :=
  Calls P f args w fun e w' => ∃ vs, e = .returned (pack vs) ∧ R vs w'

end
end Go.Dec
