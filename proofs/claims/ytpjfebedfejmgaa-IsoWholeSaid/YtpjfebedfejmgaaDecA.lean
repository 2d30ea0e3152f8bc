/- Dec, part A: a small shallow language 'Prog' for what a Go function does, its wp, and the data that a decompiled function handles. -/
import Derived.OrdersHeld
import Derived.KernelRfl
import Derived.Laws.Sem
namespace Go.Dec

/-- The kinds of one cell. 'adr': a pointer that is not nil. 'any': any value. -/
inductive Pr where
  | int (k : IntKind) | bool | str | ptr | adr | slc | map | any

structure Sl where
  a : Option Addr
  len : Nat
  cap : Nat

@[reducible] def Pr.D : Pr → Type
  | .int _ => Int | .bool => Bool | .str => ByteArray | .ptr => Option Addr | .adr => Addr | .slc => Sl | .map => Option Nat | .any => Value

@[reducible] def Pr.mk : (p : Pr) → p.D → Value
  | .int k, n => .int k n
  | .bool, x => .bool x
  | .str, x => .string x
  | .ptr, x => .pointer x
  | .adr, x => .pointer (some x)
  | .slc, x => .slice x.a x.len x.cap
  | .map, x => .map x
  | .any, x => x

@[reducible] def HL : List Pr → Type
  | [] => Unit
  | p :: ps => p.D × HL ps

@[reducible] def HL.vals : (ps : List Pr) → HL ps → List Value
  | [], _ => []
  | p :: ps, x => p.mk x.1 :: HL.vals ps x.2

/-- The shape of a value: one cell, or a struct or array of so many cells. -/
inductive Sh1 where
  | one (p : Pr) | agg (ps : List Pr)

@[reducible] def Sh1.prims : Sh1 → List Pr
  | .one p => [p]
  | .agg ps => ps

@[reducible] def prims : List Sh1 → List Pr
  | [] => []
  | s :: r => s.prims ++ prims r

/-- The values of shapes out of their cells. -/
@[reducible] def build : List Sh1 → List Value → List Value
  | [], _ => []
  | .one _ :: r, v :: vs => v :: build r vs
  | .one _ :: _, [] => []
  | .agg ps :: r, vs => .agg (vs.take ps.length).toArray :: build r (vs.drop ps.length)

inductive Sh where
  | one (s : Sh1) | tup (l : List Sh1)

@[reducible] def Sh.prims : Sh → List Pr
  | .one s => s.prims
  | .tup l => Dec.prims l

@[reducible] def hdV : List Value → Value
  | v :: _ => v
  | [] => undef

@[reducible] def Sh.mk : (s : Sh) → HL s.prims → Value
  | .one (.one p), x => p.mk x.1
  | .one (.agg ps), x => .agg (HL.vals ps x).toArray
  | .tup l, x => .tuple (build l (HL.vals (Dec.prims l) x)).toArray

@[reducible] def valsOf (ss : List Sh1) (x : HL (prims ss)) : List Value := build ss (HL.vals (prims ss) x)

inductive Prog : Type where
  | fail (why : Nat)
  | done (e : Nat) (vs : List Value)
  | must (c : Prop) (k : Prog)
  | lt (p : Pr) (x : p.D) (k : p.D → Prog)
  | ex (ps : List Pr) (c : HL ps → Prop) (k : HL ps → Prog)
  | read (g : Prop) (m : Sem Value) (s : Sh) (k : HL s.prims → Prog)
  | hold (g : Prop) (m : Sem Value) (s : Sh) (k : HL s.prims → Prog)
  | act (m : Sem Value) (s : Sh) (k : HL s.prims → Prog)
  | actU (m : Sem Unit) (k : Prog)
  | next (m : Sem Value) (ss : List Sh1) (k1 : HL (prims ss) → Prog) (k0 : Prog)
  | call (f : FuncId) (args : List Value) (s : Sh) (k : HL s.prims → Prog)
  | callv (f : Value) (args : List Value) (s : Sh) (k : HL s.prims → Prog)
  | ite (b : Bool) (p q : Prog)
  | bind (e : Nat) (ss : List Sh1) (p : Prog) (k : HL (prims ss) → Prog)
  | loop (e : Nat) (ss : List Sh1) (x : HL (prims ss)) (body : HL (prims ss) → Prog)
  | both (p q : Prog)
  | tick (k : Prog)
  | untick (k : Prog)

abbrev Post := Nat → List Value → World → Prop

/-- What becomes of a post where the tag 'e' is caught. -/
@[reducible] def Post.catch (Q : Post) (e : Nat) (C : List Value → World → Prop) : Post := fun e' vs w => (e' = e → C vs w) ∧ (e' ≠ e → Q e' vs w)

def Prog.wp (P : Program) : Prog → (World → Prop) → World → Post → Prop
  | .fail _, _, _, _ => False
  | .done e vs, _, w, Q => Q e vs w
  | .must c k, S, w, Q => c ∧ k.wp P S w Q
  | .lt _ x k, S, w, Q => (k x).wp P S w Q
  | .ex _ c k, S, w, Q => ∃ x, c x ∧ (k x).wp P S w Q
  | .read g m s k, S, w, Q => ∃ x, (g → m.run P w = .ok (s.mk x) w) ∧ (k x).wp P S w Q
  | .hold g m s k, S, w, Q => ∃ x, (g → m.run P w = .ok (s.mk x) w) ∧ (k x).wp P (fun w' => S w' ∧ (g → m.run P w' = .ok (s.mk x) w')) w Q
  | .act m s k, S, w, Q => ∃ x w', m.run P w = .ok (s.mk x) w' ∧ S w' ∧ (k x).wp P S w' Q
  | .actU m k, S, w, Q => ∃ w', m.run P w = .ok () w' ∧ S w' ∧ k.wp P S w' Q
  | .next m ss k1 k0, S, w, Q =>
    (∃ x w', m.run P w = .ok (.tuple (.bool true :: valsOf ss x).toArray) w' ∧ S w' ∧ (k1 x).wp P S w' Q) ∨
    (∃ w', m.run P w = .ok (.tuple #[.bool false]) w' ∧ S w' ∧ k0.wp P S w' Q)
  | .call f args s k, S, w, Q => Calls P f args.toArray w fun e w' => ∃ x, e = .returned (s.mk x) ∧ S w' ∧ (k x).wp P S w' Q
  | .callv fv args s k, S, w, Q => ∃ f first cap, fv = .func (.func f) first cap ∧ (P.funcs[f]?).any (fun fn => fn.body.isSome && fn.name != "runtime.NumGoroutine") = true ∧
      Calls P f (first ++ args.toArray ++ cap) w fun e w' => ∃ x, e = .returned (s.mk x) ∧ S w' ∧ (k x).wp P S w' Q
  | .ite b p q, S, w, Q => (b = true → p.wp P S w Q) ∧ (b = false → q.wp P S w Q)
  | .bind e ss p k, S, w, Q => p.wp P S w (Q.catch e fun vs w' => ∃ x, vs = valsOf ss x ∧ (k x).wp P S w' Q)
  | .loop e ss x body, S, w, Q => ∃ I : Nat → HL (prims ss) → World → Prop, (∃ n, I n x w) ∧
      ∀ n x w, I n x w → (body x).wp P S w (Q.catch e fun vs w' => ∃ x' m, m < n ∧ vs = valsOf ss x' ∧ I m x' w')
  | .both p q, S, w, Q => p.wp P S w Q ∧ q.wp P S w Q
  | .tick k, S, w, Q => k.wp P S { w with drawn := w.drawn + 1 } Q
  | .untick k, _, w, Q => k.wp P (fun _ => True) w Q

/-- A post may be weakened. -/
theorem Prog.wp_mono {P : Program} (p : Prog) : ∀ {S : World → Prop} {w : World} {Q Q' : Post}, (∀ e vs w, Q e vs w → Q' e vs w) → p.wp P S w Q → p.wp P S w Q' := by
  induction p with
  | fail _ => exact fun _ h => h
  | done e vs => exact fun hq h => hq _ _ _ h
  | must c k ih => exact fun hq h => ⟨h.1, ih hq h.2⟩
  | lt p x k ih => exact fun hq h => ih x hq h
  | ex ps c k ih => exact fun hq ⟨x, hc, h⟩ => ⟨x, hc, ih x hq h⟩
  | read g m s k ih => exact fun hq ⟨x, hc, h⟩ => ⟨x, hc, ih x hq h⟩
  | hold g m s k ih => exact fun hq ⟨x, hc, h⟩ => ⟨x, hc, ih x hq h⟩
  | act m s k ih => exact fun hq ⟨x, w', hc, hs, h⟩ => ⟨x, w', hc, hs, ih x hq h⟩
  | actU m k ih => exact fun hq ⟨w', hc, hs, h⟩ => ⟨w', hc, hs, ih hq h⟩
  | next m ss k1 k0 ih1 ih0 =>
    intro S w Q Q' hq h
    rcases h with ⟨x, w', hc, hs, h⟩ | ⟨w', hc, hs, h⟩
    · exact .inl ⟨x, w', hc, hs, ih1 x hq h⟩
    · exact .inr ⟨w', hc, hs, ih0 hq h⟩
  | call f args s k ih => exact fun hq h => Calls.mono h fun e w' ⟨x, he, hs, h⟩ => ⟨x, he, hs, ih x hq h⟩
  | callv f args s k ih => exact fun hq ⟨f, a, b, h1, h2, h⟩ => ⟨f, a, b, h1, h2, Calls.mono h fun e w' ⟨x, he, hs, h⟩ => ⟨x, he, hs, ih x hq h⟩⟩
  | ite b p q ih1 ih2 => exact fun hq h => ⟨fun hb => ih1 hq (h.1 hb), fun hb => ih2 hq (h.2 hb)⟩
  | bind e ss p k ih1 ih2 =>
    exact fun hq h => ih1 (fun e' vs w h' => ⟨fun he => let ⟨x, hx, h''⟩ := h'.1 he; ⟨x, hx, ih2 x hq h''⟩, fun he => hq _ _ _ (h'.2 he)⟩) h
  | loop e ss x body ih =>
    exact fun hq ⟨I, h0, h⟩ => ⟨I, h0, fun n x w hI => ih x (fun e' vs w h' => ⟨h'.1, fun he => hq _ _ _ (h'.2 he)⟩) (h n x w hI)⟩
  | both p q ih1 ih2 => exact fun hq h => ⟨ih1 hq h.1, ih2 hq h.2⟩
  | tick k ih => exact fun hq h => ih hq h
  | untick k ih => exact fun hq h => ih hq h

end Go.Dec
