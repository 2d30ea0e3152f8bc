/- Dec, part T: words that shorten a decompiled text. -/
import Derived.Test.YtpjfebedfejmgaaDecG
namespace Go.Dec

@[reducible] def u0 (p : Prog) : Unit → Prog := fun _ => p
@[reducible] def u1 {α : Type} (f : α → Prog) : α × Unit → Prog := fun x => f x.1
@[reducible] def u2 {α β : Type} (f : α → β → Prog) : α × β × Unit → Prog := fun x => f x.1 x.2.1
@[reducible] def u3 {α β γ : Type} (f : α → β → γ → Prog) : α × β × γ × Unit → Prog := fun x => f x.1 x.2.1 x.2.2.1
@[reducible] def u4 {α β γ δ : Type} (f : α → β → γ → δ → Prog) : α × β × γ × δ × Unit → Prog := fun x => f x.1 x.2.1 x.2.2.1 x.2.2.2.1
@[reducible] def u5 {α β γ δ ε : Type} (f : α → β → γ → δ → ε → Prog) : α × β × γ × δ × ε × Unit → Prog := fun x => f x.1 x.2.1 x.2.2.1 x.2.2.2.1 x.2.2.2.2.1
@[reducible] def u6 {α β γ δ ε ζ : Type} (f : α → β → γ → δ → ε → ζ → Prog) : α × β × γ × δ × ε × ζ × Unit → Prog := fun x => f x.1 x.2.1 x.2.2.1 x.2.2.2.1 x.2.2.2.2.1 x.2.2.2.2.2.1
@[reducible] def u7 {α β γ δ ε ζ η : Type} (f : α → β → γ → δ → ε → ζ → η → Prog) : α × β × γ × δ × ε × ζ × η × Unit → Prog := fun x => f x.1 x.2.1 x.2.2.1 x.2.2.2.1 x.2.2.2.2.1 x.2.2.2.2.2.1 x.2.2.2.2.2.2.1

@[reducible] def ld (t : TypeId) (a : Addr) : Sem Value := Instr.loadAt t (.pointer (some a))
@[reducible] def st (t : TypeId) (a : Addr) (v : Value) : Sem Unit := Instr.storeAt t (.pointer (some a)) v
@[reducible] def new (t : TypeId) : Sem Value := Instr.alloc t true (.tuple #[])
@[reducible] def app (t u r : TypeId) (x y : Value) : Sem Value := Builtin.append_ #[t, u] r #[x, y]
@[reducible] def c1 {α : Type} (f : α → Prop) : α × Unit → Prop := fun x => f x.1
@[reducible] def bodyOf (f : Func) : Code := f.body.getD .skip

@[reducible] def sI (k : IntKind) : Sh := .one (.one (.int k))
@[reducible] def sB : Sh := .one (.one .bool)
@[reducible] def sS : Sh := .one (.one .str)
@[reducible] def sP : Sh := .one (.one .ptr)
@[reducible] def sA : Sh := .one (.one .adr)
@[reducible] def sL : Sh := .one (.one .slc)
@[reducible] def sM : Sh := .one (.one .map)
@[reducible] def sV : Sh := .one (.one .any)
@[reducible] def sG (l : List Pr) : Sh := .one (.agg l)
@[reducible] def Sl.v (l : Sl) : Value := .slice l.a l.len l.cap

theorem isFn_of {P : Program} {f : FuncId} {fn : Func} {n : Nat} {rv : List RV} (h : P.funcs[f]? = some fn) (hb : fn.body.isSome = true) (hn : fn.ntmps = n) (hr : rvOf fn.results.toList = rv) :
    IsFn P f n rv (bodyOf fn) :=
  ⟨fn, h, by unfold bodyOf; cases hc : fn.body <;> simp_all, hn, hr⟩
@[reducible] def u8 {A0 A1 A2 A3 A4 A5 A6 A7 : Type} (f : A0 → A1 → A2 → A3 → A4 → A5 → A6 → A7 → Prog) : A0 × A1 × A2 × A3 × A4 × A5 × A6 × A7 × Unit → Prog := fun x => f x.1 x.2.1 x.2.2.1 x.2.2.2.1 x.2.2.2.2.1 x.2.2.2.2.2.1 x.2.2.2.2.2.2.1 x.2.2.2.2.2.2.2.1
@[reducible] def u9 {A0 A1 A2 A3 A4 A5 A6 A7 A8 : Type} (f : A0 → A1 → A2 → A3 → A4 → A5 → A6 → A7 → A8 → Prog) : A0 × A1 × A2 × A3 × A4 × A5 × A6 × A7 × A8 × Unit → Prog := fun x => f x.1 x.2.1 x.2.2.1 x.2.2.2.1 x.2.2.2.2.1 x.2.2.2.2.2.1 x.2.2.2.2.2.2.1 x.2.2.2.2.2.2.2.1 x.2.2.2.2.2.2.2.2.1
@[reducible] def u10 {A0 A1 A2 A3 A4 A5 A6 A7 A8 A9 : Type} (f : A0 → A1 → A2 → A3 → A4 → A5 → A6 → A7 → A8 → A9 → Prog) : A0 × A1 × A2 × A3 × A4 × A5 × A6 × A7 × A8 × A9 × Unit → Prog := fun x => f x.1 x.2.1 x.2.2.1 x.2.2.2.1 x.2.2.2.2.1 x.2.2.2.2.2.1 x.2.2.2.2.2.2.1 x.2.2.2.2.2.2.2.1 x.2.2.2.2.2.2.2.2.1 x.2.2.2.2.2.2.2.2.2.1
@[reducible] def u11 {A0 A1 A2 A3 A4 A5 A6 A7 A8 A9 A10 : Type} (f : A0 → A1 → A2 → A3 → A4 → A5 → A6 → A7 → A8 → A9 → A10 → Prog) : A0 × A1 × A2 × A3 × A4 × A5 × A6 × A7 × A8 × A9 × A10 × Unit → Prog := fun x => f x.1 x.2.1 x.2.2.1 x.2.2.2.1 x.2.2.2.2.1 x.2.2.2.2.2.1 x.2.2.2.2.2.2.1 x.2.2.2.2.2.2.2.1 x.2.2.2.2.2.2.2.2.1 x.2.2.2.2.2.2.2.2.2.1 x.2.2.2.2.2.2.2.2.2.2.1
@[reducible] def u12 {A0 A1 A2 A3 A4 A5 A6 A7 A8 A9 A10 A11 : Type} (f : A0 → A1 → A2 → A3 → A4 → A5 → A6 → A7 → A8 → A9 → A10 → A11 → Prog) : A0 × A1 × A2 × A3 × A4 × A5 × A6 × A7 × A8 × A9 × A10 × A11 × Unit → Prog := fun x => f x.1 x.2.1 x.2.2.1 x.2.2.2.1 x.2.2.2.2.1 x.2.2.2.2.2.1 x.2.2.2.2.2.2.1 x.2.2.2.2.2.2.2.1 x.2.2.2.2.2.2.2.2.1 x.2.2.2.2.2.2.2.2.2.1 x.2.2.2.2.2.2.2.2.2.2.1 x.2.2.2.2.2.2.2.2.2.2.2.1
@[reducible] def u13 {A0 A1 A2 A3 A4 A5 A6 A7 A8 A9 A10 A11 A12 : Type} (f : A0 → A1 → A2 → A3 → A4 → A5 → A6 → A7 → A8 → A9 → A10 → A11 → A12 → Prog) : A0 × A1 × A2 × A3 × A4 × A5 × A6 × A7 × A8 × A9 × A10 × A11 × A12 × Unit → Prog := fun x => f x.1 x.2.1 x.2.2.1 x.2.2.2.1 x.2.2.2.2.1 x.2.2.2.2.2.1 x.2.2.2.2.2.2.1 x.2.2.2.2.2.2.2.1 x.2.2.2.2.2.2.2.2.1 x.2.2.2.2.2.2.2.2.2.1 x.2.2.2.2.2.2.2.2.2.2.1 x.2.2.2.2.2.2.2.2.2.2.2.1 x.2.2.2.2.2.2.2.2.2.2.2.2.1
@[reducible] def u14 {A0 A1 A2 A3 A4 A5 A6 A7 A8 A9 A10 A11 A12 A13 : Type} (f : A0 → A1 → A2 → A3 → A4 → A5 → A6 → A7 → A8 → A9 → A10 → A11 → A12 → A13 → Prog) : A0 × A1 × A2 × A3 × A4 × A5 × A6 × A7 × A8 × A9 × A10 × A11 × A12 × A13 × Unit → Prog := fun x => f x.1 x.2.1 x.2.2.1 x.2.2.2.1 x.2.2.2.2.1 x.2.2.2.2.2.1 x.2.2.2.2.2.2.1 x.2.2.2.2.2.2.2.1 x.2.2.2.2.2.2.2.2.1 x.2.2.2.2.2.2.2.2.2.1 x.2.2.2.2.2.2.2.2.2.2.1 x.2.2.2.2.2.2.2.2.2.2.2.1 x.2.2.2.2.2.2.2.2.2.2.2.2.1 x.2.2.2.2.2.2.2.2.2.2.2.2.2.1
@[reducible] def u15 {A0 A1 A2 A3 A4 A5 A6 A7 A8 A9 A10 A11 A12 A13 A14 : Type} (f : A0 → A1 → A2 → A3 → A4 → A5 → A6 → A7 → A8 → A9 → A10 → A11 → A12 → A13 → A14 → Prog) : A0 × A1 × A2 × A3 × A4 × A5 × A6 × A7 × A8 × A9 × A10 × A11 × A12 × A13 × A14 × Unit → Prog := fun x => f x.1 x.2.1 x.2.2.1 x.2.2.2.1 x.2.2.2.2.1 x.2.2.2.2.2.1 x.2.2.2.2.2.2.1 x.2.2.2.2.2.2.2.1 x.2.2.2.2.2.2.2.2.1 x.2.2.2.2.2.2.2.2.2.1 x.2.2.2.2.2.2.2.2.2.2.1 x.2.2.2.2.2.2.2.2.2.2.2.1 x.2.2.2.2.2.2.2.2.2.2.2.2.1 x.2.2.2.2.2.2.2.2.2.2.2.2.2.1 x.2.2.2.2.2.2.2.2.2.2.2.2.2.2.1
@[reducible] def u16 {A0 A1 A2 A3 A4 A5 A6 A7 A8 A9 A10 A11 A12 A13 A14 A15 : Type} (f : A0 → A1 → A2 → A3 → A4 → A5 → A6 → A7 → A8 → A9 → A10 → A11 → A12 → A13 → A14 → A15 → Prog) : A0 × A1 × A2 × A3 × A4 × A5 × A6 × A7 × A8 × A9 × A10 × A11 × A12 × A13 × A14 × A15 × Unit → Prog := fun x => f x.1 x.2.1 x.2.2.1 x.2.2.2.1 x.2.2.2.2.1 x.2.2.2.2.2.1 x.2.2.2.2.2.2.1 x.2.2.2.2.2.2.2.1 x.2.2.2.2.2.2.2.2.1 x.2.2.2.2.2.2.2.2.2.1 x.2.2.2.2.2.2.2.2.2.2.1 x.2.2.2.2.2.2.2.2.2.2.2.1 x.2.2.2.2.2.2.2.2.2.2.2.2.1 x.2.2.2.2.2.2.2.2.2.2.2.2.2.1 x.2.2.2.2.2.2.2.2.2.2.2.2.2.2.1 x.2.2.2.2.2.2.2.2.2.2.2.2.2.2.2.1
end Go.Dec
