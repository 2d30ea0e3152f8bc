/- Dec, part B: what one operation comes to: the operands out of an environment, and the operations that touch no memory. -/
import Derived.Test.YtpjfebedfejmgaaDecA
namespace Go.Dec

/-- What a slot is known to hold. 'lit': a literal. 'adr': a pointer that is not nil. 'any': of no known form. -/
inductive Base where
  | val (v : Value) | lit (v : Value) | adr (a : Addr) | any (v : Value)

@[reducible] def Base.v : Base → Value
  | .val v => v
  | .lit v => v
  | .adr a => .pointer (some a)
  | .any v => v

structure Ent where
  b : Base
  g : Option (Nat × Bool)

abbrev Env := List (Nat × Option Base)
abbrev Ov := List (Nat × Ent)

def Env.get : Env → Nat → Option Base
  | [], _ => none
  | (t, e) :: r, s => bif Nat.beq t s then e else Env.get r s

def Ov.get (env : Env) : Ov → Nat → Option Ent
  | [], s => match env.get s with
    | some b => some ⟨b, none⟩
    | none => none
  | (t, e) :: r, s => bif Nat.beq t s then some e else Ov.get env r s

def sameG : Option (Nat × Bool) → Nat → Bool → Bool
  | some (s, w), t, u => Nat.beq s t && (w == u)
  | none, _, _ => false

def opE (env : Env) (ov : Ov) (g : Option (Nat × Bool)) : Operand → Option Base
  | .tmp t => match ov.get env t with
    | some ⟨b, none⟩ => some b
    | some ⟨b, some (s, w)⟩ => bif sameG g s w then some b else none
    | none => none
  | .const v => some (.lit v)
  | .global n => some (.adr ⟨n, 0, none⟩)
  | .func f => some (.val (.func (.func f) #[] #[]))

def opV (env : Env) (ov : Ov) (g : Option (Nat × Bool)) (x : Operand) : Value :=
  match opE env ov g x with
  | some b => b.v
  | none => undef

def isSomeB {α : Type} : Option α → Bool
  | some _ => true
  | none => false

def known (env : Env) (ov : Ov) (g : Option (Nat × Bool)) (o : Oper) : Bool :=
  o.op.operands.toList.all fun x => isSomeB (opE env ov g x)

def GHolds (a : Act) : Option (Nat × Bool) → Prop
  | none => True
  | some (s, w) => a.tmps[s]? = some (.bool w)

def Ent.Ok (a : Act) (s : Nat) (e : Ent) : Prop :=
  match e.g with
  | none => a.tmps[s]? = some e.b.v
  | some (t, w) => (a.tmps[t]? = some (.bool w) → a.tmps[s]? = some e.b.v) ∧ (¬ a.tmps[t]? = some (.bool w) → a.tmps[s]? = some undef)

structure Agree (n : Nat) (env : Env) (ov : Ov) (a : Act) : Prop where
  size : a.tmps.size = n
  defers : a.defers = []
  slots : ∀ s e, ov.get env s = some e → e.Ok a s

theorem sameG_eq {g : Option (Nat × Bool)} {s : Nat} {w : Bool} (h : sameG g s w = true) : g = some (s, w) := by
  cases g with
  | none => simp [sameG] at h
  | some x =>
    obtain ⟨t, u⟩ := x
    simp only [sameG, Bool.and_eq_true] at h
    rw [Nat.eq_of_beq_eq_true h.1, eq_of_beq h.2]

theorem opE_ok {n : Nat} {env : Env} {ov : Ov} {a : Act} {g : Option (Nat × Bool)} (ha : Agree n env ov a) (hg : GHolds a g) {x : Operand} {b : Base}
    (h : opE env ov g x = some b) : a.eval x = b.v := by
  cases x with
  | tmp t =>
    simp only [opE] at h
    have key : ∀ v, a.tmps[t]? = some v → a.eval (.tmp t) = v := fun v hv => by simp [Act.eval, hv]
    cases hget : ov.get env t with
    | none => rw [hget] at h; cases h
    | some e =>
      obtain ⟨b', g'⟩ := e
      rw [hget] at h
      have hs := ha.slots t _ hget
      cases g' with
      | none =>
        obtain rfl := Option.some.inj h
        exact key _ hs
      | some x =>
        obtain ⟨s, w⟩ := x
        simp only [cond_eq_ite] at h
        by_cases hsame : sameG g s w = true
        · rw [if_pos hsame] at h
          obtain rfl := Option.some.inj h
          have := sameG_eq hsame
          subst this
          exact key _ (hs.1 hg)
        · rw [if_neg hsame] at h; cases h
  | const v => simp only [opE] at h; obtain rfl := Option.some.inj h; rfl
  | global k => simp only [opE] at h; obtain rfl := Option.some.inj h; rfl
  | func f => simp only [opE] at h; obtain rfl := Option.some.inj h; rfl

theorem opV_ok {n : Nat} {env : Env} {ov : Ov} {a : Act} {g : Option (Nat × Bool)} (ha : Agree n env ov a) (hg : GHolds a g) {x : Operand}
    (h : isSomeB (opE env ov g x) = true) : opV env ov g x = a.eval x := by
  unfold opV
  cases hx : opE env ov g x with
  | none => rw [hx] at h; cases h
  | some b => exact (opE_ok ha hg hx).symm

def noSel : Op → Bool
  | .select _ _ => false
  | _ => true

theorem exec_known {n : Nat} {env : Env} {ov : Ov} {a : Act} {g : Option (Nat × Bool)} {o : Oper} (ha : Agree n env ov a) (hg : GHolds a g)
    (hk : known env ov g o = true) (hs : noSel o.op = true) : execOp a.eval o = execOp (opV env ov g) o := by
  refine execOp_congr o (fun cs b h => by rw [h] at hs; cases hs) fun x hx => ?_
  have := List.all_eq_true.1 hk x (by simpa using hx)
  exact (opV_ok ha hg this).symm

/-! ### Operations that touch no memory -/

def pureRun {α : Type} (P : Program) : Sem α → Option α
  | .pure a => some a
  | .program k => pureRun P (k P)
  | _ => none

theorem pureRun_ok {α : Type} {P : Program} : ∀ {m : Sem α} {x : α}, pureRun P m = some x → ∀ w, m.run P w = .ok x w := by
  intro m
  induction m with
  | pure a => intro x h w; simp only [pureRun, Option.some.injEq] at h; subst h; rfl
  | program k ih => intro x h w; exact ih P h w
  | _ => intro x h; simp [pureRun] at h

/-- What such an operation comes to: a value; a value under a condition; an address under a condition on it. -/
inductive PR where
  | pure (b : Base)
  | must (c : Prop) (b : Base)
  | exA (c : Addr → Prop) (b : Addr → Base)

def PR.Ok (P : Program) (m : Sem Next) : PR → Prop
  | .pure b => ∀ w, m.run P w = .ok (.value b.v) w
  | .must c b => c → ∀ w, m.run P w = .ok (.value b.v) w
  | .exA c b => ∀ a, c a → ∀ w, m.run P w = .ok (.value (b a).v) w

/-- A string's byte. -/
def bt (s : ByteArray) (i : Int) : Int := ((s.data.toList.getD i.toNat 0).toNat : Int)

/-- The address of a slice that is cut. -/
def cutA (A : Option Addr) (size l m : Nat) : Option Addr := if m = l then A else A.map (·.add (l * size))

def fieldOff (P : Program) (s : TypeId) (f : Nat) : Option Nat :=
  match P.underlying s with
  | some (.struct fs) => match fs[f]? with
    | some fd => match P.info? fd.type with
      | some i => if i.size = 0 then none else some fd.offset
      | none => none
    | none => none
  | _ => none

def sizeOf? (P : Program) (t : TypeId) : Option Nat :=
  match P.info? t with
  | some i => some i.size
  | none => none

end Go.Dec
