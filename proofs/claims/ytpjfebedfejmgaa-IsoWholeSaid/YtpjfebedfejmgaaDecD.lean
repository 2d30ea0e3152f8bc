/- Dec, part D: one operation, decompiled, and that it is sound. -/
import Derived.Test.YtpjfebedfejmgaaDecC
namespace Go.Dec
set_option linter.unusedSimpArgs false
set_option linter.unusedVariables false

structure Cx where
  P : Program
  n : Nat
  fs : List FuncId

/-! ### Shapes of types -/

def catO : Option (List Pr) → Option (List Pr) → Option (List Pr)
  | some x, some y => some (x ++ y)
  | _, _ => none

def fieldsPr (f : TypeId → Option (List Pr)) : List Field → Option (List Pr)
  | [] => some []
  | x :: r => catO (f x.type) (fieldsPr f r)

def repPr (x : Option (List Pr)) : Nat → Option (List Pr)
  | 0 => some []
  | n + 1 => catO x (repPr x n)

def flatPr (P : Program) : Nat → TypeId → Option (List Pr)
  | 0, _ => none
  | d + 1, t => match P.underlying t with
    | some (.int k) => some [.int k]
    | some .bool => some [.bool]
    | some .string => some [.str]
    | some (.pointer _) => some [.ptr]
    | some (.slice _) => some [.slc]
    | some (.map _ _) => some [.map]
    | some (.struct fs) => fieldsPr (flatPr P d) fs.toList
    | some (.array n e) => repPr (flatPr P d e) n
    | some _ => some [.any]
    | none => none

def sh1 (P : Program) (t : TypeId) : Option Sh1 :=
  match P.underlying t, flatPr P 20 t with
  | some (.struct _), some l => some (.agg l)
  | some (.array _ _), some l => some (.agg l)
  | some _, some [p] => some (.one p)
  | _, _ => none

def sh1s (P : Program) : List TypeId → Option (List Sh1)
  | [] => some []
  | t :: r => match sh1 P t, sh1s P r with
    | some s, some l => some (s :: l)
    | _, _ => none

def shOf (P : Program) (t : TypeId) : Option Sh :=
  match P.underlying t with
  | some (.tuple ts) => match sh1s P ts.toList with
    | some l => some (.tup l)
    | none => none
  | _ => match sh1 P t with
    | some s => some (.one s)
    | none => none

def anyT (P : Program) (t : TypeId) : Bool :=
  match P.underlying t with
  | some (.func _ _ _) | some (.interface _) | some (.chan _ _) | some .unsafePointer => true
  | _ => false

def mkB (P : Program) (t : TypeId) (v : Value) : Base := bif anyT P t then .any v else .val v

theorem mkB_v (P : Program) (t : TypeId) (v : Value) : (mkB P t v).v = v := by unfold mkB; cases anyT P t <;> rfl

@[reducible] def shBase : (s : Sh) → HL s.prims → Base
  | .one (.one .adr), x => .adr x.1
  | .one (.one .any), x => .any x.1
  | .one (.one (.int k)), x => .val (.int k x.1)
  | .one (.one .bool), x => .val (.bool x.1)
  | .one (.one .str), x => .val (.string x.1)
  | .one (.one .ptr), x => .val (.pointer x.1)
  | .one (.one .slc), x => .val (.slice x.1.a x.1.len x.1.cap)
  | .one (.one .map), x => .val (.map x.1)
  | .one (.agg ps), x => .val ((Sh.one (.agg ps)).mk x)
  | .tup l, x => .val ((Sh.tup l).mk x)

theorem shBase_v (s : Sh) (x : HL s.prims) : (shBase s x).v = s.mk x := by
  cases s with
  | one s => cases s with
    | one p => cases p <;> rfl
    | agg ps => rfl
  | tup l => rfl

/-! ### What an operation is -/

inductive Cls where
  | p | r | w | u | c | nx

def cls (P : Program) (o : Oper) : Cls :=
  match o.op with
  | .move _ | .assign _ | .pick _ _ _ | .build _ _ | .nilCheck _ | .unOp _ _ _ | .makeInterface _ _ | .makeFunc _ _ _ | .slice _ _ _ _ _ | .fieldAddr _ _ _ | .field _ _ _ | .indexAddr _ _ _ | .extract _ _ => .p
  | .index t _ ix => match P.underlying t with
    | some .string => .p
    | _ => bif isConst ix then .p else .r
  | .binOp op t _ y _ => match op with
    | .eql | .neq => match P.underlying t with
      | some .bool | some (.int _) | some .string | some (.struct _) => .p
      | some (.pointer _) | some (.slice _) | some (.map _ _) => bif isConstNil y then .p else .r
      | _ => .r
    | _ => .p
  | .convert s d _ => match P.underlying s, P.underlying d with
    | some (.int _), some (.int _) => .p
    | some .string, some .string => .p
    | some (.slice _), some .string => .r
    | _, _ => .w
  | .load _ _ | .lookup _ _ _ _ => .r
  | .store _ _ _ | .mapUpdate _ _ _ _ | .insert _ _ _ _ | .entryStore _ _ _ _ => .u
  | .next _ _ => .nx
  | .call c => match c.callee with
    | .value _ => .c
    | .builtin .len => match (c.argTypes[0]?).bind P.underlying with
      | some (.map _ _) => .r
      | _ => .p
    | .builtin .cap | .builtin .min | .builtin .max => .p
    | _ => .w
  | _ => .w

def mapA {α β : Type} (f : α → β) (a : Array α) : Array β := (a.toList.map f).toArray

theorem mapA_eq {α β : Type} (f : α → β) (a : Array α) : mapA f a = a.map f := by cases a; simp [mapA]

def actOf (ρ : Operand → Value) (o : Oper) : Option (Sem Value) :=
  match o.op with
  | .load t a => some (Instr.loadAt t (ρ a))
  | .lookup t m k ok => some (Instr.lookup t (ρ m) (ρ k) ok)
  | .entry it => some (Instr.entry (ρ it))
  | .index t x ix => some (Instr.index t (ρ x) (ρ ix))
  | .binOp op t x y _ => some (do eqGuard op t x y (ρ x) (ρ y); binOp op t (ρ x) (ρ y))
  | .convert s d x => some (convert s d (ρ x))
  | .alloc e => some (Instr.alloc e true (.tuple #[]))
  | .box e x => some (Instr.box e (ρ x))
  | .buildSlice t n ps => some (Instr.buildSlice t n (mapA (fun p => (p.1, ρ p.2)) ps))
  | .makeMap t r => some (Instr.makeMap t (r.map ρ))
  | .makeSlice t l c => some (Instr.makeSlice t (ρ l) (ρ c))
  | .range t x => some (Instr.range t (ρ x))
  | .mapEntry t m k => some (Instr.mapEntry t (ρ m) (ρ k))
  | .typeAssert x t u ok => some (Instr.typeAssert (ρ x) t u ok)
  | .call c => match c.callee with
    | .builtin .append => some (Builtin.append_ c.argTypes o.type (mapA ρ c.args))
    | .builtin .copy => some (Builtin.copy_ c.argTypes o.type (mapA ρ c.args))
    | .builtin .delete => some (Builtin.delete_ c.argTypes o.type (mapA ρ c.args))
    | .builtin .clear => some (Builtin.clear_ c.argTypes o.type (mapA ρ c.args))
    | .builtin .len => some (Builtin.len_ c.argTypes o.type (mapA ρ c.args))
    | _ => none
  | _ => none

def actUOf (ρ : Operand → Value) (o : Oper) : Option (Sem Unit) :=
  match o.op with
  | .store t a x => some (Instr.storeAt t (ρ a) (ρ x))
  | .mapUpdate t m k x => some (Instr.mapUpdate t (ρ m) (ρ k) (ρ x))
  | .insert t m k x => some (Instr.mapUpdate t (ρ m) (ρ k) (ρ x))
  | .entryStore t m s x => some (Instr.entryStore t (ρ m) (ρ s) (ρ x))
  | _ => none

def resSh (P : Program) (o : Oper) : Option Sh :=
  match o.op with
  | .alloc _ | .box _ _ | .range _ _ => some (.one (.one .adr))
  | .call { callee := .builtin .delete, .. } | .call { callee := .builtin .clear, .. } => some (.tup [])
  | _ => shOf P o.type

theorem actOf_ok {ρ : Operand → Value} {o : Oper} {m : Sem Value} (h : actOf ρ o = some m) : execOp ρ o = (do pure (.value (← m))) := by
  obtain ⟨dst, op, type, pos, after, guard⟩ := o
  unfold actOf at h
  cases op <;> dsimp only at h <;> (try (cases h; done)) <;> (try (obtain rfl := Option.some.inj h; simp only [execOp, mapA_eq]; done))
  case call c =>
    obtain ⟨callee, args, types⟩ := c
    cases callee with
    | value f => cases h
    | invoke r m => cases h
    | builtin b =>
      cases b <;> dsimp only at h <;> (try (cases h; done)) <;>
        (obtain rfl := Option.some.inj h; simp only [execOp, resolve, invoke, builtin, mapA_eq]; rfl)

theorem actUOf_ok {ρ : Operand → Value} {o : Oper} {m : Sem Unit} (h : actUOf ρ o = some m) : execOp ρ o = (do m; pure .skip) := by
  obtain ⟨dst, op, type, pos, after, guard⟩ := o
  unfold actUOf at h
  cases op <;> dsimp only at h <;> (try (cases h; done)) <;> (obtain rfl := Option.some.inj h; rfl)

/-! ### One operation of a region -/

inductive GS where
  | on | off | sym (s : Nat) (w : Bool)

def gstate (ops : Array Oper) (env : Env) (ov : Ov) (o : Oper) : GS :=
  match o.guard with
  | none => .on
  | some (j, want) => match (ops[j]?).bind (·.dst) with
    | none => .off
    | some s => match ov.get env s with
      | some ⟨.lit v, none⟩ => match v with
        | .bool b => bif b == want then .on else .off
        | _ => .off
      | _ => .sym s want

def gprop (env : Env) (ov : Ov) : Nat → Nat → Bool → Option Prop
  | 0, _, _ => none
  | d + 1, s, w => match ov.get env s with
    | some ⟨.val (.bool b), none⟩ => some (b = w)
    | some ⟨.val (.bool b), some (t, u)⟩ => match gprop env ov d t u with
      | some G => some (G ∧ b = w)
      | none => none
    | _ => none

def putOk (ov : Ov) (d : Nat) : Bool := ov.all fun x => match x.2.g with
  | some (s, _) => !Nat.beq s d
  | none => true

def notSelf : Option (Nat × Bool) → Nat → Bool
  | none, _ => true
  | some (t, _), d => !Nat.beq t d

def fin (n : Nat) (ov : Ov) (o : Oper) (g : Option (Nat × Bool)) (b : Base) (k : Ov → Prog) : Prog :=
  match o.dst with
  | none => k ov
  | some d => bif Nat.ble (d + 1) n && putOk ov d && notSelf g d then k ((d, ⟨b, g⟩) :: ov) else .fail 1

def prGo (G : Option Prop) (r : PR) (f : Base → Prog) : Prog :=
  match r, G with
  | .pure b, _ => f b
  | .must c b, none => .must c (f b)
  | .must c b, some G => .must (G → c) (f b)
  | .exA c b, none => .ex [.adr] (fun x => c x.1) (fun x => f (b x.1))
  | .exA c b, some G => .ex [.adr] (fun x => G → c x.1) (fun x => f (b x.1))

def letGo (P : Program) (o : Oper) (b : Base) (f : Base → Prog) : Prog :=
  match P.underlying o.type, b with
  | some (.int _), .val (.int k n) => .lt (.int k) n fun x => f (.val (.int k x))
  | some .bool, .val (.bool n) => .lt .bool n fun x => f (.val (.bool x))
  | some .string, .val (.string n) => .lt .str n fun x => f (.val (.string x))
  | _, _ => f b

def isTrueC : Operand → Bool
  | .const (.bool true) => true
  | _ => false

def isFalseC : Operand → Bool
  | .const (.bool false) => true
  | _ => false

def okG (g : Option (Nat × Bool)) : Option (Nat × Bool) → Bool
  | none => true
  | some (t, u) => sameG g t u

def pickB (env : Env) (ov : Ov) (g : Option (Nat × Bool)) (c x y : Operand) : Option Base :=
  match c with
  | .tmp s => match ov.get env s with
    | some ⟨.lit (.bool b), none⟩ => match b with
      | true => opE env ov g x
      | false => opE env ov g y
    | some ⟨.val (.bool b), g'⟩ =>
      bif okG g g' then
        (bif isTrueC x then (match opE env ov (some (s, false)) y with
          | some (.val (.bool z)) => some (.val (.bool (b || z)))
          | some (.lit (.bool z)) => some (.val (.bool (b || z)))
          | _ => none)
        else bif isFalseC y then (match opE env ov (some (s, true)) x with
          | some (.val (.bool z)) => some (.val (.bool (b && z)))
          | some (.lit (.bool z)) => some (.val (.bool (b && z)))
          | _ => none)
        else none)
      else none
    | _ => none
  | _ => none

def isZero : Nat → Bool
  | 0 => true
  | _ => false

def stepP (P : Program) (n : Nat) (env : Env) (ov : Ov) (o : Oper) (g : Option (Nat × Bool)) (G : Option Prop) (k : Ov → Prog) : Prog :=
  match o.op with
  | .pick c x y => match pickB env ov g c x y with
    | some b => fin n ov o g b k
    | none => .fail 2
  | .move x => match opE env ov g x with
    | some b => fin n ov o g b k
    | none => .fail 3
  | .assign x => match opE env ov g x with
    | some b => match g with
      | none => letGo P o b fun b => fin n ov o g b k
      | some _ => fin n ov o g b k
    | none => .fail 3
  | .extract t ix => match opE env ov g t with
    | some b => match pureRun P (Instr.extract b.v ix) with
      | some v => fin n ov o g (match b with | .lit _ => bif isZero ix then .lit v else mkB P o.type v | _ => mkB P o.type v) k
      | none => .fail 4
    | none => .fail 3
  | _ => match pSpec P (opE env ov g) o with
    | some r => prGo G r fun b => fin n ov o g b k
    | none => bif known env ov g o && noSel o.op then (match pureRun P (execOp (opV env ov g) o) with
      | some (.value v) => fin n ov o g (mkB P o.type v) k
      | _ => .fail 5) else .fail 6

def stepR (P : Program) (n : Nat) (dr : Bool) (env : Env) (ov : Ov) (o : Oper) (g : Option (Nat × Bool)) (G : Option Prop) (k : Ov → Prog) : Prog :=
  match actOf (opV env ov g) o, resSh P o with
  | some m, some s => bif known env ov g o && noSel o.op then
      (match dr with
      | true => .hold (G.getD True) m s fun x => fin n ov o g (shBase s x) k
      | false => .read (G.getD True) m s fun x => fin n ov o g (shBase s x) k)
    else .fail 7
  | _, _ => .fail 8

def skipOp (n : Nat) (ov : Ov) (o : Oper) (k : Ov → Prog) : Prog := fin n ov o none (.lit undef) k

def isP : Cls → Bool
  | .p => true
  | _ => false

def isPR : Cls → Bool
  | .p | .r => true
  | _ => false

def stepPR (P : Program) (n : Nat) (dr : Bool) (ops : Array Oper) (env : Env) (ov : Ov) (o : Oper) (k : Ov → Prog) : Prog :=
  match gstate ops env ov o with
  | .off => skipOp n ov o k
  | .on => match cls P o with
    | .p => stepP P n env ov o none none k
    | .r => stepR P n dr env ov o none none k
    | _ => .fail 9
  | .sym s w => match gprop env ov 6 s w with
    | some G => match cls P o with
      | .p => stepP P n env ov o (some (s, w)) (some G) k
      | .r => stepR P n dr env ov o (some (s, w)) (some G) k
      | _ => .fail 9
    | none => .fail 10

/-! ### Soundness -/
section
variable {P : Program} {n : Nat} {env : Env} {ov : Ov} {a : Act} {o : Oper} {ops : Array Oper}

theorem Agree.put_none {ov : Ov} (ha : Agree n env ov a) (v : Value) : Agree n env ov (a.put none v) := ha

theorem putOk_spec {ov : Ov} {d : Nat} (h : putOk ov d = true) {env : Env} {s : Nat} {e : Ent} {t : Nat} {u : Bool} (hg : ov.get env s = some e) (he : e.g = some (t, u)) : t ≠ d := by
  induction ov with
  | nil =>
    simp only [Ov.get] at hg
    split at hg
    · obtain rfl := Option.some.inj hg; cases he
    · cases hg
  | cons x r ih =>
    obtain ⟨s', e'⟩ := x
    simp only [putOk, List.all_cons, Bool.and_eq_true] at h
    simp only [Ov.get, cond_eq_ite] at hg
    split at hg
    · obtain rfl := Option.some.inj hg
      have h1 := h.1
      rw [he] at h1
      simp only [Bool.not_eq_true'] at h1
      exact Nat.ne_of_beq_eq_false h1
    · exact ih h.2 hg

theorem Agree.put {d : Nat} {v : Value} {b : Base} {g : Option (Nat × Bool)} (ha : Agree n env ov a) (hd : d < n) (hp : putOk ov d = true)
    (hv : match g with
      | none => v = b.v
      | some (t, u) => t ≠ d ∧ (a.tmps[t]? = some (.bool u) → v = b.v) ∧ (¬ a.tmps[t]? = some (.bool u) → v = undef)) :
    Agree n env ((d, ⟨b, g⟩) :: ov) (a.put (some d) v) := by
  have hsz : d < a.tmps.size := by rw [ha.size]; exact hd
  have hself : (a.tmps.setIfInBounds d v)[d]? = some v := by simp [hsz]
  have hother : ∀ t, t ≠ d → (a.tmps.setIfInBounds d v)[t]? = a.tmps[t]? := fun t ht => by
    rw [Array.getElem?_setIfInBounds_ne (Ne.symm ht)]
  refine ⟨by simp [Act.put, ha.size], ha.defers, fun s e he => ?_⟩
  simp only [Ov.get, cond_eq_ite] at he
  split at he
  · rename_i hds
    have hds := Nat.eq_of_beq_eq_true hds
    subst hds
    obtain rfl := Option.some.inj he
    unfold Ent.Ok
    dsimp only
    cases g with
    | none => dsimp only at hv ⊢; subst hv; exact hself
    | some x =>
      obtain ⟨t, u⟩ := x
      dsimp only at hv ⊢
      obtain ⟨hne, h1, h2⟩ := hv
      simp only [Act.put]
      rw [hother t hne, hself]
      exact ⟨fun h => by rw [h1 h], fun h => by rw [h2 h]⟩
  · rename_i hds
    have hds : s ≠ d := fun h => hds (by subst h; exact Nat.beq_refl s)
    have hok := ha.slots s e he
    unfold Ent.Ok at hok ⊢
    cases hg : e.g with
    | none => rw [hg] at hok; dsimp only at hok ⊢; simp only [Act.put]; rw [hother s hds]; exact hok
    | some x =>
      obtain ⟨t, u⟩ := x
      have ht := putOk_spec hp he hg
      rw [hg] at hok
      dsimp only at hok ⊢
      simp only [Act.put]
      rw [hother s hds, hother t ht]
      exact hok

/-- What a step has come to: the state behind it. -/
def Stepped (P : Program) (n : Nat) (ops : Array Oper) (env : Env) (o : Oper) (a : Act) (w : World) (p dr : Bool) (S : World → Prop) (k : Ov → Prog) (Q : Post) : Prop :=
  ∃ v ov' S', Agree n env ov' (a.put o.dst v) ∧ (p = true → YieldsIf P ops (fun _ => True) o v a ∧ S' = S) ∧ (dr = true → YieldsIf P ops S' o v a) ∧ YieldsIf P ops (· = w) o v a ∧ S' w ∧ (∀ w', S' w' → S w') ∧ (dr = false → S' = S) ∧ (k ov').wp P S' w Q

def GOk (P : Program) (ops : Array Oper) (o : Oper) (a : Act) : Option (Nat × Bool) → Prop
  | none => Region.wanted o (yielded ops a.tmps) = true
  | some (t, u) => Region.wanted o (yielded ops a.tmps) = true ↔ a.tmps[t]? = some (.bool u)

theorem fin_sound {p dr : Bool} {g : Option (Nat × Bool)} {b : Base} {k : Ov → Prog} {S S' : World → Prop} {w : World} {Q : Post} (ha : Agree n env ov a)
    (hg : GOk P ops o a g) (hy : ∀ w', (p = true ∨ dr = true ∧ S' w' ∨ w' = w) → Region.wanted o (yielded ops a.tmps) = true → (execOp a.eval o).run P w' = .ok (.value b.v) w')
    (hS : S' w) (hSS : ∀ w', S' w' → S w') (hp : p = true → S' = S) (hd : dr = false → S' = S) (h : (fin n ov o g b k).wp P S' w Q) : Stepped P n ops env o a w p dr S k Q := by
  let v : Value := if Region.wanted o (yielded ops a.tmps) = true then b.v else undef
  have hyi : ∀ Y : World → Prop, (∀ w', Y w' → p = true ∨ dr = true ∧ S' w' ∨ w' = w) → YieldsIf P ops Y o v a := fun Y hY => by
    by_cases hw : Region.wanted o (yielded ops a.tmps) = true
    · exact .inl ⟨hw, fun w' hw' => by rw [show v = b.v from if_pos hw]; exact hy w' (hY w' hw') hw⟩
    · exact .inr ⟨by simpa using hw, if_neg hw⟩
  unfold fin at h
  cases hdst : o.dst with
  | none =>
    rw [hdst] at h
    exact ⟨v, ov, S', by rw [hdst]; exact ha, fun hpp => ⟨hyi _ fun w' _ => .inl hpp, hp hpp⟩, fun hdr => hyi S' fun w' hw' => .inr (.inl ⟨hdr, hw'⟩), hyi _ fun w' hw' => .inr (.inr hw'), hS, hSS, hd, h⟩
  | some d =>
    rw [hdst] at h
    simp only [cond_eq_ite] at h
    split at h
    · rename_i hc
      simp only [Bool.and_eq_true] at hc
      have hlt : d < n := Nat.le_of_ble_eq_true hc.1.1
      refine ⟨v, _, S', ?_, fun hpp => ⟨hyi _ fun w' _ => .inl hpp, hp hpp⟩, fun hdr => hyi S' fun w' hw' => .inr (.inl ⟨hdr, hw'⟩), hyi _ fun w' hw' => .inr (.inr hw'), hS, hSS, hd, h⟩
      rw [hdst]
      refine Agree.put ha hlt hc.1.2 ?_
      cases g with
      | none => exact if_pos hg
      | some x =>
        obtain ⟨t, u⟩ := x
        have hne : t ≠ d := by
          have := hc.2
          simp only [notSelf, Bool.not_eq_true'] at this
          exact Nat.ne_of_beq_eq_false this
        exact ⟨hne, fun h => if_pos (hg.2 h), fun h => if_neg fun h' => h (hg.1 h')⟩
    · exact h.elim


theorem GHolds_of {g : Option (Nat × Bool)} (hg : GOk P ops o a g) (hw : Region.wanted o (yielded ops a.tmps) = true) : GHolds a g := by
  cases g with
  | none => trivial
  | some x => obtain ⟨t, u⟩ := x; exact hg.1 hw

/-- What a guard's condition says. -/
theorem gprop_ok : ∀ (d : Nat) {s : Nat} {w : Bool} {G : Prop}, Agree n env ov a → gprop env ov d s w = some G → a.tmps[s]? = some (.bool w) → G
  | 0, _, _, _, _, h, _ => by simp [gprop] at h
  | d + 1, s, w, G, ha, h, hs => by
    simp only [gprop] at h
    split at h
    · rename_i b hb
      obtain rfl := Option.some.inj h
      have := ha.slots _ _ hb
      simp only [Ent.Ok, Base.v] at this
      rw [hs] at this
      simpa using this.symm
    · rename_i b t u hb
      split at h
      · rename_i G' hG'
        obtain rfl := Option.some.inj h
        have := ha.slots _ _ hb
        simp only [Ent.Ok, Base.v] at this
        by_cases ht : a.tmps[t]? = some (.bool u)
        · refine ⟨gprop_ok d ha hG' ht, ?_⟩
          have h1 := this.1 ht
          rw [hs] at h1
          simpa using h1.symm
        · have h1 := this.2 ht
          rw [hs] at h1
          simp [undef] at h1
      · cases h
    · cases h

theorem prGo_sound {G : Option Prop} {r : PR} {f : Base → Prog} {m : Sem Next} {S : World → Prop} {w : World} {Q : Post} {W : Prop} (hr : W → PR.Ok P m r)
    (hG : W → match G with | none => True | some G => G) (h : (prGo G r f).wp P S w Q) :
    ∃ b, (W → ∀ w', m.run P w' = .ok (.value b.v) w') ∧ (f b).wp P S w Q := by
  cases r with
  | pure b => exact ⟨b, hr, by cases G <;> exact h⟩
  | must c b =>
    cases G with
    | none => exact ⟨b, fun hw => hr hw h.1, h.2⟩
    | some G => exact ⟨b, fun hw => hr hw (h.1 (hG hw)), h.2⟩
  | exA c b =>
    cases G with
    | none => obtain ⟨x, hc, h⟩ := h; exact ⟨b x.1, fun hw => hr hw x.1 hc, h⟩
    | some G => obtain ⟨x, hc, h⟩ := h; exact ⟨b x.1, fun hw => hr hw x.1 (hc (hG hw)), h⟩

theorem letGo_sound {b : Base} {f : Base → Prog} {S : World → Prop} {w : World} {Q : Post} (h : (letGo P o b f).wp P S w Q) : (f b).wp P S w Q := by
  unfold letGo at h
  split at h <;> exact h

theorem isTrueC_ok {x : Operand} (h : isTrueC x = true) : x = .const (.bool true) := by
  unfold isTrueC at h; split at h
  · rfl
  · cases h

theorem isFalseC_ok {x : Operand} (h : isFalseC x = true) : x = .const (.bool false) := by
  unfold isFalseC at h; split at h
  · rfl
  · cases h

theorem eval_slot {s : Nat} {v : Value} (h : a.tmps[s]? = some v) : a.eval (.tmp s) = v := by simp [Act.eval, h]

theorem pickB_ok {g : Option (Nat × Bool)} {c x y : Operand} {b : Base} (ha : Agree n env ov a) (hg : GHolds a g) (h : pickB env ov g c x y = some b)
    {dst : Option Tmp} {type : TypeId} {pos : String} {after : Array Edge} {guard : Option (Nat × Bool)} (w : World) :
    (execOp a.eval { dst, op := .pick c x y, type, pos, after, guard }).run P w = .ok (.value b.v) w := by
  unfold pickB at h
  split at h
  · rename_i s
    split at h
    · rename_i t hs
      have h1 := eval_slot (ha.slots _ _ hs)
      simp only [Base.v] at h1
      cases t with
      | true => simp [execOp, h1, asBool, opE_ok ha hg h]
      | false => simp [execOp, h1, asBool, opE_ok ha hg h]
    · rename_i t g' hs
      simp only [cond_eq_ite] at h
      split at h
      · rename_i hg'
        have h1 : a.tmps[s]? = some (.bool t) := by
          have := ha.slots _ _ hs
          unfold Ent.Ok at this
          cases g' with
          | none => exact this
          | some x => obtain ⟨t', u'⟩ := x; have e := sameG_eq hg'; subst e; exact this.1 hg
        have h2 := eval_slot h1
        split at h
        · rename_i hx
          have hx := isTrueC_ok hx
          subst hx
          split at h <;> first | cases h; done | skip
          all_goals
            rename_i z hz
            obtain rfl := Option.some.inj h
            cases t with
            | true => simp [execOp, h2, asBool, show a.eval (.const (.bool true)) = .bool true from rfl]
            | false => simp [execOp, h2, asBool, opE_ok (g := some (s, false)) ha h1 hz]
        · split at h
          · rename_i hy
            have hy := isFalseC_ok hy
            subst hy
            split at h <;> first | cases h; done | skip
            all_goals
              rename_i z hz
              obtain rfl := Option.some.inj h
              cases t with
              | false => simp [execOp, h2, asBool, show a.eval (.const (.bool false)) = .bool false from rfl]
              | true => simp [execOp, h2, asBool, opE_ok (g := some (s, true)) ha h1 hz]
          · cases h
      · cases h
    · cases h
  · cases h

theorem stepP_sound {p dr : Bool} {g : Option (Nat × Bool)} {G : Option Prop} {k : Ov → Prog} {S : World → Prop} {w : World} {Q : Post} (ha : Agree n env ov a)
    (hg : GOk P ops o a g) (hG : Region.wanted o (yielded ops a.tmps) = true → match G with | none => True | some G => G)
    (hS : S w) (h : (stepP P n env ov o g G k).wp P S w Q) : Stepped P n ops env o a w p dr S k Q := by
  have close : ∀ b, (Region.wanted o (yielded ops a.tmps) = true → ∀ w', (execOp a.eval o).run P w' = .ok (.value b.v) w') → (fin n ov o g b k).wp P S w Q → Stepped P n ops env o a w p dr S k Q :=
    fun b hb h => fin_sound (S' := S) ha hg (fun w' _ hw => hb hw w') hS (fun _ h => h) (fun _ => rfl) (fun _ => rfl) h
  obtain ⟨dst, op, type, pos, after, guard⟩ := o
  unfold stepP at h
  dsimp only at h
  split at h
  · split at h
    · rename_i b hb
      exact close b (fun hw w' => pickB_ok ha (GHolds_of hg hw) hb w') h
    · exact h.elim
  · split at h
    · rename_i b hb
      exact close b (fun hw w' => by simp [execOp, opE_ok ha (GHolds_of hg hw) hb]) h
    · exact h.elim
  · split at h
    · rename_i b hb
      split at h
      · exact close b (fun hw w' => by simp [execOp, opE_ok ha (GHolds_of hg hw) hb]) (letGo_sound h)
      · exact close b (fun hw w' => by simp [execOp, opE_ok ha (GHolds_of hg hw) hb]) h
    · exact h.elim
  · split at h
    · rename_i b hb
      split at h
      · rename_i v hv
        refine close _ (fun hw w' => ?_) h
        have := pureRun_ok hv w'
        simp only [execOp, opE_ok ha (GHolds_of hg hw) hb, Sem.run_bind, this, Result.andThen_ok, Sem.run_pure]
        congr 2
        split
        · rw [cond_eq_ite]; split
          · rfl
          · rw [mkB_v]
        · rw [mkB_v]
      · exact h.elim
    · exact h.elim
  · split at h
    · rename_i r hr
      obtain ⟨b, hb, h'⟩ := prGo_sound (W := Region.wanted _ (yielded ops a.tmps) = true)
        (fun hw => pSpec_ok (ρ := a.eval) (fun x b hx => opE_ok ha (GHolds_of hg hw) hx) (fun _ => rfl) hr) hG h
      exact close b hb h'
    · simp only [cond_eq_ite] at h
      split at h
      · rename_i hk
        simp only [Bool.and_eq_true] at hk
        split at h
        · rename_i v hv
          refine close _ (fun hw w' => ?_) h
          rw [exec_known ha (GHolds_of hg hw) hk.1 hk.2, pureRun_ok hv w', mkB_v]
        · exact h.elim
      · exact h.elim

theorem stepR_sound {dr : Bool} {g : Option (Nat × Bool)} {G : Option Prop} {k : Ov → Prog} {S : World → Prop} {w : World} {Q : Post} (ha : Agree n env ov a)
    (hg : GOk P ops o a g) (hG : Region.wanted o (yielded ops a.tmps) = true → match G with | none => True | some G => G)
    (hS : S w) (h : (stepR P n dr env ov o g G k).wp P S w Q) : Stepped P n ops env o a w false dr S k Q := by
  have hGd : Region.wanted o (yielded ops a.tmps) = true → G.getD True := fun hw => by
    have := hG hw
    cases G <;> exact this
  unfold stepR at h
  split at h
  · rename_i m s hm hs
    simp only [cond_eq_ite] at h
    split at h
    · rename_i hk
      simp only [Bool.and_eq_true] at hk
      have hrun : ∀ (x : HL s.prims) (w' : World), m.run P w' = .ok (s.mk x) w' → Region.wanted o (yielded ops a.tmps) = true → (execOp a.eval o).run P w' = .ok (.value (shBase s x).v) w' := fun x w' hx hw => by
        rw [exec_known ha (GHolds_of hg hw) hk.1 hk.2, actOf_ok hm]
        simp [hx, shBase_v]
      cases dr with
      | true =>
        obtain ⟨x, hx, h⟩ := h
        refine fin_sound (S' := fun w' => S w' ∧ (G.getD True → m.run P w' = .ok (s.mk x) w')) ha hg ?_ ⟨hS, hx⟩ (fun _ h => h.1) (fun h => by cases h) (fun h => by cases h) h
        rintro w' (h | ⟨_, hw'⟩ | rfl) hw
        · cases h
        · exact hrun x w' (hw'.2 (hGd hw)) hw
        · exact hrun x w' (hx (hGd hw)) hw
      | false =>
        obtain ⟨x, hx, h⟩ := h
        refine fin_sound (S' := S) ha hg ?_ hS (fun _ h => h) (fun _ => rfl) (fun _ => rfl) h
        rintro w' (h | ⟨h, _⟩ | rfl) hw
        · cases h
        · cases h
        · exact hrun x w' (hx (hGd hw)) hw
    · exact h.elim
  · exact h.elim

theorem yielded_eq {j d : Nat} (hd : (ops[j]?).bind (·.dst) = some d) (u : Bool) : (yielded ops a.tmps j == some u) = true ↔ a.tmps[d]? = some (.bool u) := by
  unfold yielded
  rw [hd]
  simp only [Option.bind_some]
  cases hv : a.tmps[d]? with
  | none => simp
  | some v => cases v <;> simp

theorem gstate_ok (ha : Agree n env ov a) :
    match gstate ops env ov o with
    | .on => Region.wanted o (yielded ops a.tmps) = true
    | .off => Region.wanted o (yielded ops a.tmps) = false
    | .sym s w => Region.wanted o (yielded ops a.tmps) = true ↔ a.tmps[s]? = some (.bool w) := by
  unfold gstate Region.wanted
  cases hgu : o.guard with
  | none => rfl
  | some x =>
    obtain ⟨j, want⟩ := x
    dsimp only
    cases hd : (ops[j]?).bind (·.dst) with
    | none => dsimp only; unfold yielded; rw [hd]; rfl
    | some d =>
      dsimp only
      have hy := yielded_eq (a := a) hd want
      split
      · rename_i heq
        split at heq
        · rename_i v hv
          split at heq
          · rename_i b
            simp only [cond_eq_ite] at heq
            split at heq
            · rename_i hb
              have := ha.slots _ _ hv
              simp only [Ent.Ok, Base.v] at this
              rw [hy, this]
              have := eq_of_beq hb
              rw [this]
            · cases heq
          · cases heq
        · cases heq
      · rename_i heq
        rw [← Bool.not_eq_true, hy]
        split at heq
        · rename_i v hv
          have := ha.slots _ _ hv
          simp only [Ent.Ok, Base.v] at this
          rw [this]
          split at heq
          · rename_i b
            simp only [cond_eq_ite] at heq
            split at heq
            · cases heq
            · rename_i hb
              intro h
              simp only [Option.some.injEq, Value.bool.injEq] at h
              exact hb (by simp [h])
          · rename_i hv'
            intro h
            simp only [Option.some.injEq] at h
            exact hv' _ h
        · cases heq
      · rename_i heq
        split at heq
        · split at heq
          · simp only [cond_eq_ite] at heq
            split at heq <;> cases heq
          · cases heq
        · obtain ⟨rfl, rfl⟩ := GS.sym.inj heq
          exact hy

theorem skipOp_sound {p dr : Bool} {k : Ov → Prog} {S : World → Prop} {w : World} {Q : Post} (ha : Agree n env ov a)
    (hoff : Region.wanted o (yielded ops a.tmps) = false) (hS : S w) (h : (skipOp n ov o k).wp P S w Q) : Stepped P n ops env o a w p dr S k Q := by
  have hyi : ∀ Y : World → Prop, YieldsIf P ops Y o undef a := fun Y => .inr ⟨hoff, rfl⟩
  unfold skipOp fin at h
  cases hdst : o.dst with
  | none => rw [hdst] at h; exact ⟨undef, ov, S, by rw [hdst]; exact ha, fun _ => ⟨hyi _, rfl⟩, fun _ => hyi _, hyi _, hS, fun _ h => h, fun _ => rfl, h⟩
  | some d =>
    rw [hdst] at h
    simp only [cond_eq_ite] at h
    split at h
    · rename_i hc
      simp only [Bool.and_eq_true] at hc
      exact ⟨undef, _, S, by rw [hdst]; exact Agree.put ha (Nat.le_of_ble_eq_true hc.1.1) hc.1.2 rfl, fun _ => ⟨hyi _, rfl⟩, fun _ => hyi _, hyi _, hS, fun _ h => h, fun _ => rfl, h⟩
    · exact h.elim

theorem stepPR_sound {dr : Bool} {k : Ov → Prog} {S : World → Prop} {w : World} {Q : Post} (ha : Agree n env ov a)
    (hS : S w) (h : (stepPR P n dr ops env ov o k).wp P S w Q) : Stepped P n ops env o a w (isP (cls P o)) dr S k Q := by
  have hgs := gstate_ok (o := o) (ops := ops) ha
  unfold stepPR at h
  split at h
  · rename_i hg; rw [hg] at hgs; exact skipOp_sound ha hgs hS h
  · rename_i hg
    rw [hg] at hgs
    split at h
    · exact stepP_sound (g := none) (G := none) ha hgs (fun _ => trivial) hS h
    · rename_i hc; rw [hc]; exact stepR_sound (g := none) (G := none) ha hgs (fun _ => trivial) hS h
    · exact h.elim
  · rename_i s u hg
    rw [hg] at hgs
    split at h
    · rename_i G hG
      split at h
      · exact stepP_sound (g := some (s, u)) (G := some G) ha hgs (fun hw => gprop_ok 6 ha hG (hgs.1 hw)) hS h
      · rename_i hc; rw [hc]; exact stepR_sound (g := some (s, u)) (G := some G) ha hgs (fun hw => gprop_ok 6 ha hG (hgs.1 hw)) hS h
      · exact h.elim
    · exact h.elim

end
end Go.Dec
