/- Dec, part C: the operations that touch no memory and want a condition, or an address: what they come to, each proved. -/
import Derived.Test.YtpjfebedfejmgaaDecB
import Derived.Laws.StructEq
namespace Go.Dec
set_option linter.unusedSimpArgs false
set_option linter.unusedVariables false

def cutStr (s : ByteArray) (lo hi : Option Base) : Option PR :=
  match lo, hi with
  | none, none => some (.pure (.val (.string (s.extract 0 s.size))))
  | some bl, none => match bl.v with
    | .int _ l => some (.must (0 ≤ l ∧ l ≤ s.size) (.val (.string (s.extract l.toNat s.size))))
    | _ => none
  | none, some bh => match bh.v with
    | .int _ h => some (.must (0 ≤ h ∧ h ≤ s.size) (.val (.string (s.extract 0 h.toNat))))
    | _ => none
  | some bl, some bh => match bl.v, bh.v with
    | .int _ l, .int _ h => some (.must (0 ≤ l ∧ l ≤ h ∧ h ≤ s.size) (.val (.string (s.extract l.toNat h.toNat))))
    | _, _ => none

def cutSl (A : Option Addr) (len cap size : Nat) (lo hi mx : Option Base) : Option PR :=
  match lo, hi, mx with
  | none, none, none => some (.pure (.val (.slice A len cap)))
  | some bl, none, none => match bl.v with
    | .int _ l => some (.must (0 ≤ l ∧ l ≤ len) (.val (.slice (cutA A size l.toNat cap) (len - l.toNat) (cap - l.toNat))))
    | _ => none
  | none, some bh, none => match bh.v with
    | .int _ h => some (.must (0 ≤ h ∧ h ≤ cap) (.val (.slice A h.toNat cap)))
    | _ => none
  | some bl, some bh, none => match bl.v, bh.v with
    | .int _ l, .int _ h => some (.must (0 ≤ l ∧ l ≤ h ∧ h ≤ cap) (.val (.slice (cutA A size l.toNat cap) (h.toNat - l.toNat) (cap - l.toNat))))
    | _, _ => none
  | none, some bh, some bm => match bh.v, bm.v with
    | .int _ h, .int _ m => some (.must (0 ≤ h ∧ h ≤ m ∧ m ≤ cap) (.val (.slice A h.toNat m.toNat)))
    | _, _ => none
  | some bl, some bh, some bm => match bl.v, bh.v, bm.v with
    | .int _ l, .int _ h, .int _ m => some (.must (0 ≤ l ∧ l ≤ h ∧ h ≤ m ∧ m ≤ cap) (.val (.slice (cutA A size l.toNat m.toNat) (h.toNat - l.toNat) (m.toNat - l.toNat))))
    | _, _, _ => none
  | _, none, some _ => none

def nilCmp (P : Program) (t : TypeId) (b : Base) (y : Operand) : Option Bool :=
  match P.underlying t, b, y with
  | some (.pointer _), .adr _, .const (.pointer none) => some false
  | some (.pointer _), .val (.pointer p), .const (.pointer none) => some p.isNone
  | some (.slice _), .val (.slice a _ _), .const (.slice none _ _) => some a.isNone
  | some (.map _ _), .val (.map r), .const (.map none) => some r.isNone
  | _, _, _ => none

def isConstNil : Operand → Bool
  | .const (.pointer none) => true
  | .const (.slice none _ _) => true
  | .const (.map none) => true
  | _ => false

def isConst : Operand → Bool
  | .const _ => true
  | _ => false

def isStrT (P : Program) (t : TypeId) : Bool :=
  match P.underlying t with
  | some .string => true
  | _ => false

def andO : Option Bool → Option Bool → Option Bool
  | some a, some b => some (a && b)
  | _, _ => none

def aggT (P : Program) (t : TypeId) : Option Bool :=
  match P.underlying t with
  | some (.struct _) => some true
  | some (.array _ _) => some true
  | some _ => some false
  | none => none

def partV (P : Program) (t : TypeId) (cs : Array Value) (off : Nat) : Option Value :=
  match aggT P t with
  | some true => match sizeOf? P t with
    | some n => some (.agg ((cs.toList.drop off).take n).toArray)
    | none => none
  | some false => cs.toList[off]?
  | none => none

def eqFields (g : TypeId → Value → Value → Option Bool) (p : TypeId → Array Value → Nat → Option Value) (xs ys : Array Value) : List Field → Option Bool
  | [] => some true
  | f :: r => if f.name = "_" then none else match p f.type xs f.offset, p f.type ys f.offset with
    | some x, some y => match r with
      | [] => g f.type x y
      | _ => andO (g f.type x y) (eqFields g p xs ys r)
    | _, _ => none

/-- '==' of numbers, bools, strings and structs of these. -/
def eqV (P : Program) : Nat → TypeId → Value → Value → Option Bool
  | 0, _, _, _ => none
  | d + 1, t, x, y => match P.underlying t, x, y with
    | some (.int _), .int k a, .int k' b => if k = k' then some (a == b) else none
    | some .bool, .bool a, .bool b => some (a == b)
    | some .string, .string a, .string b => some (a == b)
    | some (.struct fs), .agg xs, .agg ys => if P.stoodInHeld t then none else eqFields (eqV P d) (partV P) xs ys fs.toList
    | _, _, _ => none

def isStruct (P : Program) (t : TypeId) : Bool :=
  match P.underlying t with
  | some (.struct _) => !P.eqGuardType P.depth t
  | _ => false

def eqSt (P : Program) (t : TypeId) (e : Operand → Option Base) (x y : Operand) : Option Bool :=
  match e x, e y with
  | some bx, some by_ => match bx.v, by_.v with
    | .agg xs, .agg ys => eqV P 10000 t (.agg xs) (.agg ys)
    | _, _ => none
  | _, _ => none

def optE (e : Operand → Option Base) : Option Operand → Option (Option Base)
  | none => some none
  | some x => match e x with
    | some b => some (some b)
    | none => none

def pSpec (P : Program) (e : Operand → Option Base) (o : Oper) : Option PR :=
  match o.op with
  | .nilCheck x => match e x with
    | some (.adr a) => some (.pure (.adr a))
    | some (.val (.pointer p)) => some (.exA (fun a => p = some a) .adr)
    | _ => none
  | .fieldAddr s x f => match fieldOff P s f, e x with
    | some off, some (.adr a) => some (.pure (.adr (a.add off)))
    | some off, some (.val (.pointer p)) => some (.exA (fun a => p = some a) (fun a => .adr (a.add off)))
    | _, _ => none
  | .indexAddr t x ix => match P.underlying t, e x, e ix with
    | some (.slice el), some (.val (.slice A l _)), some bi => match sizeOf? P el, bi.v with
      | some size, .int _ i => some (.exA (fun a => 0 ≤ i ∧ i < l ∧ A = some a) (fun a => .adr (a.add (i.toNat * size))))
      | _, _ => none
    | some (.array n el), some (.adr a), some bi => match sizeOf? P el, bi.v with
      | some size, .int _ i => some (.must (0 ≤ i ∧ i < n) (.adr (a.add (i.toNat * size))))
      | _, _ => none
    | _, _, _ => none
  | .index t x ix => match P.underlying t, e x, e ix with
    | some .string, some bx, some bi => match bx.v, bi.v with
      | .string s, .int _ i => some (.must (0 ≤ i ∧ i < s.size) (.val (.int .u8 (bt s i))))
      | _, _ => none
    | _, _, _ => none
  | .slice t x lo hi mx => match P.underlying t, e x, optE e lo, optE e hi, optE e mx with
    | some .string, some bx, some bl, some bh, some none => match bx.v with
      | .string s => cutStr s bl bh
      | _ => none
    | some (.slice el), some (.val (.slice A len cap)), some bl, some bh, some bm => match sizeOf? P el with
      | some size => cutSl A len cap size bl bh bm
      | none => none
    | some (.array n el), some (.adr a), some bl, some bh, some bm => match sizeOf? P el with
      | some size => cutSl (some a) n n size bl bh bm
      | none => none
    | _, _, _, _, _ => none
  | .binOp op xT x y _ => match op with
    | .quo => bif isConst y then none else match e x, e y with
      | some bx, some by_ => match bx.v, by_.v with
        | .int k a, .int k' b => if k = k' then some (.must (b ≠ 0) (.val (.int k (k.wrap (a.tdiv b))))) else none
        | _, _ => none
      | _, _ => none
    | .rem => bif isConst y then none else match e x, e y with
      | some bx, some by_ => match bx.v, by_.v with
        | .int k a, .int k' b => if k = k' then some (.must (b ≠ 0) (.val (.int k (a.tmod b)))) else none
        | _, _ => none
      | _, _ => none
    | .shl => bif isConst y then none else match e x, e y with
      | some bx, some by_ => match bx.v, by_.v with
        | .int k a, .int _ b => some (.must (0 ≤ b) (.val (.int k (k.wrap (a * 2 ^ (min b.toNat k.bits))))))
        | _, _ => none
      | _, _ => none
    | .shr => bif isConst y then none else match e x, e y with
      | some bx, some by_ => match bx.v, by_.v with
        | .int k a, .int _ b => some (.must (0 ≤ b) (.val (.int k (a.fdiv (2 ^ (min b.toNat k.bits))))))
        | _, _ => none
      | _, _ => none
    | .add => bif isStrT P xT then (match e x, e y with
      | some bx, some by_ => match bx.v, by_.v with
        | .string a, .string b => some (.must (((a.size + b.size : Nat) : Int) ≤ IntKind.i64.max) (.val (.string (a ++ b))))
        | _, _ => none
      | _, _ => none) else none
    | .eql => bif isConstNil y then (match e x with
      | some b => match nilCmp P xT b y with
        | some t => some (.pure (.val (.bool t)))
        | none => none
      | none => none) else bif isStruct P xT then (match eqSt P xT e x y with
        | some t => some (.pure (.val (.bool t)))
        | none => none) else none
    | .neq => bif isConstNil y then (match e x with
      | some b => match nilCmp P xT b y with
        | some t => some (.pure (.val (.bool !t)))
        | none => none
      | none => none) else bif isStruct P xT then (match eqSt P xT e x y with
        | some t => some (.pure (.val (.bool !t)))
        | none => none) else none
    | _ => none
  | _ => none

section
variable {P : Program}

@[simp] theorem addr_add_zero (a : Addr) : a.add 0 = a := by simp [Addr.add]

theorem run_sliceBound {w : World} {k : IntKind} {i : Int} {y : Nat} {c : BoundsCode} (h0 : 0 ≤ i) (h1 : i ≤ y) :
    (Instr.sliceBound (.int k i) y c).run P w = .ok i.toNat w := by
  simp [Instr.sliceBound, asIntOf, h0, h1]

theorem run_underlying' {t : TypeId} {d : TypeDesc} (h : P.underlying t = some d) (w : World) : (underlying t).run P w = .ok d w := by
  simp [underlying, h]

theorem run_sizeOf' {t : TypeId} {n : Nat} (h : sizeOf? P t = some n) (w : World) : (sizeOf t).run P w = .ok n w := by
  unfold sizeOf? at h
  cases hi : P.info? t with
  | none => rw [hi] at h; cases h
  | some i => rw [hi] at h; obtain rfl := Option.some.inj h; simp [sizeOf, typeInfo, hi]

theorem cutStr_ok {t : TypeId} (ht : P.underlying t = some .string) {s : ByteArray} {lo hi : Option Base} {r : PR} (h : cutStr s lo hi = some r) :
    PR.Ok P (do pure (.value (← Instr.sliceAt t (.string s) (lo.map Base.v) (hi.map Base.v) none))) r := by
  unfold cutStr at h
  split at h
  · obtain rfl := Option.some.inj h
    intro w
    simp [Instr.sliceAt, Instr.slice, Instr.sliceBounds, run_underlying' ht]
  · rename_i bl
    split at h
    · rename_i k l hv
      obtain rfl := Option.some.inj h
      rintro ⟨h0, h1⟩ w
      simp [Instr.sliceAt, Instr.slice, Instr.sliceBounds, run_underlying' ht, hv, run_sliceBound h0 h1]
    · cases h
  · rename_i bh
    split at h
    · rename_i k l hv
      obtain rfl := Option.some.inj h
      rintro ⟨h0, h1⟩ w
      simp [Instr.sliceAt, Instr.slice, Instr.sliceBounds, run_underlying' ht, hv, run_sliceBound h0 h1]
    · cases h
  · rename_i bl bh
    split at h
    · rename_i k l k' u hv hv'
      obtain rfl := Option.some.inj h
      rintro ⟨h0, h1, h2⟩ w
      simp [Instr.sliceAt, Instr.slice, Instr.sliceBounds, run_underlying' ht, hv, hv', run_sliceBound (by omega : 0 ≤ u) h2, run_sliceBound (y := u.toNat) h0 (by omega)]
    · cases h

theorem ite_add (m : Nat) (A : Option Addr) : (if m = 0 then A else A.map (·.add 0)) = A := by
  split
  · rfl
  · cases A <;> simp

theorem cutA_zero (A : Option Addr) (size m : Nat) : (if m = 0 then A else A.map (·.add (0 * size))) = A := by
  rw [Nat.zero_mul]; exact ite_add m A

theorem ite_some {c : Prop} [Decidable c] (a b : Addr) : (some (if c then a else b)) = if c then some a else some b := by split <;> rfl

theorem cutSl_ok {t el : TypeId} (ht : P.underlying t = some (.slice el)) {A : Option Addr} {len cap size : Nat} (hz : sizeOf? P el = some size) {lo hi mx : Option Base} {r : PR}
    (h : cutSl A len cap size lo hi mx = some r) :
    PR.Ok P (do pure (.value (← Instr.sliceAt t (.slice A len cap) (lo.map Base.v) (hi.map Base.v) (mx.map Base.v)))) r := by
  unfold cutSl at h
  split at h
  · obtain rfl := Option.some.inj h
    intro w
    simp [Instr.sliceAt, Instr.slice, Instr.sliceBounds, run_underlying' ht, run_sizeOf' hz, ite_add]
  · split at h
    · rename_i k l hv
      obtain rfl := Option.some.inj h
      rintro ⟨h0, h1⟩ w
      simp [Instr.sliceAt, Instr.slice, Instr.sliceBounds, run_underlying' ht, run_sizeOf' hz, hv, run_sliceBound h0 h1, cutA]
    · cases h
  · split at h
    · rename_i k l hv
      obtain rfl := Option.some.inj h
      rintro ⟨h0, h1⟩ w
      simp [Instr.sliceAt, Instr.slice, Instr.sliceBounds, run_underlying' ht, run_sizeOf' hz, hv, run_sliceBound h0 h1, ite_add]
    · cases h
  · split at h
    · rename_i k l k' u hv hv'
      obtain rfl := Option.some.inj h
      rintro ⟨h0, h1, h2⟩ w
      simp [Instr.sliceAt, Instr.slice, Instr.sliceBounds, run_underlying' ht, run_sizeOf' hz, hv, hv', run_sliceBound (by omega : 0 ≤ u) h2, run_sliceBound (y := u.toNat) h0 (by omega), cutA]
    · cases h
  · split at h
    · rename_i k l k' u hv hv'
      obtain rfl := Option.some.inj h
      rintro ⟨h0, h1, h2⟩ w
      simp [Instr.sliceAt, Instr.slice, Instr.sliceBounds, run_underlying' ht, run_sizeOf' hz, hv, hv', run_sliceBound (by omega : 0 ≤ u) h2, run_sliceBound (y := u.toNat) h0 (by omega), ite_add]
    · cases h
  · split at h
    · rename_i k l k' u k'' m hv hv' hv''
      obtain rfl := Option.some.inj h
      rintro ⟨h0, h1, h2, h3⟩ w
      simp [Instr.sliceAt, Instr.slice, Instr.sliceBounds, run_underlying' ht, run_sizeOf' hz, hv, hv', hv'', run_sliceBound (by omega : 0 ≤ m) h3, run_sliceBound (y := m.toNat) (by omega : 0 ≤ u) (by omega),
        run_sliceBound (y := u.toNat) h0 (by omega), cutA]
    · cases h
  · cases h

theorem cutArr_ok {t el : TypeId} {n : Nat} (ht : P.underlying t = some (.array n el)) {a : Addr} {size : Nat} (hz : sizeOf? P el = some size) {lo hi mx : Option Base} {r : PR}
    (h : cutSl (some a) n n size lo hi mx = some r) :
    PR.Ok P (do pure (.value (← Instr.sliceAt t (.pointer (some a)) (lo.map Base.v) (hi.map Base.v) (mx.map Base.v)))) r := by
  unfold cutSl at h
  split at h
  · obtain rfl := Option.some.inj h
    intro w
    simp [Instr.sliceAt, Instr.sureAddr, Instr.sliceBounds, run_underlying' ht, run_sizeOf' hz]
  · split at h
    · rename_i k l hv
      obtain rfl := Option.some.inj h
      rintro ⟨h0, h1⟩ w
      simp [Instr.sliceAt, Instr.sureAddr, Instr.sliceBounds, run_underlying' ht, run_sizeOf' hz, hv, run_sliceBound h0 h1, cutA, ite_some]
    · cases h
  · split at h
    · rename_i k l hv
      obtain rfl := Option.some.inj h
      rintro ⟨h0, h1⟩ w
      simp [Instr.sliceAt, Instr.sureAddr, Instr.sliceBounds, run_underlying' ht, run_sizeOf' hz, hv, run_sliceBound h0 h1]
    · cases h
  · split at h
    · rename_i k l k' u hv hv'
      obtain rfl := Option.some.inj h
      rintro ⟨h0, h1, h2⟩ w
      simp [Instr.sliceAt, Instr.sureAddr, Instr.sliceBounds, run_underlying' ht, run_sizeOf' hz, hv, hv', run_sliceBound (by omega : 0 ≤ u) h2, run_sliceBound (y := u.toNat) h0 (by omega), cutA, ite_some]
    · cases h
  · split at h
    · rename_i k l k' u hv hv'
      obtain rfl := Option.some.inj h
      rintro ⟨h0, h1, h2⟩ w
      simp [Instr.sliceAt, Instr.sureAddr, Instr.sliceBounds, run_underlying' ht, run_sizeOf' hz, hv, hv', run_sliceBound (by omega : 0 ≤ u) h2, run_sliceBound (y := u.toNat) h0 (by omega)]
    · cases h
  · split at h
    · rename_i k l k' u k'' m hv hv' hv''
      obtain rfl := Option.some.inj h
      rintro ⟨h0, h1, h2, h3⟩ w
      simp [Instr.sliceAt, Instr.sureAddr, Instr.sliceBounds, run_underlying' ht, run_sizeOf' hz, hv, hv', hv'', run_sliceBound (by omega : 0 ≤ m) h3, run_sliceBound (y := m.toNat) (by omega : 0 ≤ u) (by omega),
        run_sliceBound (y := u.toNat) h0 (by omega), cutA, ite_some]
    · cases h
  · cases h

theorem optE_ok {e : Operand → Option Base} {ρ : Operand → Value} (he : ∀ x b, e x = some b → ρ x = b.v) {x : Option Operand} {r : Option Base} (h : optE e x = some r) :
    x.map ρ = r.map Base.v := by
  cases x with
  | none => simp only [optE, Option.some.injEq] at h; subst h; rfl
  | some x =>
    simp only [optE] at h
    cases hx : e x with
    | none => rw [hx] at h; cases h
    | some b => rw [hx] at h; obtain rfl := Option.some.inj h; simp [he x b hx]

theorem run_fieldAt {s : TypeId} {f off : Nat} (h : fieldOff P s f = some off) (a : Addr) (w : World) :
    (Instr.fieldAt s (.pointer (some a)) f).run P w = .ok (.pointer (some (a.add off))) w := by
  unfold fieldOff at h
  split at h
  · rename_i fs hs
    split at h
    · rename_i fd hf
      split at h
      · rename_i i hi
        split at h
        · cases h
        · rename_i hz
          obtain rfl := Option.some.inj h
          simp [Instr.fieldAt, run_underlying' hs, hf, Instr.sureAddr, fieldPlace, run_sizeOf' (by unfold sizeOf?; rw [hi] : sizeOf? P fd.type = some i.size), hz]
      · cases h
    · cases h
  · cases h


theorem equalIn_nil {t : TypeId} {b : Base} {y : Operand} {v : Bool} (h : nilCmp P t b y = some v) (d : Nat) (w : World) :
    ∀ c, y = .const c → (Op.equalIn (d + 1) t b.v c).run P w = .ok v w := by
  unfold nilCmp at h
  split at h <;> try (cases h; done)
  · rename_i ht
    obtain rfl := Option.some.inj h
    intro c hc; cases hc
    simp only [Op.equalIn, Sem.run_bind, run_underlying' ht, Result.andThen_ok]
    rfl
  · rename_i q ht
    obtain rfl := Option.some.inj h
    intro c hc; cases hc
    cases q <;> (simp only [Op.equalIn, Sem.run_bind, run_underlying' ht, Result.andThen_ok]; rfl)
  · rename_i el a _ _ _ _ ht
    obtain rfl := Option.some.inj h
    intro c hc; cases hc
    cases a <;> (simp only [Op.equalIn, Sem.run_bind, run_underlying' ht, Result.andThen_ok]; rfl)
  · rename_i r ht
    obtain rfl := Option.some.inj h
    intro c hc; cases hc
    cases r <;> (simp only [Op.equalIn, Sem.run_bind, run_underlying' ht, Result.andThen_ok]; rfl)

theorem run_eql_nil {t : TypeId} {b : Base} {y : Operand} {v : Bool} (h : nilCmp P t b y = some v) {ρ : Operand → Value} (hy : ∀ c, ρ (.const c) = c) (w : World) :
    (binOp .eql t b.v (ρ y)).run P w = .ok (.bool v) w ∧ (binOp .neq t b.v (ρ y)).run P w = .ok (.bool !v) w ∧
    (∀ op x y', (eqGuard op t x y' b.v (ρ y)).run P w = .ok () w) := by
  have key : (Op.equal t b.v (ρ y)).run P w = .ok v w ∧ (binOp .eql t b.v (ρ y) = do pure (.bool (← Op.equal t b.v (ρ y)))) ∧ (binOp .neq t b.v (ρ y) = do pure (.bool (!(← Op.equal t b.v (ρ y))))) ∧
      (∀ op x y', (eqGuard op t x y' b.v (ρ y)).run P w = .ok () w) := by
    have hq : (Op.equal t b.v (ρ y)).run P w = .ok v w := by
      have := equalIn_nil h 9999 w
      unfold nilCmp at h
      split at h <;> try (cases h; done)
      all_goals (rw [hy]; exact this _ rfl)
    refine ⟨hq, ?_, ?_, fun op x y' => ?_⟩
    all_goals
      clear hq
      unfold nilCmp at h
      split at h <;> try (cases h; done)
      all_goals
        clear h
        simp only [hy]
        first | rfl | (unfold eqGuard; split <;> rfl)
  obtain ⟨h1, h2, h3, h4⟩ := key
  exact ⟨by rw [h2]; simp [h1], by rw [h3]; simp [h1], h4⟩

theorem run_isAgg {t : TypeId} {b : Bool} (h : aggT P t = some b) (w : World) : (isAgg t).run P w = .ok b w := by
  unfold aggT at h
  split at h
  · rename_i ht; obtain rfl := Option.some.inj h; simp [isAgg, run_underlying' ht]
  · rename_i ht; obtain rfl := Option.some.inj h; simp [isAgg, run_underlying' ht]
  · rename_i d h1 h2 ht
    obtain rfl := Option.some.inj h
    simp only [isAgg, Sem.run_bind, run_underlying' ht, Result.andThen_ok]
    cases d <;> first | rfl | exact (h1 _ rfl).elim | exact (h2 _ _ rfl).elim
  · cases h

theorem run_part {t : TypeId} {cs : Array Value} {off : Nat} {v : Value} (h : partV P t cs off = some v) (w : World) : (part t cs off).run P w = .ok v w := by
  unfold partV at h
  unfold part
  split at h
  · rename_i ha
    split at h
    · rename_i n hz
      obtain rfl := Option.some.inj h
      simp only [Sem.run_bind, run_isAgg ha, Result.andThen_ok, if_true, run_sizeOf' hz, Sem.run_pure]
      congr 2
      apply Array.ext'
      simp [List.take_drop, Nat.add_comm]
    · cases h
  · rename_i ha
    have hv : cs[off]? = some v := by simpa using h
    simp only [Sem.run_bind, run_isAgg ha, Result.andThen_ok, Bool.false_eq_true, if_false, hv, Sem.run_pure]
  · cases h

theorem eqFields_ok {g : TypeId → Value → Value → Option Bool} {d : Nat} (hg : ∀ {t x y b}, g t x y = some b → ∀ w, (Op.equalIn d t x y).run P w = .ok b w) (xs ys : Array Value) :
    ∀ {l : List Field} {b : Bool}, eqFields g (partV P) xs ys l = some b → ∀ w, (Op.eqFields d xs ys l).run P w = .ok b w
  | [], b, h, w => by simp only [eqFields, Option.some.injEq] at h; subst h; simp [Op.eqFields]
  | f :: r, b, h, w => by
    simp only [eqFields] at h
    split at h
    · cases h
    · rename_i hf
      split at h
      · rename_i x y hx hy
        have key : ∀ b1, g f.type x y = some b1 → (Op.eqFields d xs ys (f :: r)).run P w = if b1 then (Op.eqFields d xs ys r).run P w else .ok false w := fun b1 hb => by
          simp only [Op.eqFields, Sem.run_ite, Sem.run_bind, run_part hx, run_part hy, hg hb, Result.andThen_ok]
          rw [if_pos hf]
          cases b1 <;> simp
        split at h
        · rename_i hr
          rw [key b h]
          cases b <;> simp [Op.eqFields]
        · unfold andO at h
          split at h
          · rename_i b1 b2 h1 h2
            obtain rfl := Option.some.inj h
            rw [key b1 h1, eqFields_ok hg xs ys h2 w]
            cases b1 <;> simp
          · cases h
      · cases h

theorem fieldsOf_eq {t : TypeId} {fs : Array Field} (h : P.underlying t = some (.struct fs)) : P.fieldsOf t = fs := by
  simp [Program.fieldsOf, h]

theorem eqV_ok : ∀ (d : Nat) {t : TypeId} {x y : Value} {b : Bool}, eqV P d t x y = some b → ∀ w, (Op.equalIn d t x y).run P w = .ok b w
  | 0, t, x, y, b, h, w => by simp [eqV] at h
  | d + 1, t, x, y, b, h, w => by
    simp only [eqV] at h
    split at h
    · rename_i ht
      split at h
      · rename_i hk
        subst hk
        obtain rfl := Option.some.inj h
        simp [Op.equalIn, run_underlying' ht]
      · cases h
    · rename_i ht
      obtain rfl := Option.some.inj h
      simp [Op.equalIn, run_underlying' ht]
    · rename_i ht
      obtain rfl := Option.some.inj h
      simp [Op.equalIn, run_underlying' ht]
    · rename_i fs xs ys ht
      split at h
      · cases h
      · rename_i hs
        have hf := fieldsOf_eq ht
        rw [run_equalIn_struct w d t xs ys (by rw [hf]; exact ht) (by simpa using hs), hf]
        exact eqFields_ok (eqV_ok d) xs ys h w
    · cases h

theorem eqSt_ok {e : Operand → Option Base} {ρ : Operand → Value} (he : ∀ x b, e x = some b → ρ x = b.v) {t : TypeId} (hs : isStruct P t = true) {x y : Operand} {b : Bool}
    (h : eqSt P t e x y = some b) (w : World) : ∃ xs ys, ρ x = .agg xs ∧ ρ y = .agg ys ∧ (Op.equalIn 10000 t (.agg xs) (.agg ys)).run P w = .ok b w ∧ P.eqGuardType P.depth t = false := by
  unfold eqSt at h
  split at h
  · rename_i bx by_ hx hy
    split at h
    · rename_i xs ys hvx hvy
      refine ⟨xs, ys, by rw [he _ _ hx, hvx], by rw [he _ _ hy, hvy], eqV_ok 10000 h w, ?_⟩
      unfold isStruct at hs
      split at hs
      · simpa using hs
      · cases hs
    · cases h
  · cases h

theorem pSpec_ok {e : Operand → Option Base} {ρ : Operand → Value} (he : ∀ x b, e x = some b → ρ x = b.v) (hc : ∀ c, ρ (.const c) = c) {o : Oper} {r : PR}
    (h : pSpec P e o = some r) : PR.Ok P (execOp ρ o) r := by
  obtain ⟨dst, op, type, pos, after, guard⟩ := o
  unfold pSpec at h
  dsimp only at h
  split at h
  · -- nilCheck
    rename_i x
    split at h
    · rename_i a ha
      obtain rfl := Option.some.inj h
      intro w
      simp [execOp, he x _ ha]
    · rename_i p hp
      obtain rfl := Option.some.inj h
      rintro a rfl w
      simp [execOp, he x _ hp]
    · cases h
  · -- fieldAddr
    rename_i s x f
    split at h
    · rename_i off a hf ha
      obtain rfl := Option.some.inj h
      intro w
      simp [execOp, he x _ ha, run_fieldAt hf]
    · rename_i off p hf hp
      obtain rfl := Option.some.inj h
      rintro a rfl w
      simp [execOp, he x _ hp, run_fieldAt hf]
    · cases h
  · -- indexAddr
    rename_i t x ix
    split at h
    · rename_i el A l c bi ht hx hi
      split at h
      · rename_i size k i hz hv
        obtain rfl := Option.some.inj h
        rintro a ⟨h0, h1, rfl⟩ w
        simp [execOp, he x _ hx, he ix _ hi, hv, Instr.indexAt, asIntOf, run_underlying' ht, run_sizeOf' hz, h0, h1]
      · cases h
    · rename_i n el a bi ht hx hi
      split at h
      · rename_i size k i hz hv
        obtain rfl := Option.some.inj h
        rintro ⟨h0, h1⟩ w
        simp [execOp, he x _ hx, he ix _ hi, hv, Instr.indexAt, Instr.sureAddr, asIntOf, run_underlying' ht, run_sizeOf' hz, h0, h1]
      · cases h
    · cases h
  · -- index
    rename_i t x ix
    split at h
    · rename_i bx bi ht hx hi
      split at h
      · rename_i s k i hv hv'
        obtain rfl := Option.some.inj h
        rintro ⟨h0, h1⟩ w
        have hlt : i.toNat < s.size := by omega
        have hb : s[i.toNat]? = some s[i.toNat] := getElem?_pos s i.toNat hlt
        have hbt : bt s i = (s[i.toNat].toNat : Int) := by
          unfold bt
          have : s.data.toList.getD i.toNat 0 = s[i.toNat] := by
            simp [List.getD, ByteArray.getElem_eq_getElem_data, ByteArray.size_data, hlt]
          rw [this]
        simp only [execOp, he x _ hx, he ix _ hi, hv, hv', Instr.index, asIntOf, Sem.run_bind, Sem.run_pure, Result.andThen_ok, run_underlying' ht, h0, if_true, hb, hbt]
      · cases h
    · cases h
  · -- slice
    rename_i t x lo hi mx
    split at h
    · rename_i bx bl bh ht hx hl hh hm
      split at h
      · rename_i s hv
        have := cutStr_ok (P := P) ht h
        have e1 := optE_ok he hl; have e2 := optE_ok he hh; have e3 := optE_ok he hm
        simp only [execOp, he x _ hx, hv, e1, e2, e3]
        exact this
      · cases h
    · rename_i el A len cap bl bh bm ht hx hl hh hm
      split at h
      · rename_i size hz
        have := cutSl_ok (P := P) ht hz h
        have e1 := optE_ok he hl; have e2 := optE_ok he hh; have e3 := optE_ok he hm
        simp only [execOp, he x _ hx, e1, e2, e3]
        exact this
      · cases h
    · rename_i n el a bl bh bm ht hx hl hh hm
      split at h
      · rename_i size hz
        have := cutArr_ok (P := P) ht hz h
        have e1 := optE_ok he hl; have e2 := optE_ok he hh; have e3 := optE_ok he hm
        simp only [execOp, he x _ hx, e1, e2, e3]
        exact this
      · cases h
    · cases h
  · -- binOp
    rename_i bop xT x y yT
    split at h
    · -- quo
      simp only [cond_eq_ite] at h
      split at h
      · cases h
      · split at h
        · rename_i bx by_ hx hy
          split at h
          · rename_i k a k' b hv hv'
            split at h
            · rename_i hk
              subst hk
              obtain rfl := Option.some.inj h
              intro hb w
              simp [execOp, eqGuard, he x _ hx, he y _ hy, hv, hv', binOp, Op.intDiv, hb]
            · cases h
          · cases h
        · cases h
    · simp only [cond_eq_ite] at h
      split at h
      · cases h
      · split at h
        · rename_i bx by_ hx hy
          split at h
          · rename_i k a k' b hv hv'
            split at h
            · rename_i hk
              subst hk
              obtain rfl := Option.some.inj h
              intro hb w
              simp [execOp, eqGuard, he x _ hx, he y _ hy, hv, hv', binOp, Op.intDiv, hb]
            · cases h
          · cases h
        · cases h
    · simp only [cond_eq_ite] at h
      split at h
      · cases h
      · split at h
        · rename_i bx by_ hx hy
          split at h
          · rename_i k a k' b hv hv'
            obtain rfl := Option.some.inj h
            intro hb w
            have : ¬ b < 0 := by omega
            simp [execOp, eqGuard, he x _ hx, he y _ hy, hv, hv', binOp, Op.shift, this]
          · cases h
        · cases h
    · simp only [cond_eq_ite] at h
      split at h
      · cases h
      · split at h
        · rename_i bx by_ hx hy
          split at h
          · rename_i k a k' b hv hv'
            obtain rfl := Option.some.inj h
            intro hb w
            have : ¬ b < 0 := by omega
            simp [execOp, eqGuard, he x _ hx, he y _ hy, hv, hv', binOp, Op.shift, this]
          · cases h
        · cases h
    · simp only [cond_eq_ite] at h
      split at h
      · split at h
        · rename_i bx by_ hx hy
          split at h
          · rename_i a b hv hv'
            obtain rfl := Option.some.inj h
            intro hb w
            have : ¬ ((a.size + b.size : Nat) : Int) > IntKind.i64.max := by omega
            simp only [execOp, eqGuard, he x _ hx, he y _ hy, hv, hv', binOp, Op.stringOp, if_neg this]
            rfl
          · cases h
        · cases h
      · cases h
    · simp only [cond_eq_ite] at h
      split at h
      · split at h
        · rename_i b hx
          split at h
          · rename_i v hv
            obtain rfl := Option.some.inj h
            intro w
            obtain ⟨h1, h2, h3⟩ := run_eql_nil hv hc w
            simp [execOp, he x _ hx, h1, h3]
          · cases h
        · cases h
      · split at h
        · rename_i hst
          split at h
          · rename_i t ht
            obtain rfl := Option.some.inj h
            intro w
            obtain ⟨xs, ys, hx, hy, hq, hgd⟩ := eqSt_ok he hst ht w
            simp only [execOp, hx, hy, Sem.run_bind, run_eqGuard_agg (hm := hgd), Result.andThen_ok, run_eql_struct, hq, Sem.run_pure]
          · cases h
        · cases h
    · simp only [cond_eq_ite] at h
      split at h
      · split at h
        · rename_i b hx
          split at h
          · rename_i v hv
            obtain rfl := Option.some.inj h
            intro w
            obtain ⟨h1, h2, h3⟩ := run_eql_nil hv hc w
            simp [execOp, he x _ hx, h2, h3]
          · cases h
        · cases h
      · split at h
        · rename_i hst
          split at h
          · rename_i t ht
            obtain rfl := Option.some.inj h
            intro w
            obtain ⟨xs, ys, hx, hy, hq, hgd⟩ := eqSt_ok he hst ht w
            simp only [execOp, hx, hy, Sem.run_bind, run_eqGuard_agg (hm := hgd), Result.andThen_ok, run_neq_struct, hq, Sem.run_pure]
          · cases h
        · cases h
    · cases h
  · cases h

end
end Go.Dec
