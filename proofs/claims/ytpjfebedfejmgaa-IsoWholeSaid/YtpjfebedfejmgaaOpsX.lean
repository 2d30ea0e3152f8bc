/- Ops, part X: the same rules, what they want found by instance search. -/
import Derived.Test.YtpjfebedfejmgaaOpsS
namespace Go.Dec
set_option linter.unusedVariables false
set_option linter.unusedSimpArgs false

/-! ### What a bool says -/
class BP (b : Bool) (p : outParam Prop) : Prop where
  ok : b = true ↔ p
instance (priority := low) BP.any {b : Bool} : BP b (b = true) := ⟨.rfl⟩
instance BP.dec {p : Prop} [Decidable p] : BP (decide p) p := ⟨decide_eq_true_iff⟩
instance BP.or {a b : Bool} {p q : Prop} [h1 : BP a p] [h2 : BP b q] : BP (a || b) (p ∨ q) := ⟨by rw [Bool.or_eq_true, h1.ok, h2.ok]⟩
instance BP.and {a b : Bool} {p q : Prop} [h1 : BP a p] [h2 : BP b q] : BP (a && b) (p ∧ q) := ⟨by rw [Bool.and_eq_true, h1.ok, h2.ok]⟩
instance BP.not {a : Bool} {p : Prop} [h1 : BP a p] : BP (!a) (¬ p) := ⟨by rw [Bool.not_eq_true', ← h1.ok]; simp⟩
instance BP.eqI {x y : Int} : BP (x == y) (x = y) := ⟨by simp⟩
instance BP.neI {x y : Int} : BP (x != y) (x ≠ y) := ⟨by simp⟩
instance BP.eqB {x y : Bool} : BP (x == y) (x = y) := ⟨by simp⟩
instance BP.neB {x y : Bool} : BP (x != y) (x ≠ y) := ⟨by simp⟩
theorem bytes_toList {s t : ByteArray} : ByteArray.toList s = ByteArray.toList t ↔ s = t := by
  refine ⟨fun h => ?_, fun h => by rw [h]⟩
  have h2 : (s.data == t.data) = true := (beq_toListBytes s t).trans (beq_iff_eq.2 h)
  cases s; cases t
  exact congrArg ByteArray.mk (eq_of_beq h2)
instance BP.eqS {s t : ByteArray} : BP (ByteArray.toList s == ByteArray.toList t) (s = t) := ⟨by rw [beq_iff_eq, bytes_toList]⟩
instance BP.nilA {α : Type} {o : Option α} : BP (Option.isNone o) (o = none) := ⟨by simp⟩
instance BP.tru : BP true True := ⟨by simp⟩
instance BP.fls : BP false False := ⟨by simp⟩

/-! ### Values, taken apart -/
class IsP (p : Pr) (v : Value) (x : outParam p.D) : Prop where
  ok : v = p.mk x
instance IsP.int {k : IntKind} {n : Int} : IsP (.int k) (.int k n) n := ⟨rfl⟩
instance IsP.bool {b : Bool} : IsP .bool (.bool b) b := ⟨rfl⟩
instance IsP.str {s : ByteArray} : IsP .str (.string s) s := ⟨rfl⟩
instance IsP.ptr {o : Option Addr} : IsP .ptr (.pointer o) o := ⟨rfl⟩
instance IsP.adr {a : Addr} : IsP .adr (.pointer (some a)) a := ⟨rfl⟩
instance (priority := low) IsP.slc {a : Option Addr} {l c : Nat} : IsP .slc (.slice a l c) ⟨a, l, c⟩ := ⟨rfl⟩
instance IsP.slv {x : Sl} : IsP .slc (.slice x.a x.len x.cap) x := ⟨rfl⟩
instance IsP.map {o : Option Nat} : IsP .map (.map o) o := ⟨rfl⟩
instance IsP.any {v : Value} : IsP .any v v := ⟨rfl⟩

class IsHL (ps : List Pr) (vs : List Value) (x : outParam (HL ps)) : Prop where
  ok : vs = HL.vals ps x
instance IsHL.nil : IsHL [] [] () := ⟨rfl⟩
instance IsHL.cons {p : Pr} {ps : List Pr} {v : Value} {vs : List Value} {x : p.D} {y : HL ps} [h1 : IsP p v x] [h2 : IsHL ps vs y] : IsHL (p :: ps) (v :: vs) (x, y) :=
  ⟨by rw [h1.ok, h2.ok]⟩

class IsV (ss : List Sh1) (vs : List Value) (x : outParam (HL (prims ss))) : Prop where
  ok : vs = valsOf ss x
instance IsV.nil : IsV [] [] () := ⟨rfl⟩
instance IsV.cons {p : Pr} {ss : List Sh1} {v : Value} {vs : List Value} {x : p.D} {y : HL (prims ss)} [h1 : IsP p v x] [h2 : IsV ss vs y] : IsV (.one p :: ss) (v :: vs) ((x, y) : p.D × HL (prims ss)) :=
  ⟨by rw [h1.ok, h2.ok]; rfl⟩

/-- The values that are returned, as a call hands them on. -/
class IsR (s : Sh) (vs : List Value) (x : outParam (HL s.prims)) : Prop where
  ok : pack vs = s.mk x
instance IsR.one {p : Pr} {v : Value} {x : p.D} [h : IsP p v x] : IsR (.one (.one p)) [v] ((x, ()) : p.D × Unit) := ⟨by rw [h.ok]; rfl⟩
instance IsR.agg {ps : List Pr} {vs : List Value} {x : HL ps} [h : IsHL ps vs x] : IsR (.one (.agg ps)) [.agg vs.toArray] x := ⟨by rw [h.ok]; rfl⟩
instance IsR.nil : IsR (.tup []) [] () := ⟨rfl⟩
instance IsR.tup {s1 s2 : Sh1} {l : List Sh1} {v1 v2 : Value} {vs : List Value} {x : HL (prims (s1 :: s2 :: l))} [h : IsV (s1 :: s2 :: l) (v1 :: v2 :: vs) x] : IsR (.tup (s1 :: s2 :: l)) (v1 :: v2 :: vs) x :=
  ⟨by
    show Value.tuple (v1 :: v2 :: vs).toArray = .tuple (valsOf (s1 :: s2 :: l) x).toArray
    rw [← h.ok]⟩

/-! ### Addresses, cells -/
class AddrIs (a : Addr) (b : outParam Nat) (off : outParam Nat) : Prop where
  ok : a = ⟨b, off, none⟩
instance AddrIs.at {b off : Nat} : AddrIs ⟨b, off, none⟩ b off := ⟨rfl⟩
instance (priority := high) AddrIs.add0 {a : Addr} {b off : Nat} [h : AddrIs a b off] : AddrIs (a.add 0) b off := ⟨by rw [h.ok, add_mk]; rfl⟩
instance AddrIs.addn {a : Addr} {b n : Nat} [h : AddrIs a b 0] : AddrIs (a.add n) b n := ⟨by rw [h.ok, add_mk, Nat.zero_add]⟩

class GetL (l : List Value) (n : Nat) (v : outParam Value) : Prop where
  ok : l[n]? = some v
instance GetL.zero {v : Value} {l : List Value} : GetL (v :: l) 0 v := ⟨rfl⟩
instance GetL.succ {u v : Value} {l : List Value} {n : Nat} [h : GetL l n v] : GetL (u :: l) (n + 1) v := ⟨by rw [List.getElem?_cons_succ]; exact h.ok⟩
class SetL (l : List Value) (n : Nat) (v : Value) (l' : outParam (List Value)) : Prop where
  ok : l.set n v = l' ∧ n < l.length
instance SetL.zero {u v : Value} {l : List Value} : SetL (u :: l) 0 v (v :: l) := ⟨rfl, by simp⟩
instance SetL.succ {u v : Value} {l l' : List Value} {n : Nat} [h : SetL l n v l'] : SetL (u :: l) (n + 1) v (u :: l') := ⟨by rw [List.set_cons_succ, h.ok.1], by have := h.ok.2; simp; omega⟩

/-- How many there are. -/
class LenIs (l : List Value) (n : Nat) : Prop where
  ok : l.length = n
instance LenIs.nil : LenIs [] 0 := ⟨rfl⟩
instance LenIs.cons {v : Value} {l : List Value} {n : Nat} [h : LenIs l n] : LenIs (v :: l) (n + 1) := ⟨by rw [List.length_cons, h.ok]⟩
/-- The cells of a value. -/
class Cells (v : Value) (cs : outParam (List Value)) : Prop where
  ok : v.cells = cs.toArray
instance Cells.agg {l : List Value} : Cells (.agg l.toArray) l := ⟨rfl⟩
instance Cells.int {k : IntKind} {n : Int} : Cells (.int k n) [.int k n] := ⟨rfl⟩
instance Cells.bool {b : Bool} : Cells (.bool b) [.bool b] := ⟨rfl⟩
instance Cells.str {s : ByteArray} : Cells (.string s) [.string s] := ⟨rfl⟩
instance Cells.ptr {o : Option Addr} : Cells (.pointer o) [.pointer o] := ⟨rfl⟩
instance Cells.slc {a : Option Addr} {l c : Nat} : Cells (.slice a l c) [.slice a l c] := ⟨rfl⟩
instance Cells.map {o : Option Nat} : Cells (.map o) [.map o] := ⟨rfl⟩

/-- Each is one cell. -/
class Ones (vs : List Value) : Prop where
  ok : ∀ u ∈ vs, u.oneCell' = true
instance Ones.nil : Ones [] := ⟨by simp⟩
theorem Ones.mk' {v : Value} {vs : List Value} (h1 : v.oneCell' = true) (h : Ones vs) : Ones (v :: vs) := ⟨fun u hu => (List.mem_cons.1 hu).elim (fun e => by rw [e]; exact h1) (h.ok u)⟩
instance Ones.int {k : IntKind} {n : Int} {vs : List Value} [h : Ones vs] : Ones (.int k n :: vs) := .mk' rfl h
instance Ones.bool {b : Bool} {vs : List Value} [h : Ones vs] : Ones (.bool b :: vs) := .mk' rfl h
instance Ones.str {s : ByteArray} {vs : List Value} [h : Ones vs] : Ones (.string s :: vs) := .mk' rfl h
instance Ones.ptr {o : Option Addr} {vs : List Value} [h : Ones vs] : Ones (.pointer o :: vs) := .mk' rfl h
instance Ones.slc {a : Option Addr} {l c : Nat} {vs : List Value} [h : Ones vs] : Ones (.slice a l c :: vs) := .mk' rfl h
instance Ones.map {o : Option Nat} {vs : List Value} [h : Ones vs] : Ones (.map o :: vs) := .mk' rfl h

/-! ### Parts -/
/-- 'pred key st' stands in l. -/
class Fo {κ σ : Type} (l : List HP) (pred : κ → σ → HP) (key : κ) (st : outParam σ) (r : outParam (List HP)) : Prop where
  perm : l.Perm (pred key st :: r)
instance Fo.head {κ σ : Type} {l : List HP} {pred : κ → σ → HP} {key : κ} {st : σ} : Fo (pred key st :: l) pred key st l := ⟨.refl _⟩
instance (priority := low) Fo.tail {κ σ : Type} {x : HP} {l r : List HP} {pred : κ → σ → HP} {key : κ} {st : σ} [h : Fo l pred key st r] : Fo (x :: l) pred key st (x :: r) :=
  ⟨(List.Perm.cons x h.perm).trans (.swap _ _ _)⟩

/-- What is left where parts are dropped, or put in another order. -/
class Sub (l l' : List HP) : Prop where
  sub : ∀ p, satL l p → satL l' p
instance (priority := high) Sub.refl {l : List HP} : Sub l l := ⟨fun _ h => h⟩
instance Sub.cons {l r l' : List HP} {H : HP} [h1 : Foc l H r] [h2 : Sub r l'] : Sub l (H :: l') := ⟨fun p h => by
  obtain ⟨p1, p2, a, b, hd, hH, hr⟩ := satL_perm h1.perm h
  exact ⟨p1, p2, a, b, hd, hH, h2.sub _ hr⟩⟩
instance (priority := low) Sub.drop {x : HP} {l l' : List HP} [h : Sub l l'] : Sub (x :: l) l' := ⟨fun p hs => by
  obtain ⟨p1, p2, a, b, hd, hH, hr⟩ := hs
  exact h.sub _ (satL_sub b hr)⟩
theorem Sat.sub {w : World} {l l' : List HP} (hs : Sat w l) [h : Sub l l'] : Sat w l' := h.sub _ hs

/-- A slice that can be read wherever the parts hold. -/
class FocR (l : List HP) (x : Sl) (sz : outParam Nat) (cs : outParam (List Value)) : Prop where
  rd : ∀ w, Sat w l → Rd w sz x cs
instance FocR.head {T : TypeId} {x : Sl} {sz : Nat} {cs : List Value} {l : List HP} : FocR (slc T sz x cs :: l) x sz cs := ⟨fun _ h => h.rd⟩
instance (priority := low) FocR.tail {H : HP} {x : Sl} {sz : Nat} {cs : List Value} {l : List HP} [h : FocR l x sz cs] : FocR (H :: l) x sz cs := ⟨fun w hs => h.rd w hs.tail⟩

/-! ### Elements -/
/-- Elements of one cell; of many. -/
class Enc1 {α : Type} (enc : α → List Value) (p : Pr) (dec : outParam (α → p.D)) : Prop where
  ok : ∀ y, enc y = [p.mk (dec y)]
class EncA {α : Type} (enc : α → List Value) (ps : List Pr) (dec : outParam (α → HL ps)) : Prop where
  ok : ∀ y, enc y = HL.vals ps (dec y)
/-- How many cells an element has. -/
class EncN {α : Type} (enc : α → List Value) (sz : outParam Nat) : Prop where
  len : ∀ y, (enc y).length = sz
  pos : 0 < sz
  one : ∀ y, ∀ u ∈ enc y, u.oneCell' = true

def encI (n : Int) : List Value := [.int .i64 n]
def encB (n : Int) : List Value := [.int .u8 n]
def encT (s : ByteArray) : List Value := [.string s]
instance : Enc1 encI (.int .i64) (fun n => n) := ⟨fun _ => rfl⟩
instance : Enc1 encB (.int .u8) (fun n => n) := ⟨fun _ => rfl⟩
instance : Enc1 encT .str (fun n => n) := ⟨fun _ => rfl⟩
instance : EncN encI 1 := ⟨fun _ => rfl, by decide, by simp [encI, Value.oneCell']⟩
instance : EncN encB 1 := ⟨fun _ => rfl, by decide, by simp [encB, Value.oneCell']⟩
instance : EncN encT 1 := ⟨fun _ => rfl, by decide, by simp [encT, Value.oneCell']⟩

theorem flat_encB (ns : List Int) : ns.flatMap encB = u8s ns := by
  induction ns with
  | nil => rfl
  | cons n r ih => rw [List.flatMap_cons, ih]; rfl

/-! ### Numbers -/
theorem w64e {x y : Int} (h : x = y := by omega) (h0 : -9223372036854775808 ≤ x ∧ x < 9223372036854775808 := by omega) : IntKind.wrap .i64 x = y := by rw [w64 h0.1 h0.2, h]
theorem wu8 {x : Int} (h0 : 0 ≤ x) (h1 : x < 256) : IntKind.wrap .u8 x = x := by simp [IntKind.wrap, IntKind.bits, IntKind.signed]; omega
theorem wu64 {x : Int} (h0 : 0 ≤ x) (h1 : x < 18446744073709551616) : IntKind.wrap .u64 x = x := by simp [IntKind.wrap, IntKind.bits, IntKind.signed]; omega
theorem wi32 {x : Int} (h0 : -2147483648 ≤ x) (h1 : x < 2147483648) : IntKind.wrap .i32 x = x := by simp [IntKind.wrap, IntKind.bits, IntKind.signed]; omega

/-! ### A way on, at what it is handed -/
class AppU {α : Type} (k : α → Prog) (x : α) (p : outParam Prog) : Prop where
  ok : k x = p
instance AppU.u0 {p : Prog} {x : Unit} : AppU (u0 p) x p := ⟨rfl⟩
instance AppU.u1 {α : Type} {f : α → Prog} {a : α} : AppU (u1 f) (a, ()) (f a) := ⟨rfl⟩
instance AppU.u2 {α β : Type} {f : α → β → Prog} {a : α} {b : β} : AppU (u2 f) (a, b, ()) (f a b) := ⟨rfl⟩
instance AppU.u3 {α β γ : Type} {f : α → β → γ → Prog} {a : α} {b : β} {c : γ} : AppU (u3 f) (a, b, c, ()) (f a b c) := ⟨rfl⟩
instance AppU.u4 {α β γ δ : Type} {f : α → β → γ → δ → Prog} {a : α} {b : β} {c : γ} {d : δ} : AppU (u4 f) (a, b, c, d, ()) (f a b c d) := ⟨rfl⟩
instance AppU.u5 {α β γ δ ε : Type} {f : α → β → γ → δ → ε → Prog} {a : α} {b : β} {c : γ} {d : δ} {e : ε} : AppU (u5 f) (a, b, c, d, e, ()) (f a b c d e) := ⟨rfl⟩
instance AppU.u6 {α β γ δ ε ζ : Type} {f : α → β → γ → δ → ε → ζ → Prog} {a : α} {b : β} {c : γ} {d : δ} {e : ε} {z : ζ} : AppU (u6 f) (a, b, c, d, e, z, ()) (f a b c d e z) := ⟨rfl⟩
instance AppU.u7 {α β γ δ ε ζ η : Type} {f : α → β → γ → δ → ε → ζ → η → Prog} {a : α} {b : β} {c : γ} {d : δ} {e : ε} {z : ζ} {y : η} : AppU (u7 f) (a, b, c, d, e, z, y, ()) (f a b c d e z y) := ⟨rfl⟩
instance AppU.u8 {A0 A1 A2 A3 A4 A5 A6 A7 : Type} {f : A0 → A1 → A2 → A3 → A4 → A5 → A6 → A7 → Prog} {a0 : A0} {a1 : A1} {a2 : A2} {a3 : A3} {a4 : A4} {a5 : A5} {a6 : A6} {a7 : A7} : AppU (u8 f) (a0, a1, a2, a3, a4, a5, a6, a7, ()) (f a0 a1 a2 a3 a4 a5 a6 a7) := ⟨rfl⟩
instance AppU.u9 {A0 A1 A2 A3 A4 A5 A6 A7 A8 : Type} {f : A0 → A1 → A2 → A3 → A4 → A5 → A6 → A7 → A8 → Prog} {a0 : A0} {a1 : A1} {a2 : A2} {a3 : A3} {a4 : A4} {a5 : A5} {a6 : A6} {a7 : A7} {a8 : A8} : AppU (u9 f) (a0, a1, a2, a3, a4, a5, a6, a7, a8, ()) (f a0 a1 a2 a3 a4 a5 a6 a7 a8) := ⟨rfl⟩
instance AppU.u10 {A0 A1 A2 A3 A4 A5 A6 A7 A8 A9 : Type} {f : A0 → A1 → A2 → A3 → A4 → A5 → A6 → A7 → A8 → A9 → Prog} {a0 : A0} {a1 : A1} {a2 : A2} {a3 : A3} {a4 : A4} {a5 : A5} {a6 : A6} {a7 : A7} {a8 : A8} {a9 : A9} : AppU (u10 f) (a0, a1, a2, a3, a4, a5, a6, a7, a8, a9, ()) (f a0 a1 a2 a3 a4 a5 a6 a7 a8 a9) := ⟨rfl⟩
instance AppU.u11 {A0 A1 A2 A3 A4 A5 A6 A7 A8 A9 A10 : Type} {f : A0 → A1 → A2 → A3 → A4 → A5 → A6 → A7 → A8 → A9 → A10 → Prog} {a0 : A0} {a1 : A1} {a2 : A2} {a3 : A3} {a4 : A4} {a5 : A5} {a6 : A6} {a7 : A7} {a8 : A8} {a9 : A9} {a10 : A10} : AppU (u11 f) (a0, a1, a2, a3, a4, a5, a6, a7, a8, a9, a10, ()) (f a0 a1 a2 a3 a4 a5 a6 a7 a8 a9 a10) := ⟨rfl⟩
instance AppU.u12 {A0 A1 A2 A3 A4 A5 A6 A7 A8 A9 A10 A11 : Type} {f : A0 → A1 → A2 → A3 → A4 → A5 → A6 → A7 → A8 → A9 → A10 → A11 → Prog} {a0 : A0} {a1 : A1} {a2 : A2} {a3 : A3} {a4 : A4} {a5 : A5} {a6 : A6} {a7 : A7} {a8 : A8} {a9 : A9} {a10 : A10} {a11 : A11} : AppU (u12 f) (a0, a1, a2, a3, a4, a5, a6, a7, a8, a9, a10, a11, ()) (f a0 a1 a2 a3 a4 a5 a6 a7 a8 a9 a10 a11) := ⟨rfl⟩
instance AppU.u13 {A0 A1 A2 A3 A4 A5 A6 A7 A8 A9 A10 A11 A12 : Type} {f : A0 → A1 → A2 → A3 → A4 → A5 → A6 → A7 → A8 → A9 → A10 → A11 → A12 → Prog} {a0 : A0} {a1 : A1} {a2 : A2} {a3 : A3} {a4 : A4} {a5 : A5} {a6 : A6} {a7 : A7} {a8 : A8} {a9 : A9} {a10 : A10} {a11 : A11} {a12 : A12} : AppU (u13 f) (a0, a1, a2, a3, a4, a5, a6, a7, a8, a9, a10, a11, a12, ()) (f a0 a1 a2 a3 a4 a5 a6 a7 a8 a9 a10 a11 a12) := ⟨rfl⟩
instance AppU.u14 {A0 A1 A2 A3 A4 A5 A6 A7 A8 A9 A10 A11 A12 A13 : Type} {f : A0 → A1 → A2 → A3 → A4 → A5 → A6 → A7 → A8 → A9 → A10 → A11 → A12 → A13 → Prog} {a0 : A0} {a1 : A1} {a2 : A2} {a3 : A3} {a4 : A4} {a5 : A5} {a6 : A6} {a7 : A7} {a8 : A8} {a9 : A9} {a10 : A10} {a11 : A11} {a12 : A12} {a13 : A13} : AppU (u14 f) (a0, a1, a2, a3, a4, a5, a6, a7, a8, a9, a10, a11, a12, a13, ()) (f a0 a1 a2 a3 a4 a5 a6 a7 a8 a9 a10 a11 a12 a13) := ⟨rfl⟩
instance AppU.u15 {A0 A1 A2 A3 A4 A5 A6 A7 A8 A9 A10 A11 A12 A13 A14 : Type} {f : A0 → A1 → A2 → A3 → A4 → A5 → A6 → A7 → A8 → A9 → A10 → A11 → A12 → A13 → A14 → Prog} {a0 : A0} {a1 : A1} {a2 : A2} {a3 : A3} {a4 : A4} {a5 : A5} {a6 : A6} {a7 : A7} {a8 : A8} {a9 : A9} {a10 : A10} {a11 : A11} {a12 : A12} {a13 : A13} {a14 : A14} : AppU (u15 f) (a0, a1, a2, a3, a4, a5, a6, a7, a8, a9, a10, a11, a12, a13, a14, ()) (f a0 a1 a2 a3 a4 a5 a6 a7 a8 a9 a10 a11 a12 a13 a14) := ⟨rfl⟩
instance AppU.u16 {A0 A1 A2 A3 A4 A5 A6 A7 A8 A9 A10 A11 A12 A13 A14 A15 : Type} {f : A0 → A1 → A2 → A3 → A4 → A5 → A6 → A7 → A8 → A9 → A10 → A11 → A12 → A13 → A14 → A15 → Prog} {a0 : A0} {a1 : A1} {a2 : A2} {a3 : A3} {a4 : A4} {a5 : A5} {a6 : A6} {a7 : A7} {a8 : A8} {a9 : A9} {a10 : A10} {a11 : A11} {a12 : A12} {a13 : A13} {a14 : A14} {a15 : A15} : AppU (u16 f) (a0, a1, a2, a3, a4, a5, a6, a7, a8, a9, a10, a11, a12, a13, a14, a15, ()) (f a0 a1 a2 a3 a4 a5 a6 a7 a8 a9 a10 a11 a12 a13 a14 a15) := ⟨rfl⟩
class App {α : Type} (k : α → Prog) (x : α) (p : outParam Prog) : Prop where
  ok : k x = p
instance (priority := low) App.any {α : Type} {k : α → Prog} {x : α} : App k x (k x) := ⟨rfl⟩
instance App.ofU {α : Type} {k : α → Prog} {x : α} {p : Prog} [h : AppU k x p] : App k x p := ⟨h.ok⟩

section
variable {P : Program} {w : World} {l r : List HP} {Q : Post} {S : World → Prop} {b off : Nat} {T T' : TypeId} {g : Prop}

/-! ### Steps -/
theorem wp_on {α : Type} {k : α → Prog} {x : α} {p : Prog} [h : AppU k x p] (hp : p.wp P S w Q) : (k x).wp P S w Q := by rw [h.ok]; exact hp
theorem wp_if {c : Bool} {c' : Prop} [h : BP c c'] {p q : Prog} (h1 : c' → p.wp P S w Q) (h0 : ¬ c' → q.wp P S w Q) : (Prog.ite c p q).wp P S w Q :=
  ⟨fun hc => h1 (h.ok.1 hc), fun hc => h0 fun hp => by rw [h.ok.2 hp] at hc; cases hc⟩
theorem wp_ifT {c : Bool} {c' : Prop} [h : BP c c'] {p q : Prog} (h1 : p.wp P S w Q) (hc : c' := by first | trivial | assumption | omega | (simp; done)) : (Prog.ite c p q).wp P S w Q :=
  wp_ite_t (h.ok.2 hc) h1
theorem wp_ifF {c : Bool} {c' : Prop} [h : BP c c'] {p q : Prog} (h1 : q.wp P S w Q) (hc : ¬ c' := by first | trivial | assumption | omega | (simp; done)) : (Prog.ite c p q).wp P S w Q :=
  wp_ite_f (by cases c; · rfl
               · exact absurd (h.ok.1 rfl) hc) h1
theorem wp_tk {k : Prog} (hs : Sat w l) (h : ∀ w', Sat w' l → k.wp P S w' Q) : (Prog.tick k).wp P S w Q := wp_tick fun w' hw => h w' (hs.heap hw)
theorem wp_mu {c : Prop} {k : Prog} (h : k.wp P S w Q) (hc : c := by first | trivial | omega | assumption) : (Prog.must c k).wp P S w Q := ⟨hc, h⟩
theorem wp_ltw {x : Int} {k : Int → Prog} (h : (k x).wp P S w Q) (h0 : -9223372036854775808 ≤ x ∧ x < 9223372036854775808 := by omega) : (Prog.lt (.int .i64) (IntKind.wrap .i64 x) k).wp P S w Q := by
  show (k (IntKind.wrap .i64 x)).wp P S w Q
  rw [w64 h0.1 h0.2]; exact h
/-- A number, turned into a plain one. -/
theorem wp_ltx {k' : IntKind} {x y : Int} {k : Int → Prog} (h : (k y).wp P S w Q) (hxy : x = y := by first | exact rfl | ((try simp (disch := omega) only [w64, wu8, wu64]); omega)) : (Prog.lt (.int k') x k).wp P S w Q := by subst hxy; exact h
theorem wp_nn {a : Addr} {f : Addr → Prog} (h : (f a).wp P S w Q) : (Prog.ex [.adr] (c1 fun x => some a = some x) (u1 f)).wp P S w Q := ⟨(a, ()), rfl, h⟩
theorem wp_nng {a : Addr} {f : Addr → Prog} (h : (f a).wp P S w Q) : (Prog.ex [.adr] (c1 fun x => g → some a = some x) (u1 f)).wp P S w Q := ⟨(a, ()), fun _ => rfl, h⟩

/-- A way out at the tag that is caught. -/
theorem wp_lv {e : Nat} {ss : List Sh1} {vs : List Value} {x : HL (prims ss)} {M : HL (prims ss) → World → Prop} [h : IsV ss vs x] (hm : M x w) :
    (Prog.done e vs).wp P S w (Q.catch e fun vs w' => ∃ x, vs = valsOf ss x ∧ M x w') := ⟨fun _ => ⟨x, h.ok, hm⟩, fun h' => absurd rfl h'⟩
/-- A way out at a tag, and on with what follows there. -/
theorem wp_go {e : Nat} {ss : List Sh1} {vs : List Value} {x : HL (prims ss)} {k : HL (prims ss) → Prog} {p : Prog} {Q' : Post} [h : IsV ss vs x] [ha : App k x p] (hp : p.wp P S w Q') :
    (Prog.done e vs).wp P S w (Q.catch e fun vs w' => ∃ x, vs = valsOf ss x ∧ (k x).wp P S w' Q') := ⟨fun _ => ⟨x, h.ok, by rw [ha.ok]; exact hp⟩, fun h' => absurd rfl h'⟩
/-- The next round of a loop. -/
theorem wp_lp {e : Nat} {ss : List Sh1} {vs : List Value} {x : HL (prims ss)} {n : Nat} {I : Nat → HL (prims ss) → World → Prop} [h : IsV ss vs x] (m : Nat) (hm : I m x w) (hlt : m < n := by omega) :
    (Prog.done e vs).wp P S w (Q.catch e fun vs w' => ∃ x' m, m < n ∧ vs = valsOf ss x' ∧ I m x' w') := ⟨fun _ => ⟨x, m, hlt, h.ok, hm⟩, fun h' => absurd rfl h'⟩
/-- Behind a call. -/
theorem ret_of {s : Sh} {vs : List Value} {x : HL s.prims} {k : HL s.prims → Prog} {p : Prog} [h : IsR s vs x] [ha : App k x p] {Z : Prop} (hk : p.wp P S w Q) (hS : Z := by trivial) : ∃ x, pack vs = s.mk x ∧ Z ∧ (k x).wp P S w Q := ⟨x, h.ok, hS, by rw [ha.ok]; exact hk⟩

/-- A string's runes: the next one. -/
theorem wp_nx {ty : TypeId} {s : ByteArray} {pos : Nat} {k1 : Int → Int → Prog} {k0 : Prog} (hs : Sat w l) [hf : FocB l b (.stringIter s pos) r]
    (h1 : pos < s.size → ∀ w', Sat w' (pt b (.stringIter s (pos + (Utf8.decode s pos).2)) :: r) → (k1 pos (Utf8.decode s pos).1).wp P tt w' Q)
    (h0 : ¬ pos < s.size → k0.wp P tt w Q) :
    (Prog.next (Instr.next (.pointer (some ⟨b, 0, none⟩)) true ty) [.one (.int .i64), .one (.int .i32)] (u2 k1) k0).wp P tt w Q :=
  wp_nextS hs (fun h w' hs => ⟨trivial, h1 h w' hs⟩) (fun h => ⟨trivial, h0 h⟩)

/-! ### Memory -/
theorem run_ldO {a : Addr} {vs : List Value} {fr : Nat × Nat} {v : Value} {p : Pr} {x : p.D} (hs : Sat w l) [ha : AddrIs a b off] [hb : FocB l b (.cells vs.toArray T' fr) r] [hT : One P T] [hg : GetL vs off v] [hp : IsP p v x] :
    (ld T a).run P w = .ok ((Sh.one (.one p)).mk (x, ())) w := by
  have := run_ld1 (P := P) (off := off) (v := v) hT.ok.1 (hs.focB b).get (by simpa using hg.ok)
  rw [hp.ok] at this
  rw [ha.ok]
  cases p <;> exact this

theorem wp_ldO {a : Addr} {vs : List Value} {fr : Nat × Nat} {v : Value} {p : Pr} {x : p.D} {f : p.D → Prog} (hs : Sat w l) [ha : AddrIs a b off] [hb : FocB l b (.cells vs.toArray T' fr) r] [hT : One P T] [hg : GetL vs off v] [hp : IsP p v x]
    (h : (f x).wp P S w Q) : (Prog.read g (ld T a) (.one (.one p)) (u1 f)).wp P S w Q :=
  ⟨(x, ()), fun _ => run_ldO (T := T) hs, h⟩

theorem wp_hdO {a : Addr} {vs : List Value} {fr : Nat × Nat} {v : Value} {p : Pr} {x : p.D} {f : p.D → Prog} (hs : Sat w l) [ha : AddrIs a b off] [hb : FocB l b (.cells vs.toArray T' fr) r] [hT : One P T] [hg : GetL vs off v] [hp : IsP p v x]
    (h : (f x).wp P (fun w' => S w' ∧ (g → (ld T a).run P w' = .ok ((Sh.one (.one p)).mk (x, ())) w')) w Q) : (Prog.hold g (ld T a) (.one (.one p)) (u1 f)).wp P S w Q :=
  ⟨(x, ()), fun _ => run_ldO (T := T) hs, h⟩

theorem run_ldG {a : Addr} {vs : List Value} {fr : Nat × Nat} {ps : List Pr} {x : HL ps} {n : Nat} (hs : Sat w l) [ha : AddrIs a b 0] [hb : FocB l b (.cells vs.toArray T' fr) r] [hT : Agg P T n] [hx : IsHL ps vs x] [hn : LenIs vs n] :
    (ld T a).run P w = .ok ((Sh.one (.agg ps)).mk x) w := by
  have hn := hn.ok
  rw [ha.ok, run_ldA (P := P) hT.ok.1 hT.ok.2 (hs.focB b).get (by simp [hn])]
  simp only [Nat.zero_add, ← hn]
  congr 2
  rw [← hx.ok]; simp

theorem wp_ldG {a : Addr} {vs : List Value} {fr : Nat × Nat} {ps : List Pr} {x : HL ps} {k : HL ps → Prog} {n : Nat} (hs : Sat w l) [ha : AddrIs a b 0] [hb : FocB l b (.cells vs.toArray T' fr) r] [hT : Agg P T n] [hx : IsHL ps vs x] [hn : LenIs vs n] {p : Prog} [hA : App k x p]
    (h : p.wp P S w Q) : (Prog.read g (ld T a) (.one (.agg ps)) k).wp P S w Q :=
  ⟨x, fun _ => run_ldG (T := T) hs, by rw [hA.ok]; exact h⟩

theorem wp_hdG {a : Addr} {vs : List Value} {fr : Nat × Nat} {ps : List Pr} {x : HL ps} {k : HL ps → Prog} {n : Nat} (hs : Sat w l) [ha : AddrIs a b 0] [hb : FocB l b (.cells vs.toArray T' fr) r] [hT : Agg P T n] [hx : IsHL ps vs x] [hn : LenIs vs n] {p : Prog} [hA : App k x p]
    (h : p.wp P (fun w' => S w' ∧ (g → (ld T a).run P w' = .ok ((Sh.one (.agg ps)).mk x) w')) w Q) : (Prog.hold g (ld T a) (.one (.agg ps)) k).wp P S w Q :=
  ⟨x, fun _ => run_ldG (T := T) hs, by rw [hA.ok]; exact h⟩

theorem wp_stO {a : Addr} {vs vs' : List Value} {v : Value} {k : Prog} (hs : Sat w l) [ha : AddrIs a b off] [hb : FocB l b (.cells vs.toArray T' (0, 0)) r] [hT : One P T] [hg : SetL vs off v vs'] [hv : Cells v [v]] [ho : Ones [v]]
    (h : ∀ w', Sat w' (pt b (.cells vs'.toArray T') :: r) → k.wp P S w' Q) (hS : ∀ w', Sat w' (pt b (.cells vs'.toArray T') :: r) → S w' := by
      first | exact fun _ _ => trivial | (intro w' hs; repeat' (first | exact trivial | exact run_ldO hs | exact run_ldG hs | refine ⟨?_, fun _ => ?_⟩))) : (Prog.actU (st T a v) k).wp P S w Q := by
  have hv' : v.cells = #[v] := hv.ok
  have := run_st (P := P) (v := v) (off := off) hT.ok.2 (hs.focB b).get (by have := hg.ok.2; simp; omega) (by rw [hv']; rfl) (by rw [hv']; simpa using ho.ok) (unfrozen_zero _ _)
  rw [hv'] at this
  have hs' := (hs.focB b).set (o' := .cells vs'.toArray T')
  rw [← hg.ok.1] at *
  have e : putCells vs.toArray off [v] = (vs.set off v).toArray := by simp [putCells]
  rw [ha.ok]
  rw [show (#[v] : Array Value).toList = [v] from rfl, e] at this
  exact ⟨_, this, hS _ hs', h _ hs'⟩

theorem wp_stG {a : Addr} {vs vs' : List Value} {k : Prog} {n : Nat} (hs : Sat w l) [ha : AddrIs a b 0] [hb : FocB l b (.cells vs.toArray T' (0, 0)) r] [hT : Agg P T n] [ho : Ones vs'] [hn : LenIs vs n] [hn' : LenIs vs' n]
    (h : ∀ w', Sat w' (pt b (.cells vs'.toArray T') :: r) → k.wp P S w' Q) (hS : ∀ w', Sat w' (pt b (.cells vs'.toArray T') :: r) → S w' := by
      first | exact fun _ _ => trivial | (intro w' hs; repeat' (first | exact trivial | exact run_ldO hs | exact run_ldG hs | refine ⟨?_, fun _ => ?_⟩))) : (Prog.actU (st T a (.agg vs'.toArray)) k).wp P S w Q := by
  have hn := hn.ok
  have hn' := hn'.ok
  have := run_st (P := P) (v := .agg vs'.toArray) (off := 0) hT.ok.2 (hs.focB b).get (by simp [hn]) (by show vs'.toArray.size = n; simpa using hn') (by show ∀ x ∈ vs'.toArray.toList, _; simpa using ho.ok) (unfrozen_zero _ _)
  have e : putCells vs.toArray 0 (Value.cells (.agg vs'.toArray)).toList = vs'.toArray := putCells_all (vs := vs'.toArray) (by simp [hn, hn'])
  rw [e] at this
  have hs' := (hs.focB b).set (o' := .cells vs'.toArray T')
  rw [ha.ok]
  exact ⟨_, this, hS _ hs', h _ hs'⟩

theorem wp_newO {z : Value} {cs : List Value} {k : Addr → Prog} (hs : Sat w l) [hz : Zer P T z] [hc : Cells z cs]
    (h : ∀ b w', Sat w' (pt b (.cells cs.toArray T) :: l) → (k ⟨b, 0, none⟩).wp P S w' Q) (hS : ∀ b w', Sat w' (pt b (.cells cs.toArray T) :: l) → S w' := by
      first | exact fun _ _ _ => trivial | (intro b w' hs; repeat' (first | exact trivial | exact run_ldO hs | exact run_ldG hs | refine ⟨?_, fun _ => ?_⟩))) : (Prog.act (new T) sA (u1 k)).wp P S w Q :=
  wp_newZ hs fun b w' hs => by rw [hc.ok] at hs; exact ⟨hS _ _ hs, h _ _ hs⟩

theorem wp_boxO {v : Value} {cs : List Value} {k : Addr → Prog} (hs : Sat w l) [hc : Cells v cs]
    (h : ∀ b w', Sat w' (pt b (.cells cs.toArray T) :: l) → (k ⟨b, 0, none⟩).wp P S w' Q) (hS : ∀ b w', Sat w' (pt b (.cells cs.toArray T) :: l) → S w' := by
      first | exact fun _ _ _ => trivial | (intro b w' hs; repeat' (first | exact trivial | exact run_ldO hs | exact run_ldG hs | refine ⟨?_, fun _ => ?_⟩))) : (Prog.act (Instr.box T v) sA (u1 k)).wp P S w Q := by
  have hp := hs.push (o := .cells v.cells T) (w' := { w with heap := w.heap.push (.cells v.cells T) }) rfl
  rw [hc.ok] at hp
  refine ⟨(⟨w.heap.size, 0, none⟩, ()), { w with heap := w.heap.push (.cells v.cells T) }, by simp only [Instr.box, Sem.run_bind, run_newVar, Result.andThen_ok, Sem.run_pure], ?_, ?_⟩
  · rw [hc.ok]; exact hS _ _ hp
  · rw [hc.ok]; exact h _ _ hp

/-! ### Elements of slices, read -/
theorem wp_ix1 {α : Type} {enc : α → List Value} {xs : List α} {sz : Nat} {i i' : Int} {x : Sl} {g' : Prop} {p : Pr} {dec : α → p.D} {f : p.D → Prog} (hs : Sat w l) [hf : FocR l x sz (xs.flatMap enc)] [hE : EncN enc sz] [hD : Enc1 enc p dec] [hT : One P T]
    (n : Nat) (hn : n < xs.length) (h : (f (dec xs[n])).wp P S w Q) (hi : i = n := by first | rfl | omega) (hi' : i' = i := by rfl) :
    (Prog.ex [.adr] (c1 fun a => 0 ≤ i ∧ i < ((x.len : Nat) : Int) ∧ x.a = some a) (u1 fun a => .read g' (ld T (Addr.add a (Int.toNat i' * sz))) (.one (.one p)) (u1 f))).wp P S w Q := by
  subst hi hi'
  have hr := hf.rd w hs
  have hl : x.len = xs.length := hr.len hE.len hE.pos
  obtain ⟨a, ha, he⟩ := hr.el hE.len (by omega)
  refine ⟨(a, ()), ⟨by omega, by omega, ha⟩, (dec xs[n], ()), fun _ => ?_, h⟩
  have := he n hn
  rw [hD.ok] at this
  have h2 := At.ld1 (P := P) (T := T) this rfl
  cases p <;> exact h2

theorem wp_ixA {α : Type} {enc : α → List Value} {xs : List α} {sz m : Nat} {i i' : Int} {x : Sl} {g' : Prop} {ps : List Pr} {dec : α → HL ps} {k : HL ps → Prog} (hs : Sat w l) [hf : FocR l x sz (xs.flatMap enc)] [hE : EncN enc sz] [hD : EncA enc ps dec] [hT : Agg P T m]
    (n : Nat) (hn : n < xs.length) {p : Prog} [hA : App k (dec xs[n]) p] (h : p.wp P S w Q) (hi : i = n := by first | rfl | omega) (hi' : i' = i := by rfl) (hm : Nat.beq sz m = true := by rfl) :
    (Prog.ex [.adr] (c1 fun a => 0 ≤ i ∧ i < ((x.len : Nat) : Int) ∧ x.a = some a) (u1 fun a => .read g' (ld T (Addr.add a (Int.toNat i' * sz))) (.one (.agg ps)) k)).wp P S w Q := by
  have hm := Nat.eq_of_beq_eq_true hm
  subst hi hi' hm
  have hr := hf.rd w hs
  have hl : x.len = xs.length := hr.len hE.len hE.pos
  obtain ⟨a, ha, he⟩ := hr.el hE.len (by omega)
  refine ⟨(a, ()), ⟨by omega, by omega, ha⟩, dec xs[n], fun _ => ?_, by rw [hA.ok]; exact h⟩
  have := he n hn
  have h2 := At.ldA (P := P) (T := T) this (hE.len _)
  rw [hD.ok] at h2
  exact h2

/-- append of one element. -/
theorem wp_ap0 {α : Type} {enc : α → List Value} {xs : List α} {t ty el : TypeId} {sz bytes : Nat} {x : Sl} {v : Value} {cs : List Value} {k : Sl → Prog} (hs : Sat w l) [ht : SlT P t el sz bytes] [hf : FocS l x el sz (xs.flatMap enc) r] [hE : EncN enc sz] [hv : Cells v cs]
    (y : α) (h : ∀ z w', Sat w' (slc el sz z ((xs ++ [y]).flatMap enc) :: r) → (k z).wp P S w' Q) (hy : cs = enc y := by rfl) (hb : (xs.length + 1) * bytes ≤ 140737488355328 ∧ xs.length + 1 ≤ 9223372036854775807 := by omega)
    (hS : ∀ w', S w' := by exact fun _ => trivial) (hz : (!Nat.beq sz 0 && Nat.ble sz 16777216) = true := by rfl) :
    (Prog.act (Instr.buildSlice t 1 #[(0, v)]) sL (u1 fun y => .act (app t t ty x.v y.v) sL (u1 k))).wp P S w Q := by
  have h1 : v.cells = (enc y).toArray := by rw [hv.ok, hy]
  have hlen := hE.len y
  rw [Bool.and_eq_true, Bool.not_eq_true'] at hz
  exact wp_apE (r := r) (sz := sz) (enc := enc) (y := y) hE.len hE.pos hs (bs1 h1 hz.1 hz.2 (by simp [hlen])) (by simp) (hE.one y) hb.1 hb.2 (fun z w' hs' => ⟨hS _, h z w' hs'⟩) fun w' _ => hS w'

end
end Go.Dec
