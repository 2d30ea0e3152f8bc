/- Looks into maps of structs; elements of slices of structs, told by place; calls of function values with free variables. -/
import Derived.Test.YtcpmaccapgpgaaaGreatOpsZ
namespace Go.Dec
set_option linter.unusedVariables false
set_option linter.unusedSimpArgs false

/-! ### Looks -/
theorem nodup_val {K V : Type} {kk : K} {v v' : V} : ∀ {es : List (K × V)}, (es.map Prod.fst).Nodup → (kk, v) ∈ es → (kk, v') ∈ es → v' = v
  | a :: r, hnd, hv, hv' => by
    rw [List.map_cons, List.nodup_cons] at hnd
    rcases List.mem_cons.1 hv with h1 | h1 <;> rcases List.mem_cons.1 hv' with h2 | h2
    · rw [← h1] at h2; exact (Prod.mk.inj h2).2
    · exact absurd (List.mem_map.2 ⟨_, h2, by rw [← h1]⟩) hnd.1
    · exact absurd (List.mem_map.2 ⟨_, h1, by rw [← h2]⟩) hnd.1
    · exact nodup_val hnd.2 h1 h2
section
variable {K V : Type} {ek : K → Value} {ev : V → Value} {m : Nat} {es : List (K × V)} {P : Program} {w : World} {l r : List HP} {Q : Post} {S : World → Prop} {T kt : TypeId} {z : Value} {g : Prop} {kk : K} {kv : Value}

theorem look_in [hf : FoM l m ek ev es r] [hT : MapT P T kt z] [hk : KeyT P kt ek] [hkv : IsK ek kv kk] (hs : Sat w l) {v : V} (hv : (kk, v) ∈ es) {ss : List Sh1} {x : HL (prims ss)} (hx : valsOf ss x = [ev v, .bool true]) :
    (Instr.lookup T (.map (some m)) kv true).run P w = .ok ((Sh.tup ss).mk x) w := by
  have hs := hs.perm hf.perm
  have hnd := hs.mapNodup
  rcases run_look (P := P) (T := T) true hs kk with ⟨v', hv', hr⟩ | ⟨hno, -⟩
  · have : v' = v := nodup_val hnd hv hv'
    rw [hkv.ok, hr, this]
    show Result.ok (Value.tuple #[ev v, .bool true]) w = Result.ok (Value.tuple (valsOf ss x).toArray) w
    rw [hx]
  · exact absurd hv (hno _)
theorem look_out [hf : FoM l m ek ev es r] [hT : MapT P T kt z] [hk : KeyT P kt ek] [hkv : IsK ek kv kk] (hs : Sat w l) (hv : ∀ v, (kk, v) ∉ es) {ss : List Sh1} {x : HL (prims ss)} (hx : valsOf ss x = [z, .bool false]) :
    (Instr.lookup T (.map (some m)) kv true).run P w = .ok ((Sh.tup ss).mk x) w := by
  have hs := hs.perm hf.perm
  rcases run_look (P := P) (T := T) true hs kk with ⟨v', hv', hr⟩ | ⟨-, hr⟩
  · exact absurd hv' (hv _)
  · rw [hkv.ok, hr]
    show Result.ok (Value.tuple #[z, .bool false]) w = Result.ok (Value.tuple (valsOf ss x).toArray) w
    rw [hx]

/-- What is there at a key: its value, or zero. -/
theorem wp_lookH {ss : List Sh1} {k : HL (prims ss) → Prog} [hf : FoM l m ek ev es r] [hT : MapT P T kt z] [hk : KeyT P kt ek] [hkv : IsK ek kv kk] (hs : Sat w l) (o : Option V) (ho : (∃ v, o = some v ∧ (kk, v) ∈ es) ∨ (o = none ∧ ∀ v, (kk, v) ∉ es)) (d : Option V → HL (prims ss))
    (h : (k (d o)).wp P (fun w' => S w' ∧ (g → (Instr.lookup T (.map (some m)) kv true).run P w' = .ok ((Sh.tup ss).mk (d o)) w')) w Q) (h1 : ∀ v, valsOf ss (d (some v)) = [ev v, .bool true] := by intros; rfl) (h0 : valsOf ss (d none) = [z, .bool false] := by rfl) :
    (Prog.hold g (Instr.lookup T (.map (some m)) kv true) (.tup ss) k).wp P S w Q := by
  refine ⟨d o, fun _ => ?_, h⟩
  rcases ho with ⟨v, rfl, hv⟩ | ⟨rfl, hv⟩
  · exact look_in hs hv (h1 v)
  · exact look_out hs hv h0
theorem look_keep {ss : List Sh1} [hf : FoM l m ek ev es r] [hT : MapT P T kt z] [hk : KeyT P kt ek] [hkv : IsK ek kv kk] (hs : Sat w l) {o : Option V} (ho : (∃ v, o = some v ∧ (kk, v) ∈ es) ∨ (o = none ∧ ∀ v, (kk, v) ∉ es)) (d : Option V → HL (prims ss))
    (h1 : ∀ v, valsOf ss (d (some v)) = [ev v, .bool true] := by intros; rfl) (h0 : valsOf ss (d none) = [z, .bool false] := by rfl) :
    (Instr.lookup T (.map (some m)) kv true).run P w = .ok ((Sh.tup ss).mk (d o)) w := by
  rcases ho with ⟨v, rfl, hv⟩ | ⟨rfl, hv⟩
  · exact look_in hs hv (h1 v)
  · exact look_out hs hv h0

/-- A look for a struct that tells if it is there. -/
theorem wp_lookR {ss : List Sh1} {k : HL (prims ss) → Prog} [hf : FoM l m ek ev es r] [hT : MapT P T kt z] [hk : KeyT P kt ek] [hkv : IsK ek kv kk] (hs : Sat w l) (o : Option V) (ho : (∃ v, o = some v ∧ (kk, v) ∈ es) ∨ (o = none ∧ ∀ v, (kk, v) ∉ es)) (d : Option V → HL (prims ss))
    (h : (k (d o)).wp P S w Q) (h1 : ∀ v, valsOf ss (d (some v)) = [ev v, .bool true] := by intros; rfl) (h0 : valsOf ss (d none) = [z, .bool false] := by rfl) :
    (Prog.read g (Instr.lookup T (.map (some m)) kv true) (.tup ss) k).wp P S w Q :=
  ⟨d o, fun _ => look_keep hs ho d h1 h0, h⟩
theorem wp_lookG {ps : List Pr} {k : HL ps → Prog} [hf : FoM l m ek ev es r] [hT : MapT P T kt z] [hk : KeyT P kt ek] [hkv : IsK ek kv kk] (hs : Sat w l) (o : Option V)
    (ho : (∃ v, o = some v ∧ (kk, v) ∈ es) ∨ (o = none ∧ ∀ v, (kk, v) ∉ es)) (d : Option V → HL ps) (h : (k (d o)).wp P S w Q) (h1 : ∀ v, ev v = .agg (HL.vals ps (d (some v))).toArray := by intros; rfl) (h0 : z = .agg (HL.vals ps (d none)).toArray := by rfl) :
    (Prog.read g (Instr.lookup T (.map (some m)) kv false) (.one (.agg ps)) k).wp P S w Q := by
  refine ⟨d o, fun _ => ?_, h⟩
  rw [hkv.ok]
  have hs := hs.perm hf.perm
  have hnd := hs.mapNodup
  rcases run_look (P := P) (T := T) false hs kk with ⟨v', hv', hr⟩ | ⟨hno, hr⟩
  · rcases ho with ⟨v, rfl, hv⟩ | ⟨rfl, hv⟩
    · have : v' = v := nodup_val hnd hv hv'
      subst this
      rw [h1] at hr
      exact hr
    · exact absurd hv' (hv _)
  · rcases ho with ⟨v, rfl, hv⟩ | ⟨rfl, hv⟩
    · exact absurd hv (hno _)
    · rw [h0] at hr
      exact hr

end

section
variable {P : Program} {w : World} {l r : List HP} {Q : Post} {S : World → Prop} {t : TypeId} {sz : Nat}
/-- An element of a slice at a place that is told: a field; all of it. -/
theorem wp_ixFc {α : Type} {enc : α → List Value} {xs : List α} {x : Sl} {T : TypeId} {m j : Nat} {ii : Int} {gg g' : Prop} {p : Pr} {dec : α → p.D} {f : p.D → Prog} (hs : Sat w l) [hf : FocR l x sz (xs.flatMap enc)] [hE : EncN enc sz] [hD : EncF enc j p dec] [hT : One P T]
    (n : Nat) (hn : n < xs.length) (h : (f (dec xs[n])).wp P S w Q) (hm : m = n * sz := by rfl) (hi : ii = n := by rfl) :
    (Prog.ex [.adr] (c1 fun a => gg → (0 : Int) ≤ ii ∧ ii < ((x.len : Nat) : Int) ∧ x.a = some a) (u1 fun a => .read g' (ld T (Addr.add (Addr.add a m) j)) (.one (.one p)) (u1 f))).wp P S w Q := by
  obtain ⟨a, ha, hl, hr⟩ := run_ixF (P := P) (T := T) (x := x) (sz := sz) (xs := xs) (enc := enc) (j := j) (p := p) (dec := dec) hs (n := n) hn
  subst hm hi
  exact ⟨(a, ()), fun _ => ⟨by omega, by omega, ha⟩, (dec xs[n], ()), fun _ => hr, h⟩
theorem wp_ixAc {α : Type} {enc : α → List Value} {xs : List α} {x : Sl} {T : TypeId} {m q : Nat} {ii : Int} {gg g' : Prop} {ps : List Pr} {dec : α → HL ps} {k : HL ps → Prog} (hs : Sat w l) [hf : FocR l x sz (xs.flatMap enc)] [hE : EncN enc sz] [hD : EncA enc ps dec] [hT : Agg P T q]
    (n : Nat) (hn : n < xs.length) (h : (k (dec xs[n])).wp P S w Q) (hm : m = n * sz := by rfl) (hi : ii = n := by rfl) (hq : Nat.beq sz q = true := by rfl) :
    (Prog.ex [.adr] (c1 fun a => gg → (0 : Int) ≤ ii ∧ ii < ((x.len : Nat) : Int) ∧ x.a = some a) (u1 fun a => .read g' (ld T (Addr.add a m)) (.one (.agg ps)) k)).wp P S w Q := by
  have hq := Nat.eq_of_beq_eq_true hq
  subst hm hi hq
  have hr := hf.rd w hs
  have hl : x.len = xs.length := hr.len hE.len hE.pos
  obtain ⟨a, ha, he⟩ := hr.el hE.len (by omega)
  refine ⟨(a, ()), fun _ => ⟨by omega, by omega, ha⟩, dec xs[n], fun _ => ?_, h⟩
  have := he n hn
  have h2 := At.ldA (P := P) (T := T) this (hE.len _)
  rw [hD.ok] at h2
  exact h2
theorem wp_u4 {α β γ δ : Type} {f : α → β → γ → δ → Prog} (a : α) (b : β) (c : γ) (d : δ) (h : (f a b c d).wp P S w Q) : (u4 f (a, b, c, d, ())).wp P S w Q := h
theorem FocR.nil' (sz : Nat) : FocR l ⟨none, 0, 0⟩ sz ([] : List Value) := ⟨fun _ _ => ⟨(Nat.zero_mul sz).symm, .inl rfl⟩⟩
theorem wp_lits {α : Type} {enc : α → List Value} {n : Nat} {ps : Array (Nat × Value)} {el : TypeId} {bytes : Nat} {k : Sl → Prog} (hs : Sat w l) [ht : SlT P t el sz bytes] [hE : EncN enc sz] (xs : List α)
    (h : ∀ x w', Sat w' (slc el sz x (xs.flatMap enc) :: l) → (k x).wp P S w' Q) (hc : bsCells P t n ps = some (el, (xs.flatMap enc).toArray) := by kernel_rfl) (hn : xs.length = n := by rfl) (hS : ∀ w', S w' := by exact fun _ => trivial) :
    (Prog.act (Instr.buildSlice t n ps) sL (u1 k)).wp P S w Q := wp_slit hs xs hc (fun b w' hs => h _ w' hs) (by simp) hn hS
end


section
variable {P : Program} {w : World} {l r : List HP} {Q : Post} {S : World → Prop} {α β γ δ ε ζ η θ : Type}
theorem wp_u2 {f : α → β → Prog} (a : α) (b : β) (h : (f a b).wp P S w Q) : (u2 f (a, b, ())).wp P S w Q := h
theorem wp_u3 {f : α → β → γ → Prog} (a : α) (b : β) (c : γ) (h : (f a b c).wp P S w Q) : (u3 f (a, b, c, ())).wp P S w Q := h
theorem wp_u5 {f : α → β → γ → δ → ε → Prog} (a : α) (b : β) (c : γ) (d : δ) (e : ε) (h : (f a b c d e).wp P S w Q) : (u5 f (a, b, c, d, e, ())).wp P S w Q := h
theorem wp_u6 {f : α → β → γ → δ → ε → ζ → Prog} (a : α) (b : β) (c : γ) (d : δ) (e : ε) (z : ζ) (h : (f a b c d e z).wp P S w Q) : (u6 f (a, b, c, d, e, z, ())).wp P S w Q := h
theorem wp_u7 {f : α → β → γ → δ → ε → ζ → η → Prog} (a : α) (b : β) (c : γ) (d : δ) (e : ε) (z : ζ) (y : η) (h : (f a b c d e z y).wp P S w Q) : (u7 f (a, b, c, d, e, z, y, ())).wp P S w Q := h
theorem wp_u8 {f : α → β → γ → δ → ε → ζ → η → θ → Prog} (a : α) (b : β) (c : γ) (d : δ) (e : ε) (z : ζ) (y : η) (x : θ) (h : (f a b c d e z y x).wp P S w Q) : (u8 f (a, b, c, d, e, z, y, x, ())).wp P S w Q := h

/-- A store of a whole element. -/
theorem wp_ixSG {α : Type} {enc : α → List Value} {xs : List α} {i i' : Int} {x : Sl} {T t : TypeId} {sz n' : Nat} {k : Prog} {us : List Value} (hs : Sat w l) [hf : FocS l x T sz (xs.flatMap enc) r] [hE : EncN enc sz] [hT : Agg P t n'] (n : Nat) (hn : n < xs.length) (y : α)
    (h : ∀ w', Sat w' (slc T sz x ((xs.set n y).flatMap enc) :: r) → k.wp P S w' Q) (hy : us = enc y := by rfl) (hi : i = n := by first | rfl | omega) (hi' : i' = i := by rfl) (hz : Nat.beq sz n' = true := by rfl) (hS : ∀ w', S w' := by exact fun _ => trivial) :
    (Prog.ex [.adr] (c1 fun a => 0 ≤ i ∧ i < ((x.len : Nat) : Int) ∧ x.a = some a) (u1 fun a => .actU (st t (Addr.add a (Int.toNat i' * sz)) (.agg us.toArray)) k)).wp P S w Q := by
  have hz := Nat.eq_of_beq_eq_true hz
  subst hi hi' hz
  have hr := (hs.focS x).rd
  have hl : x.len = xs.length := hr.len hE.len hE.pos
  obtain ⟨a, ha, he⟩ := hr.el hE.len (by omega)
  refine ⟨(a, ()), ⟨by omega, by omega, ha⟩, ?_⟩
  exact wp_stE (xs := xs) (i := n) (y := y) hE.len hs ha hn (fun b o e => by subst e; rw [add_mk, Int.toNat_natCast]) hT.ok.2 (by show us.toArray.toList = _; rw [hy]) (hE.one y) fun w' hs' => ⟨hS _, h w' hs'⟩

theorem wp_callvc {f : FuncId} {cap : Array Value} {args : List Value} {s : Sh} {k : HL s.prims → Prog} {vs₀ : List Value} {R : World → Prop} (hok : (P.funcs[f]?).any (fun fn => fn.body.isSome && fn.name != "runtime.NumGoroutine") = true) (x : HL s.prims)
    (hc : Ret P f (args.toArray ++ cap) w fun vs w' => vs = vs₀ ∧ R w') (hx : pack vs₀ = s.mk x) (h : ∀ w', R w' → S w' ∧ (k x).wp P S w' Q) : (Prog.callv (.func (.func f) #[] cap) args s k).wp P S w Q := by
  refine ⟨f, #[], cap, rfl, hok, ?_⟩
  have e : (#[] : Array Value) ++ args.toArray ++ cap = args.toArray ++ cap := by simp
  rw [e]
  refine Calls.mono hc fun e w' ⟨vs, he, hv, hR⟩ => ?_
  exact ⟨x, by rw [he, hv, hx], h w' hR⟩

end
section
variable {P : Program} {w : World} {l r : List HP} {Q : Post} {S : World → Prop} {b off : Nat} {T T' : TypeId} {g : Prop}
theorem run_ldP {a : Addr} {vs : List Value} {fr : Nat × Nat} {ps : List Pr} (x : HL ps) {n : Nat} (hs : Sat w l) [ha : AddrIs a b off] [hb : FocB l b (.cells vs.toArray T' fr) r] [hT : Agg P T n] (hx : (vs.drop off).take n = HL.vals ps x) (hn : (HL.vals ps x).length = n) :
    (ld T a).run P w = .ok ((Sh.one (.agg ps)).mk x) w := by
  rw [ha.ok]
  refine At.ldA (P := P) (T := T) (vs := HL.vals ps x) ⟨b, off, vs.toArray, T', fr, rfl, (hs.focB b).get, fun i hi => ?_⟩ hn
  rw [← hx, List.getElem?_take, if_pos (by omega), List.getElem?_drop]
  simp
theorem wp_ldP {a : Addr} {vs : List Value} {fr : Nat × Nat} {ps : List Pr} {k : HL ps → Prog} (hs : Sat w l) (x : HL ps) {n : Nat} [ha : AddrIs a b off] [hb : FocB l b (.cells vs.toArray T' fr) r] [hT : Agg P T n] {p : Prog} [hA : App k x p]
    (h : p.wp P S w Q) (hx : (vs.drop off).take n = HL.vals ps x := by rfl) (hn : (HL.vals ps x).length = n := by rfl) : (Prog.read g (ld T a) (.one (.agg ps)) k).wp P S w Q :=
  ⟨x, fun _ => run_ldP (T := T) x hs hx hn, by rw [hA.ok]; exact h⟩
theorem wp_hdP {a : Addr} {vs : List Value} {fr : Nat × Nat} {ps : List Pr} {k : HL ps → Prog} (hs : Sat w l) (x : HL ps) {n : Nat} [ha : AddrIs a b off] [hb : FocB l b (.cells vs.toArray T' fr) r] [hT : Agg P T n] {p : Prog} [hA : App k x p]
    (h : p.wp P (fun w' => S w' ∧ (g → (ld T a).run P w' = .ok ((Sh.one (.agg ps)).mk x) w')) w Q) (hx : (vs.drop off).take n = HL.vals ps x := by rfl) (hn : (HL.vals ps x).length = n := by rfl) : (Prog.hold g (ld T a) (.one (.agg ps)) k).wp P S w Q :=
  ⟨x, fun _ => run_ldP x hs hx hn, by rw [hA.ok]; exact h⟩
end
section
variable {P : Program} {w : World} {l r : List HP} {Q : Post} {S : World → Prop} {T : TypeId} {sz : Nat} {x : Sl}
theorem At.part {A : Addr} {vs : List Value} (h : At w A vs) (j q : Nat) : At w (A.add j) ((vs.drop j).take q) := by
  obtain ⟨b, o, arr, T', fr, rfl, hb, hc⟩ := h
  refine ⟨b, o + j, arr, T', fr, add_mk .., hb, fun i hi => ?_⟩
  rw [List.length_take, List.length_drop] at hi
  rw [List.getElem?_take, if_pos (by omega), List.getElem?_drop, Nat.add_assoc, hc (j + i) (by omega)]
/-- Cells of an element, read qs a struct. -/
theorem wp_ixP {α : Type} {enc : α → List Value} {xs : List α} {j q : Nat} {i i' : Int} {g g' : Prop} {ps : List Pr} {k : HL ps → Prog} (hs : Sat w l) [hf : FocR l x sz (xs.flatMap enc)] [hE : EncN enc sz] [hT : Agg P T q] (n : Nat) (hn : n < xs.length) (y : HL ps)
    (h : (k y).wp P S w Q) (hy : ((enc xs[n]).drop j).take q = HL.vals ps y := by rfl) (hq : (HL.vals ps y).length = q := by rfl) (hi : i = n := by first | rfl | omega) (hi' : i' = i := by rfl) :
    (Prog.ex [.adr] (c1 fun a => g → 0 ≤ i ∧ i < ((x.len : Nat) : Int) ∧ x.a = some a) (u1 fun a => .read g' (ld T (Addr.add (Addr.add a (Int.toNat i' * sz)) j)) (.one (.agg ps)) k)).wp P S w Q := by
  subst hi hi'
  have hr := hf.rd w hs
  have hl : x.len = xs.length := hr.len hE.len hE.pos
  obtain ⟨a, ha, he⟩ := hr.el hE.len (by omega)
  refine ⟨(a, ()), fun _ => ⟨by omega, by omega, ha⟩, y, fun _ => ?_, h⟩
  have h1 := At.part (he n hn) j q
  rw [hy] at h1
  exact At.ldA (P := P) (T := T) h1 hq
theorem run_ixP {α : Type} {enc : α → List Value} {xs : List α} {j q n : Nat} {ps : List Pr} {a : Addr} (hs : Sat w l) [hf : FocR l x sz (xs.flatMap enc)] [hE : EncN enc sz] [hT : Agg P T q] (hn : n < xs.length) (y : HL ps) (ha : x.a = some a)
    (hy : ((enc xs[n]).drop j).take q = HL.vals ps y := by rfl) (hq : (HL.vals ps y).length = q := by rfl) : (ld T (Addr.add (Addr.add a (Int.toNat (n : Int) * sz)) j)).run P w = .ok ((Sh.one (.agg ps)).mk y) w := by
  have hr := hf.rd w hs
  have hl : x.len = xs.length := hr.len hE.len hE.pos
  obtain ⟨a', ha', he⟩ := hr.el hE.len (by omega)
  obtain rfl : a' = a := Option.some.inj (ha'.symm.trans ha)
  have h1 := At.part (he n hn) j q
  rw [hy] at h1
  exact At.ldA (P := P) (T := T) h1 hq
/-- Cells of an element, read as a struct and held. -/
theorem wp_ixPh {α : Type} {enc : α → List Value} {xs : List α} {j q : Nat} {i i' : Int} {g : Prop} {ps : List Pr} {k : HL ps → Prog} (hs : Sat w l) [hf : FocR l x sz (xs.flatMap enc)] [hE : EncN enc sz] [hT : Agg P T q] (n : Nat) (hn : n < xs.length) (y : HL ps)
    (h : ∀ a, x.a = some a → (k y).wp P (fun w' => S w' ∧ (g → (ld T (Addr.add (Addr.add a (Int.toNat (n : Int) * sz)) j)).run P w' = .ok ((Sh.one (.agg ps)).mk y) w')) w Q) (hy : ((enc xs[n]).drop j).take q = HL.vals ps y := by rfl) (hq : (HL.vals ps y).length = q := by rfl) (hi : i = n := by first | rfl | omega) (hi' : i' = i := by rfl) :
    (Prog.ex [.adr] (c1 fun a => 0 ≤ i ∧ i < ((x.len : Nat) : Int) ∧ x.a = some a) (u1 fun a => .hold g (ld T (Addr.add (Addr.add a (Int.toNat i' * sz)) j)) (.one (.agg ps)) k)).wp P S w Q := by
  subst hi hi'
  have hr := hf.rd w hs
  have hl : x.len = xs.length := hr.len hE.len hE.pos
  obtain ⟨a, ha, he⟩ := hr.el hE.len (by omega)
  exact ⟨(a, ()), ⟨by omega, by omega, ha⟩, y, fun _ => run_ixP hs hn y ha hy hq, h a ha⟩
end
end Go.Dec
