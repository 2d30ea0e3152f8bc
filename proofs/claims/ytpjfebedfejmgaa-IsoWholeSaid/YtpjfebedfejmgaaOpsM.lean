/- Ops, part M: maps, as lists of keys and values in no order. -/
import Derived.Test.YtpjfebedfejmgaaOpsX
namespace Go.Dec
set_option linter.unusedVariables false
set_option linter.unusedSimpArgs false

/-- Keys of a type: told apart by what they stand for. -/
class KeyT (P : Program) (kt : TypeId) {K : Type} (ek : K → Value) : Prop where
  inj : ∀ a b, ek a = ek b → a = b
  same : ∀ a, Instr.sameBits 10000 (ek a) (ek a) = true
  check : ∀ (b : Bool) (k : K) (w : World), (Instr.checkKey b 10000 kt (ek k)).run P w = .ok () w
  find : ∀ (es : List MapEntry) (k : K) (w : World), (∀ e ∈ es, ∃ k', e.key = ek k') →
    (∃ (j : Nat) (e : MapEntry), es[j]? = some e ∧ e.key = ek k ∧ (Instr.findKey kt (ek k) es).run P w = .ok (some (j, e.val)) w) ∨
    ((∀ e ∈ es, e.key ≠ ek k) ∧ (Instr.findKey kt (ek k) es).run P w = .ok none w)

theorem findNow_some {K : Type} {ek : K → Value} {kd : TypeDesc} [DecidableEq K] (hn : ∀ a b, Instr.sameNow kd (ek a) (ek b) = some (decide (a = b))) (hinj : ∀ a b, ek a = ek b → a = b) (k : K) :
    ∀ (es : List MapEntry) (i : Nat), (∀ e ∈ es, ∃ k', e.key = ek k') →
    (∃ (j : Nat) (e : MapEntry), es[j]? = some e ∧ e.key = ek k ∧ Instr.findNow kd (ek k) es i = some (some (i + j, e.val))) ∨ ((∀ e ∈ es, e.key ≠ ek k) ∧ Instr.findNow kd (ek k) es i = some none)
  | [], i, _ => .inr ⟨by simp, rfl⟩
  | e :: es, i, h => by
    obtain ⟨k', hk'⟩ := h e (List.mem_cons_self ..)
    by_cases hk : k = k'
    · subst hk
      refine .inl ⟨0, e, rfl, hk', ?_⟩
      rw [Instr.findNow, hk', hn, decide_eq_true rfl]; rfl
    · have hstep : Instr.findNow kd (ek k) (e :: es) i = Instr.findNow kd (ek k) es (i + 1) := by rw [Instr.findNow, hk', hn, decide_eq_false hk]
      rcases findNow_some hn hinj k es (i + 1) (fun e he => h e (List.mem_cons_of_mem _ he)) with ⟨j, e', h1, h2, h3⟩ | ⟨h1, h2⟩
      · exact .inl ⟨j + 1, e', h1, h2, by rw [hstep, h3, Nat.add_assoc, Nat.add_comm 1 j]⟩
      · refine .inr ⟨fun e' he' => ?_, by rw [hstep, h2]⟩
        rcases List.mem_cons.1 he' with rfl | he'
        · rw [hk']; exact fun e => hk (hinj _ _ e).symm
        · exact h1 e' he'

theorem findKey_now {P : Program} {kt : TypeId} {kd : TypeDesc} (hu : P.underlying kt = some kd) {k : Value} {es : List MapEntry} {r : Option (Nat × Value)} (h : Instr.findNow kd k es 0 = some r) (w : World) : (Instr.findKey kt k es).run P w = .ok r w := by
  simp only [Instr.findKey, Sem.run_bind, run_underlying' hu, Result.andThen_ok, h, Sem.run_pure]

theorem KeyT.ofNow {P : Program} {kt : TypeId} {kd : TypeDesc} {K : Type} {ek : K → Value} [DecidableEq K] (hu : P.underlying kt = some kd) (hn : ∀ a b, Instr.sameNow kd (ek a) (ek b) = some (decide (a = b))) (hinj : ∀ a b, ek a = ek b → a = b)
    (hs : ∀ a, Instr.sameBits 10000 (ek a) (ek a) = true) (hc : ∀ (b : Bool) (k : K) (w : World), (Instr.checkKey b 10000 kt (ek k)).run P w = .ok () w) : KeyT P kt ek where
  inj := hinj
  same := hs
  check := hc
  find es k w h := by
    rcases findNow_some hn hinj k es 0 h with ⟨j, e, h1, h2, h3⟩ | ⟨h1, h2⟩
    · exact .inl ⟨j, e, h1, h2, by rw [findKey_now hu h3, Nat.zero_add]⟩
    · exact .inr ⟨h1, findKey_now hu h2 w⟩

abbrev ekS (s : ByteArray) : Value := .string s
abbrev ekI (n : Int) : Value := .int .i64 n

theorem beq_bytes (a b : ByteArray) : (a == b) = decide (a = b) := by
  by_cases h : a = b
  · subst h; rw [decide_eq_true rfl]; exact beq_self_eq_true a.data
  · rw [decide_eq_false h]
    cases hb : (a == b) with
    | false => rfl
    | true =>
      have hb : (a.data == b.data) = true := hb
      exact absurd (by cases a; cases b; exact congrArg ByteArray.mk (eq_of_beq hb)) h

theorem keyT_str {P : Program} {kt : TypeId} (hu : P.underlying kt = some .string) : KeyT P kt ekS :=
  KeyT.ofNow hu (fun a b => by simp only [Instr.sameNow, beq_bytes]) (fun a b h => by cases h; rfl) (fun a => by show (a == a) = true; rw [beq_bytes, decide_eq_true rfl])
    fun b k w => by
      show (Instr.checkKey b (9999 + 1) kt _).run P w = _
      rw [Instr.checkKey]; simp only [Sem.run_bind, run_underlying' hu, Result.andThen_ok]; rfl
theorem keyT_int {P : Program} {kt : TypeId} (hu : P.underlying kt = some (.int .i64)) : KeyT P kt ekI :=
  KeyT.ofNow hu (fun a b => by simp only [Instr.sameNow, if_pos]; congr 1) (fun a b h => by cases h; rfl) (fun a => by show ((IntKind.i64 == IntKind.i64) && (a == a)) = true; simp)
    fun b k w => by
      show (Instr.checkKey b (9999 + 1) kt _).run P w = _
      rw [Instr.checkKey]; simp only [Sem.run_bind, run_underlying' hu, Result.andThen_ok]; rfl

/-- A map type: its keys' type, its values' zero. -/
class MapT (P : Program) (T : TypeId) (kt : outParam TypeId) (z : outParam Value) : Prop where
  ok : ∃ et, P.underlying T = some (.map kt et) ∧ zeroOf P et = some z

section
variable {K V : Type}

/-- The entries of a map's block. -/
def MOk (ek : K → Value) (ev : V → Value) (E : Array MapEntry) (c : Nat) (es : List (K × V)) : Prop :=
  ∃ xs : List (K × V), xs.Perm es ∧ (xs.map Prod.fst).Nodup ∧ E.toList.map (fun e => (e.key, e.val)) = xs.map (fun x => (ek x.1, ev x.2)) ∧
    E.toList.Pairwise (fun a b => a.born < b.born) ∧ ∀ e ∈ E.toList, e.born < c

/-- A map: keys and values, in no order, each key once. -/
def mapP (ek : K → Value) (ev : V → Value) (m : Nat) (es : List (K × V)) : HP := HP.ex fun M : Array MapEntry × Nat => HP.and (MOk ek ev M.1 M.2 es) (pt m (.map M.1 M.2))

variable {ek : K → Value} {ev : V → Value} {m : Nat} {es es' : List (K × V)} {P : Program} {w : World} {l r : List HP} {Q : Post} {S : World → Prop} {T kt : TypeId} {z : Value} {g : Prop}

theorem Sat.mapOpen (h : Sat w (mapP ek ev m es :: l)) : ∃ E c, MOk ek ev E c es ∧ Sat w (pt m (.map E c) :: l) := by
  obtain ⟨⟨E, c⟩, h⟩ := h.ex
  exact ⟨E, c, h.and⟩
theorem Sat.mapShut {E : Array MapEntry} {c : Nat} (hm : MOk ek ev E c es) (h : Sat w (pt m (.map E c) :: l)) : Sat w (mapP ek ev m es :: l) := .ex_mk (E, c) (.and_mk hm h)
theorem MOk.perm {E : Array MapEntry} {c : Nat} (h : MOk ek ev E c es) (hp : es.Perm es') : MOk ek ev E c es' := by
  obtain ⟨xs, h1, h2⟩ := h
  exact ⟨xs, h1.trans hp, h2⟩
theorem Sat.mapPerm (h : Sat w (mapP ek ev m es :: l)) (hp : es.Perm es') : Sat w (mapP ek ev m es' :: l) := by
  obtain ⟨E, c, hm, h⟩ := h.mapOpen
  exact h.mapShut (hm.perm hp)
theorem MOk.nodup {E : Array MapEntry} {c : Nat} (h : MOk ek ev E c es) : (es.map Prod.fst).Nodup := by
  obtain ⟨xs, h1, h2, -⟩ := h
  exact (h1.map _).nodup_iff.1 h2
theorem Sat.mapNodup (h : Sat w (mapP ek ev m es :: l)) : (es.map Prod.fst).Nodup := by
  obtain ⟨E, c, hm, -⟩ := h.mapOpen
  exact hm.nodup
theorem MOk.size {E : Array MapEntry} {c : Nat} (h : MOk ek ev E c es) : E.size = es.length := by
  obtain ⟨xs, h1, h2, h3, -⟩ := h
  rw [← h1.length_eq, ← Array.length_toList]
  simpa using congrArg List.length h3

/-- A map stands in l. -/
class FoM (l : List HP) (m : Nat) {K V : outParam Type} (ek : outParam (K → Value)) (ev : outParam (V → Value)) (es : outParam (List (K × V))) (r : outParam (List HP)) : Prop where
  perm : l.Perm (mapP ek ev m es :: r)
instance FoM.head {K V : Type} {l : List HP} {m : Nat} {ek : K → Value} {ev : V → Value} {es : List (K × V)} : FoM (mapP ek ev m es :: l) m ek ev es l := ⟨.refl _⟩
instance (priority := low) FoM.tail {K V : Type} {x : HP} {l r : List HP} {m : Nat} {ek : K → Value} {ev : V → Value} {es : List (K × V)} [h : FoM l m ek ev es r] : FoM (x :: l) m ek ev es (x :: r) :=
  ⟨(List.Perm.cons x h.perm).trans (.swap _ _ _)⟩
/-- A key's value. -/
class IsK {K : Type} (ek : K → Value) (kv : Value) (k : outParam K) : Prop where
  ok : kv = ek k
instance IsK.str {s : ByteArray} : IsK ekS (.string s) s := ⟨rfl⟩
instance IsK.int {n : Int} : IsK ekI (.int .i64 n) n := ⟨rfl⟩

theorem run_getMap {E : Array MapEntry} {c : Nat} (hb : w.heap[m]? = some (.map E c)) : (getObj m).run P w = .ok (.map E c) w := by
  simp [getObj, Sem.run, hb]
theorem run_setMap {E : Array MapEntry} {c : Nat} (hb : w.heap[m]? = some (.map E c)) (E' : Array MapEntry) (c' : Nat) : (setObj m (.map E' c')).run P w = .ok () (setB w m (.map E' c')) := by
  have hlt : m < w.heap.size := (Array.getElem?_eq_some_iff.1 hb).1
  simp [setObj, Sem.run, hb, setB]

/-- Where a key stands in a map's block. -/
theorem MOk.find [hk : KeyT P kt ek] {E : Array MapEntry} {c : Nat} (h : MOk ek ev E c es) (k : K) (w : World) :
    (∃ (j : Nat) (e : MapEntry) (v : V), E.toList[j]? = some e ∧ e.key = ek k ∧ e.val = ev v ∧ (k, v) ∈ es ∧ (Instr.findKey kt (ek k) E.toList).run P w = .ok (some (j, ev v)) w) ∨
    ((∀ v, (k, v) ∉ es) ∧ (∀ e ∈ E.toList, e.key ≠ ek k) ∧ (Instr.findKey kt (ek k) E.toList).run P w = .ok none w) := by
  obtain ⟨xs, h1, h2, h3, -⟩ := h
  have hkeys : ∀ e ∈ E.toList, ∃ k', e.key = ek k' := fun e he => by
    have : (e.key, e.val) ∈ E.toList.map (fun e => (e.key, e.val)) := List.mem_map.2 ⟨e, he, rfl⟩
    rw [h3] at this
    obtain ⟨x, -, hx⟩ := List.mem_map.1 this
    exact ⟨x.1, (Prod.mk.inj hx).1.symm⟩
  rcases hk.find E.toList k w hkeys with ⟨j, e, hj, he, hr⟩ | ⟨hn, hr⟩
  · left
    have hx : (xs.map (fun x => (ek x.1, ev x.2)))[j]? = some (e.key, e.val) := by rw [← h3, List.getElem?_map, hj]; rfl
    rw [List.getElem?_map] at hx
    cases hxj : xs[j]? with
    | none => rw [hxj] at hx; cases hx
    | some x =>
      rw [hxj] at hx
      obtain ⟨k', v⟩ := x
      simp only [Option.map_some, Option.some.injEq, Prod.mk.injEq] at hx
      rw [he] at hx
      obtain rfl := hk.inj _ _ hx.1
      exact ⟨j, e, v, hj, he, hx.2.symm, h1.mem_iff.1 (List.mem_of_getElem? hxj), by rw [hr, hx.2]⟩
  · right
    refine ⟨fun v hv => ?_, hn, hr⟩
    have : (ek k, ev v) ∈ xs.map (fun x => (ek x.1, ev x.2)) := List.mem_map.2 ⟨(k, v), h1.mem_iff.2 hv, rfl⟩
    rw [← h3] at this
    obtain ⟨e, he, hx⟩ := List.mem_map.1 this
    exact hn e he (Prod.mk.inj hx).1

theorem run_look (ok : Bool) [hT : MapT P T kt z] [hk : KeyT P kt ek] (hs : Sat w (mapP ek ev m es :: l)) (k : K) :
    (∃ v, (k, v) ∈ es ∧ (Instr.lookup T (.map (some m)) (ek k) ok).run P w = .ok (if ok then .tuple #[ev v, .bool true] else ev v) w) ∨
    ((∀ v, (k, v) ∉ es) ∧ (Instr.lookup T (.map (some m)) (ek k) ok).run P w = .ok (if ok then .tuple #[z, .bool false] else z) w) := by
  obtain ⟨et, hu, hz⟩ := hT.ok
  obtain ⟨E, c, hm, hs⟩ := hs.mapOpen
  have hb := hs.get
  have hzv : (zeroValue et).run P w = .ok z w := by
    unfold zeroOf at hz
    cases hi : P.info? et with
    | none => rw [hi] at hz; cases hz
    | some i => rw [hi] at hz; simp only at hz; simp [zeroValue, typeInfo, hi, hz]
  rcases hm.find (P := P) (kt := kt) k w with ⟨j, e, v, -, -, -, hv, hr⟩ | ⟨hv, -, hr⟩
  · refine .inl ⟨v, hv, ?_⟩
    simp only [Instr.lookup, Sem.run_bind, run_underlying' hu, Result.andThen_ok, run_getMap hb, Sem.run_pure, hk.check, hr]
  · refine .inr ⟨hv, ?_⟩
    simp only [Instr.lookup, Sem.run_bind, run_underlying' hu, Result.andThen_ok, run_getMap hb, Sem.run_pure, hk.check, hr, hzv]

/-- A look into a map, its values one cell. -/
theorem wp_look {p : Pr} {f : p.D → Prog} {k : K} {kv : Value} {x0 : p.D} {dv : V → p.D} (hs : Sat w l) [hf : FoM l m ek ev es r] [hT : MapT P T kt z] [hk : KeyT P kt ek] [hkv : IsK ek kv k] [hp0 : IsP p z x0] [hd : ∀ v, IsP p (ev v) (dv v)]
    (h1 : ∀ v, (k, v) ∈ es → (f (dv v)).wp P S w Q) (h0 : (∀ v, (k, v) ∉ es) → (f x0).wp P S w Q) :
    (Prog.read g (Instr.lookup T (.map (some m)) kv false) (.one (.one p)) (u1 f)).wp P S w Q := by
  rw [hkv.ok]
  rcases run_look (P := P) (T := T) false (hs.perm hf.perm) k with ⟨v, hv, hr⟩ | ⟨hv, hr⟩
  · refine ⟨(dv v, ()), fun _ => ?_, h1 v hv⟩
    rw [(hd v).ok] at hr
    cases p <;> exact hr
  · refine ⟨(x0, ()), fun _ => ?_, h0 hv⟩
    rw [hp0.ok] at hr
    cases p <;> exact hr

/-- A look into a map, and whether the key is there. -/
theorem wp_lookOk {p : Pr} {f : p.D → Bool → Prog} {k : K} {kv : Value} {x0 : p.D} {dv : V → p.D} (hs : Sat w l) [hf : FoM l m ek ev es r] [hT : MapT P T kt z] [hk : KeyT P kt ek] [hkv : IsK ek kv k] [hp0 : IsP p z x0] [hd : ∀ v, IsP p (ev v) (dv v)]
    (h1 : ∀ v, (k, v) ∈ es → (f (dv v) true).wp P S w Q) (h0 : (∀ v, (k, v) ∉ es) → (f x0 false).wp P S w Q) :
    (Prog.read g (Instr.lookup T (.map (some m)) kv true) (.tup [.one p, .one .bool]) (u2 f)).wp P S w Q := by
  rw [hkv.ok]
  rcases run_look (P := P) (T := T) true (hs.perm hf.perm) k with ⟨v, hv, hr⟩ | ⟨hv, hr⟩
  · refine ⟨(dv v, true, ()), fun _ => ?_, h1 v hv⟩
    rw [(hd v).ok] at hr
    cases p <;> exact hr
  · refine ⟨(x0, false, ()), fun _ => ?_, h0 hv⟩
    rw [hp0.ok] at hr
    cases p <;> exact hr

theorem wp_mlen {f : Int → Prog} {ty : TypeId} (hs : Sat w l) [hf : FoM l m ek ev es r] [hT : MapT P T kt z] (h : (f (es.length : Nat)).wp P S w Q) :
    (Prog.read g (Builtin.len_ #[T] ty #[.map (some m)]) (sI .i64) (u1 f)).wp P S w Q := by
  obtain ⟨et, hu, hz⟩ := hT.ok
  obtain ⟨E, c, hm, hs⟩ := (hs.perm hf.perm).mapOpen
  refine ⟨(_, ()), fun _ => ?_, h⟩
  simp only [Builtin.len_, List.getElem?_toArray, List.getElem?_cons_zero, Sem.run_bind, run_underlying' hu, Result.andThen_ok, run_getMap hs.get, Sem.run_pure]
  rw [hm.size]; rfl

theorem wp_mmake {f : Option Nat → Prog} (ek : K → Value) (ev : V → Value) (hs : Sat w l) (h : ∀ m w', Sat w' (mapP ek ev m [] :: l) → (f (some m)).wp P S w' Q) (hS : ∀ w', S w' := by exact fun _ => trivial) :
    (Prog.act (Instr.makeMap T none) sM (u1 f)).wp P S w Q := by
  have hp := hs.push (o := .map #[] 0) (w' := { w with heap := w.heap.push (.map #[] 0) }) rfl
  refine ⟨(some w.heap.size, ()), { w with heap := w.heap.push (.map #[] 0) }, ?_, hS _, h _ _ (hp.mapShut ⟨[], .refl _, by simp, rfl, by simp, by simp⟩)⟩
  simp [Instr.makeMap, Sem.run, newObj]

/-! ### Entries, changed -/
theorem perm_eraseIdx {α : Type} {xs : List α} {j : Nat} (h : j < xs.length) : xs.Perm (xs[j] :: xs.eraseIdx j) := by
  rw [List.eraseIdx_eq_take_drop_succ]
  have e : xs = xs.take j ++ xs[j] :: xs.drop (j + 1) := by rw [← List.drop_eq_getElem_cons h, List.take_append_drop]
  exact (List.Perm.of_eq e).trans List.perm_middle
theorem map_eraseIdx' {α β : Type} (f : α → β) (xs : List α) (j : Nat) : (xs.map f).eraseIdx j = (xs.eraseIdx j).map f := by
  rw [List.eraseIdx_eq_take_drop_succ, List.eraseIdx_eq_take_drop_succ, List.map_append, List.map_take, List.map_drop]

theorem map_split {xs : List (K × V)} {k : K} {v : V} (hn : (xs.map Prod.fst).Nodup) {j : Nat} (hj : xs[j]? = some (k, v)) : xs.Perm ((k, v) :: xs.eraseIdx j) ∧ ∀ v', (k, v') ∉ xs.eraseIdx j := by
  have hlt : j < xs.length := (List.getElem?_eq_some_iff.1 hj).1
  have hg : xs[j] = (k, v) := by rw [List.getElem?_eq_getElem hlt] at hj; exact Option.some.inj hj
  have hp : xs.Perm ((k, v) :: xs.eraseIdx j) := by
    rw [← hg]; exact perm_eraseIdx hlt
  refine ⟨hp, fun v' hv' => ?_⟩
  have := (hp.map Prod.fst).nodup_iff.1 hn
  rw [List.map_cons, List.nodup_cons] at this
  exact this.1 (List.mem_map.2 ⟨(k, v'), hv', rfl⟩)

theorem MOk.modify [hk : KeyT P kt ek] {E : Array MapEntry} {c j : Nat} {e : MapEntry} {k : K} {v v' : V} {es0 : List (K × V)} (h : MOk ek ev E c es) (hp : es.Perm ((k, v) :: es0)) (hj : E.toList[j]? = some e) (he : e.key = ek k) (hv' : Value) (hvv : hv' = ev v') :
    MOk ek ev (E.modify j fun e => { e with key := ek k, val := hv' }) c ((k, v') :: es0) := by
  subst hvv
  obtain ⟨xs, h1, h2, h3, h4, h5⟩ := h
  have hx : (xs.map (fun x => (ek x.1, ev x.2)))[j]? = some (e.key, e.val) := by rw [← h3, List.getElem?_map, hj]; rfl
  rw [List.getElem?_map] at hx
  cases hxj : xs[j]? with
  | none => rw [hxj] at hx; cases hx
  | some x =>
    rw [hxj] at hx
    obtain ⟨k1, v1⟩ := x
    simp only [Option.map_some, Option.some.injEq, Prod.mk.injEq] at hx
    rw [he] at hx
    obtain rfl := hk.inj _ _ hx.1
    obtain ⟨hs1, hs2⟩ := map_split h2 hxj
    have hlt : j < xs.length := (List.getElem?_eq_some_iff.1 hxj).1
    -- the same rest
    have hrest : (xs.eraseIdx j).Perm es0 := by
      have hnd : (es.map Prod.fst).Nodup := (h1.map _).nodup_iff.1 h2
      have hA := (hs1.symm.trans h1).trans hp
      have hvv : v1 = v := by
        have hin : (k1, v1) ∈ (k1, v) :: es0 := hA.mem_iff.1 (List.mem_cons_self ..)
        rcases List.mem_cons.1 hin with h | h
        · exact (Prod.mk.inj h).2
        · have := (hp.map Prod.fst).nodup_iff.1 hnd
          rw [List.map_cons, List.nodup_cons] at this
          exact absurd (List.mem_map.2 ⟨_, h, rfl⟩) this.1
      subst hvv
      exact List.Perm.cons_inv hA
    have hEl : (E.modify j fun e => { e with key := ek k1, val := ev v' }).toList = E.toList.modify j fun e => { e with key := ek k1, val := ev v' } := Array.toList_modify
    have hset : xs.set j (k1, v') = xs.modify j fun _ => (k1, v') := by
      apply List.ext_getElem?
      intro i
      rw [List.getElem?_set, List.getElem?_modify]
      by_cases hij : j = i
      · subst hij; simp [hlt]
      · simp [hij]
    refine ⟨xs.set j (k1, v'), ?_, ?_, ?_, ?_, ?_⟩
    · have hlt2 : j < (xs.set j (k1, v')).length := by simpa using hlt
      refine (perm_eraseIdx hlt2).trans ?_
      rw [List.getElem_set_self, List.eraseIdx_set_eq]
      exact .cons _ hrest
    · have : (xs.set j (k1, v')).map Prod.fst = xs.map Prod.fst := by
        apply List.ext_getElem?
        intro i
        rw [List.getElem?_map, List.getElem?_map, List.getElem?_set]
        by_cases hij : j = i
        · subst hij; rw [if_pos rfl, if_pos hlt, hxj]; rfl
        · rw [if_neg hij]
      rw [this]; exact h2
    · rw [hEl, hset]
      apply List.ext_getElem?
      intro i
      have h3' := congrArg (fun l => l[i]?) h3
      simp only [List.getElem?_map] at h3'
      simp only [List.getElem?_map, List.getElem?_modify]
      by_cases hij : j = i
      · subst hij; rw [hj, hxj]; simp
      · simp only [hij, if_false]
        cases hE : E.toList[i]? <;> cases hX : xs[i]? <;> rw [hE, hX] at h3' <;> simp_all
    · rw [hEl]
      rw [List.pairwise_iff_getElem] at h4 ⊢
      intro a b ha hb hab
      rw [List.length_modify] at ha hb
      have := h4 a b ha hb hab
      simp only [List.getElem_modify]
      split <;> split <;> exact this
    · rw [hEl]
      intro x hx
      obtain ⟨i, hi, rfl⟩ := List.getElem_of_mem hx
      rw [List.length_modify] at hi
      have := h5 _ (List.getElem_mem hi)
      simp only [List.getElem_modify]
      split <;> exact this

theorem MOk.push {E : Array MapEntry} {c : Nat} {k : K} {v : V} (h : MOk ek ev E c es) (hk : ∀ v, (k, v) ∉ es) : MOk ek ev (E.push ⟨ek k, ev v, c⟩) (c + 1) ((k, v) :: es) := by
  obtain ⟨xs, h1, h2, h3, h4, h5⟩ := h
  refine ⟨xs ++ [(k, v)], ?_, ?_, ?_, ?_, ?_⟩
  · exact (List.perm_append_comm).trans (.cons _ h1)
  · rw [List.map_append, List.nodup_append]
    refine ⟨h2, by simp, fun a ha b hb => ?_⟩
    simp only [List.map_cons, List.map_nil, List.mem_singleton] at hb
    subst hb
    rintro rfl
    obtain ⟨x, hx, hxe⟩ := List.mem_map.1 ha
    obtain ⟨a1, a2⟩ := x
    simp only at hxe
    subst hxe
    exact hk a2 (h1.mem_iff.1 hx)
  · simp [h3]
  · rw [Array.toList_push, List.pairwise_append]
    refine ⟨h4, by simp, fun a ha b hb => ?_⟩
    simp only [List.mem_singleton] at hb
    subst hb
    exact h5 a ha
  · intro e he
    rw [Array.toList_push, List.mem_append] at he
    rcases he with he | he
    · have := h5 e he; omega
    · simp only [List.mem_singleton] at he; subst he; exact Nat.lt_succ_self _

theorem MOk.erase [hk : KeyT P kt ek] {E : Array MapEntry} {c j : Nat} {e : MapEntry} {k : K} {v : V} {es0 : List (K × V)} (h : MOk ek ev E c es) (hp : es.Perm ((k, v) :: es0)) (hj : E.toList[j]? = some e) (he : e.key = ek k) :
    MOk ek ev (E.eraseIdxIfInBounds j) c es0 := by
  obtain ⟨xs, h1, h2, h3, h4, h5⟩ := h
  have hx : (xs.map (fun x => (ek x.1, ev x.2)))[j]? = some (e.key, e.val) := by rw [← h3, List.getElem?_map, hj]; rfl
  rw [List.getElem?_map] at hx
  cases hxj : xs[j]? with
  | none => rw [hxj] at hx; cases hx
  | some x =>
    rw [hxj] at hx
    obtain ⟨k1, v1⟩ := x
    simp only [Option.map_some, Option.some.injEq, Prod.mk.injEq] at hx
    rw [he] at hx
    obtain rfl := hk.inj _ _ hx.1
    obtain ⟨hs1, hs2⟩ := map_split h2 hxj
    have hrest : (xs.eraseIdx j).Perm es0 := by
      have hnd : (es.map Prod.fst).Nodup := (h1.map _).nodup_iff.1 h2
      have hA := (hs1.symm.trans h1).trans hp
      have hvv : v1 = v := by
        have hin : (k1, v1) ∈ (k1, v) :: es0 := hA.mem_iff.1 (List.mem_cons_self ..)
        rcases List.mem_cons.1 hin with h | h
        · exact (Prod.mk.inj h).2
        · have := (hp.map Prod.fst).nodup_iff.1 hnd
          rw [List.map_cons, List.nodup_cons] at this
          exact absurd (List.mem_map.2 ⟨_, h, rfl⟩) this.1
      subst hvv
      exact List.Perm.cons_inv hA
    have hEl : (E.eraseIdxIfInBounds j).toList = E.toList.eraseIdx j := Array.toList_eraseIdxIfInBounds
    have hsub : (E.toList.eraseIdx j).Sublist E.toList := List.eraseIdx_sublist ..
    refine ⟨xs.eraseIdx j, hrest, ?_, ?_, ?_, ?_⟩
    · exact ((List.eraseIdx_sublist ..).map _).nodup h2
    · rw [hEl, ← map_eraseIdx', h3, map_eraseIdx']
    · rw [hEl]; exact h4.sublist hsub
    · rw [hEl]; exact fun e he => h5 e (hsub.mem he)

theorem run_mset [hT : MapT P T kt z] [hk : KeyT P kt ek] (hs0 : Sat w (mapP ek ev m es :: l)) (k : K) (v : V) {es' : List (K × V)} (he : (∃ v0, es.Perm ((k, v0) :: es')) ∨ ((∀ v, (k, v) ∉ es) ∧ es' = es)) :
    ∃ w', (Instr.mapUpdate T (.map (some m)) (ek k) (ev v)).run P w = .ok () w' ∧ Sat w' (mapP ek ev m ((k, v) :: es') :: l) := by
  obtain ⟨et, hu, hz⟩ := hT.ok
  obtain ⟨E, c, hm, hs⟩ := hs0.mapOpen
  have hb := hs.get
  clear hs0
  rcases hm.find (P := P) (kt := kt) k w with ⟨j, e, v1, hj, hke, -, hv, hr⟩ | ⟨hv, hne, hr⟩
  · rcases he with ⟨v0, hp⟩ | ⟨hn, -⟩
    · refine ⟨setB w m (.map (E.modify j fun e => { e with key := ek k, val := ev v }) c), ?_, (hs.set).mapShut (hm.modify (P := P) (kt := kt) hp hj hke (ev v) rfl)⟩
      have hold : (((E[j]?).map (·.key)).getD (ek k)) = ek k := by
        rw [← Array.getElem?_toList, hj]; simpa using hke
      simp only [Instr.mapUpdate, Sem.run_bind, run_underlying' hu, Result.andThen_ok, run_getMap hb, hk.check, hr, hold, Instr.keyThatStays, hk.same, if_true, Sem.run_pure, run_setMap hb]
    · exact absurd hv (hn _)
  · rcases he with ⟨v0, hp⟩ | ⟨-, rfl⟩
    · exact absurd (hp.mem_iff.2 (List.mem_cons_self ..)) (hv _)
    · refine ⟨setB w m (.map (E.push ⟨ek k, ev v, c⟩) (c + 1)), ?_, (hs.set).mapShut (hm.push hv)⟩
      simp only [Instr.mapUpdate, Sem.run_bind, run_underlying' hu, Result.andThen_ok, run_getMap hb, hk.check, hr, Sem.run_pure, run_setMap hb]

/-- A store into a map: of a key that is there, or of a new one. -/
theorem wp_mset {k : K} {kv : Value} {q : Prog} {vv : Value} (hs : Sat w l) [hf : FoM l m ek ev es r] [hT : MapT P T kt z] [hk : KeyT P kt ek] [hkv : IsK ek kv k] (es' : List (K × V)) (he : (∃ v0, es.Perm ((k, v0) :: es')) ∨ ((∀ v, (k, v) ∉ es) ∧ es' = es))
    (v : V) (h : ∀ w', Sat w' (mapP ek ev m ((k, v) :: es') :: r) → q.wp P S w' Q) (hv : vv = ev v := by rfl) (hS : ∀ w', S w' := by exact fun _ => trivial) : (Prog.actU (Instr.mapUpdate T (.map (some m)) kv vv) q).wp P S w Q := by
  subst hv
  rw [hkv.ok]
  obtain ⟨w', hr, hs'⟩ := run_mset (P := P) (T := T) (hs.perm hf.perm) k v he
  exact ⟨w', hr, hS _, h w' hs'⟩

/-- A key goes. -/
theorem wp_mdel {k : K} {kv : Value} {q : Prog} {ty tk : TypeId} (hs : Sat w l) [hf : FoM l m ek ev es r] [hT : MapT P T kt z] [hk : KeyT P kt ek] [hkv : IsK ek kv k] (es' : List (K × V)) (he : (∃ v0, es.Perm ((k, v0) :: es')) ∨ ((∀ v, (k, v) ∉ es) ∧ es' = es))
    (h : ∀ w', Sat w' (mapP ek ev m es' :: r) → q.wp P S w' Q) (hS : ∀ w', S w' := by exact fun _ => trivial) : (Prog.act (Builtin.delete_ #[T, tk] ty #[.map (some m), kv]) (.tup []) (u0 q)).wp P S w Q := by
  rw [hkv.ok]
  obtain ⟨et, hu, hz⟩ := hT.ok
  obtain ⟨E, c, hm, hs⟩ := (hs.perm hf.perm).mapOpen
  have hb := hs.get
  rcases hm.find (P := P) (kt := kt) k w with ⟨j, e, v1, hj, hke, -, hv, hr⟩ | ⟨hv, hne, hr⟩
  · rcases he with ⟨v0, hp⟩ | ⟨hn, -⟩
    · refine ⟨(), setB w m (.map (E.eraseIdxIfInBounds j) c), ?_, hS _, h _ ((hs.set).mapShut (hm.erase (P := P) (kt := kt) hp hj hke))⟩
      simp only [Builtin.delete_, List.getElem?_toArray, List.getElem?_cons_zero, List.getElem?_cons_succ, Sem.run_bind, run_underlying' hu, Result.andThen_ok, run_getMap hb, hk.check, hr, Sem.run_pure, run_setMap hb]
    · exact absurd hv (hn _)
  · rcases he with ⟨v0, hp⟩ | ⟨-, rfl⟩
    · exact absurd (hp.mem_iff.2 (List.mem_cons_self ..)) (hv _)
    · refine ⟨(), setB w m (.map E c), ?_, hS _, h _ ((hs.set).mapShut hm)⟩
      simp only [Builtin.delete_, List.getElem?_toArray, List.getElem?_cons_zero, List.getElem?_cons_succ, Sem.run_bind, run_underlying' hu, Result.andThen_ok, run_getMap hb, hk.check, hr, Sem.run_pure, run_setMap hb]

end
end Go.Dec
