/- Dec, part E: operations that change the world, and whole regions, decompiled, and that it is sound. -/
import Derived.Test.YtpjfebedfejmgaaDecD
namespace Go.Dec
set_option linter.unusedSimpArgs false
set_option linter.unusedVariables false

/-- What a text may lean on: the functions that may be called; what an iterator yields, by the slot. -/
structure Fs where
  l : List FuncId
  nx : List (Nat × List Sh1)

def assume1 (s : Nat) (v : Bool) (t : Nat) (e : Ent) : Ent :=
  bif Nat.beq t s then ⟨.lit (.bool v), none⟩
  else match e.g with
    | none => e
    | some (s', w) => bif Nat.beq s' s then ⟨bif w == v then e.b else .lit undef, none⟩ else e

def assume : Ov → Nat → Bool → Ov
  | [], _, _ => []
  | (t, e) :: r, s, v => (t, assume1 s v t e) :: assume r s v

/-- A guard's slot is decided, by cases if need be. -/
def resolve (env : Env) : Nat → Ov → Nat → (Ov → Prog) → Prog
  | 0, _, _, _ => .fail 11
  | d + 1, ov, s, k => match ov.get env s with
    | some ⟨.lit _, none⟩ => k ov
    | some ⟨.val (.bool b), none⟩ => .ite b (k (assume ov s true)) (k (assume ov s false))
    | some ⟨.val (.bool _), some (t, _)⟩ => resolve env d ov t fun ov' => match ov'.get env s with
      | some ⟨.lit _, none⟩ => k ov'
      | some ⟨.val (.bool b), none⟩ => .ite b (k (assume ov' s true)) (k (assume ov' s false))
      | _ => .fail 12
    | _ => .fail 13

def evalL (env : Env) (ov : Ov) : List Operand → Option (List Value)
  | [] => some []
  | x :: r => match opE env ov none x, evalL env ov r with
    | some b, some l => some (b.v :: l)
    | _, _ => none

def doCall (P : Program) (n : Nat) (fs : Fs) (env : Env) (ov : Ov) (o : Oper) (c : Call) (k : Ov → Prog) : Prog :=
  match c.callee with
  | .value f => match opE env ov none f, evalL env ov c.args.toList, resSh P o with
    | some (.val (.func (.func i) first cap)), some args, some s =>
      bif fs.l.any (Nat.beq i) then .call i (first.toList ++ args ++ cap.toList) s fun x => fin n ov o none (shBase s x) k else .fail 14
    | some (.any fv), some args, some s => .callv fv args s fun x => fin n ov o none (shBase s x) k
    | _, _, _ => .fail 15
  | _ => .fail 16

def nxGet : List (Nat × List Sh1) → Option Nat → Option (List Sh1)
  | (t, x) :: r, some s => bif Nat.beq t s then some x else nxGet r (some s)
  | _, _ => none

/-- A result's shape: of a range's entry as it is told. -/
def entSh (P : Program) (fs : Fs) (o : Oper) : Option Sh :=
  match o.op with
  | .entry _ => (nxGet fs.nx o.dst).map Sh.tup
  | _ => resSh P o

def doW (P : Program) (n : Nat) (fs : Fs) (env : Env) (ov : Ov) (o : Oper) (k : Ov → Prog) : Prog :=
  match cls P o with
  | .c => match o.op with
    | .call c => doCall P n fs env ov o c k
    | _ => .fail 17
  | .u => match actUOf (opV env ov none) o with
    | some m => bif known env ov none o && noSel o.op then .actU m (fin n ov o none (.lit undef) k) else .fail 18
    | none => .fail 19
  | .nx => match o.op, nxGet fs.nx o.dst with
    | .next it isS, some ss => bif known env ov none o then
        .next (Instr.next (opV env ov none it) isS o.type) ss
          (fun x => fin n ov o none (.lit (.tuple (.bool true :: valsOf ss x).toArray)) k)
          (fin n ov o none (.lit (.tuple #[.bool false])) k)
      else .fail 20
    | _, _ => .fail 21
  | _ => match actOf (opV env ov none) o, entSh P fs o with
    | some m, some s => bif known env ov none o && noSel o.op then .act m s fun x => fin n ov o none (shBase s x) k else .fail 22
    | _, _ => .fail 23

def opW (P : Program) (n : Nat) (fs : Fs) (ops : Array Oper) (env : Env) (ov : Ov) (o : Oper) (k : Ov → Prog) : Prog :=
  match gstate ops env ov o with
  | .on => doW P n fs env ov o k
  | .off => skipOp n ov o k
  | .sym s _ => resolve env 6 ov s fun ov' => match gstate ops env ov' o with
    | .on => doW P n fs env ov' o k
    | .off => skipOp n ov' o k
    | .sym _ _ => .fail 24

def callOk (P : Program) (f : FuncId) : Bool := match P.funcs[f]? with
  | some fn => fn.body.isSome && fn.name != "runtime.NumGoroutine"
  | none => false

section
variable {P : Program} {n : Nat} {fs : Fs} {env : Env} {ov : Ov} {a : Act} {o : Oper} {ops : Array Oper}

theorem get_map_assume {s : Nat} {v : Bool} : ∀ {ov : Ov} {t : Nat} {e : Ent}, (assume ov s v).get env t = some e →
    (ov.get env t = some e) ∨ (t = s ∧ e = ⟨.lit (.bool v), none⟩) ∨
    (∃ e₀ w, ov.get env t = some e₀ ∧ e₀.g = some (s, w) ∧ e = ⟨bif w == v then e₀.b else .lit undef, none⟩)
  | [], t, e, h => .inl h
  | (t', e') :: r, t, e, h => by
    simp only [assume, Ov.get] at h ⊢
    cases htt : Nat.beq t' t with
    | false => rw [htt] at h; exact get_map_assume h
    | true =>
      rw [htt] at h
      simp only [cond_true, Option.some.injEq] at h ⊢
      subst h
      unfold assume1
      cases hts : Nat.beq t' s with
      | true => exact .inr (.inl ⟨by rw [← Nat.eq_of_beq_eq_true htt, Nat.eq_of_beq_eq_true hts], rfl⟩)
      | false =>
        cases hg : e'.g with
        | none => exact .inl rfl
        | some x =>
          obtain ⟨s', w⟩ := x
          cases hss : Nat.beq s' s with
          | false => simp [hss]
          | true =>
            have := Nat.eq_of_beq_eq_true hss
            subst this
            simp only [hss, cond_true, cond_false]
            exact .inr (.inr ⟨e', w, rfl, hg, rfl⟩)

theorem Agree.assume {s : Nat} {v : Bool} (ha : Agree n env ov a) (hs : a.tmps[s]? = some (.bool v)) : Agree n env (Dec.assume ov s v) a := by
  refine ⟨ha.size, ha.defers, fun t e he => ?_⟩
  rcases get_map_assume he with h | ⟨rfl, rfl⟩ | ⟨e₀, w, h0, hg, rfl⟩
  · exact ha.slots _ _ h
  · exact hs
  · have h1 := ha.slots _ _ h0
    unfold Ent.Ok at h1
    rw [hg] at h1
    unfold Ent.Ok
    dsimp only
    by_cases hw : w = v
    · subst hw
      simp only [beq_self_eq_true, cond_true]
      exact h1.1 hs
    · have : (w == v) = false := by simpa using hw
      simp only [this, cond_false]
      refine h1.2 fun h => hw ?_
      rw [hs] at h
      simpa using h.symm

theorem ite_resolve {s : Nat} {b : Bool} {k : Ov → Prog} {S : World → Prop} {w : World} {Q : Post} (ha : Agree n env ov a) (hs : a.tmps[s]? = some (.bool b))
    (h : (Prog.ite b (k (assume ov s true)) (k (assume ov s false))).wp P S w Q) : ∃ ov', Agree n env ov' a ∧ (k ov').wp P S w Q := by
  cases b with
  | true => exact ⟨_, ha.assume hs, h.1 rfl⟩
  | false => exact ⟨_, ha.assume hs, h.2 rfl⟩

theorem resolve_sound : ∀ (d : Nat) {ov : Ov} {s : Nat} {k : Ov → Prog} {S : World → Prop} {w : World} {Q : Post}, Agree n env ov a →
    (resolve env d ov s k).wp P S w Q → ∃ ov', Agree n env ov' a ∧ (k ov').wp P S w Q
  | 0, ov, s, k, S, w, Q, ha, h => h.elim
  | d + 1, ov, s, k, S, w, Q, ha, h => by
    simp only [resolve] at h
    split at h
    · exact ⟨ov, ha, h⟩
    · rename_i b hb
      exact ite_resolve ha (ha.slots _ _ hb) h
    · obtain ⟨ov', ha', h'⟩ := resolve_sound d ha h
      split at h'
      · exact ⟨ov', ha', h'⟩
      · rename_i b hb
        exact ite_resolve ha' (ha'.slots _ _ hb) h'
      · exact h'.elim
    · exact h.elim

/-- A step that changes the world: what is to be shown of it. -/
def WStep (P : Program) (n : Nat) (ops : Array Oper) (env : Env) (i : Nat) (a : Act) (w : World) (S : World → Prop) (k : Ov → Prog) (Q : Post) (QX : Exit → Act → World → Prop) : Prop :=
  ∀ K : Act → World → Prop, (∀ ov' a' w', Agree n env ov' a' → S w' → (k ov').wp P S w' Q → K a' w') → wpOp P ops QX i K a w

theorem fin_agree {b : Base} {k : Ov → Prog} {S : World → Prop} {w : World} {Q : Post} (ha : Agree n env ov a) (h : (fin n ov o none b k).wp P S w Q) :
    ∃ ov', Agree n env ov' (a.put o.dst b.v) ∧ (k ov').wp P S w Q := by
  unfold fin at h
  cases hdst : o.dst with
  | none => rw [hdst] at h; exact ⟨ov, ha, h⟩
  | some d =>
    rw [hdst] at h
    simp only [cond_eq_ite] at h
    split at h
    · rename_i hc
      simp only [Bool.and_eq_true] at hc
      exact ⟨_, Agree.put ha (Nat.le_of_ble_eq_true hc.1.1) hc.1.2 rfl, h⟩
    · exact h.elim

theorem evalL_ok (ha : Agree n env ov a) : ∀ {l : List Operand} {vs : List Value}, evalL env ov l = some vs → l.map a.eval = vs
  | [], vs, h => by simp only [evalL, Option.some.injEq] at h; subst h; rfl
  | x :: r, vs, h => by
    simp only [evalL] at h
    split at h
    · rename_i b l hb hl
      obtain rfl := Option.some.inj h
      rw [List.map_cons, opE_ok (g := none) ha trivial hb, evalL_ok ha hl]
    · cases h

theorem run_callFunc {f : FuncId} (hf : callOk P f = true) (args : Array Value) (w : World) : (callFunc f args).run P w = .ok (.enter f args) w := by
  unfold callOk at hf
  split at hf
  · rename_i fn hfn
    simp only [Bool.and_eq_true] at hf
    have h1 : (fn.name == "runtime.NumGoroutine") = false := by
      have := hf.2; simpa using this
    have h2 : fn.body.isNone = false := by
      have := hf.1
      cases hb : fn.body <;> simp_all
    simp only [callFunc, Sem.run_bind, run_program, Result.andThen_ok, hfn, h1, h2, Bool.false_eq_true, if_false, Sem.run_pure]
  · cases hf

theorem run_call {c : Call} {f : FuncId} {first cap : Array Value} {x : Operand} {ρ : Operand → Value} (hc : c.callee = .value x) (hx : ρ x = .func (.func f) first cap) (hf : callOk P f = true)
    {dst : Option Tmp} {type : TypeId} {pos : String} {after : Array Edge} {guard : Option (Nat × Bool)} (w : World) :
    (execOp ρ { dst, op := .call c, type, pos, after, guard }).run P w = .ok (.enter f (first ++ c.args.map ρ ++ cap)) w := by
  simp only [execOp, Go.resolve, hc, Deferred.ofValue, hx, Sem.run_bind, Sem.run_pure, Result.andThen_ok, Go.invoke, run_callFunc hf]

theorem doW_sound {i : Nat} {k : Ov → Prog} {S : World → Prop} {w : World} {Q : Post} {QX : Exit → Act → World → Prop} (hfs : ∀ f ∈ fs.l, callOk P f = true) (hi : ops[i]? = some o)
    (ha : Agree n env ov a) (hw : Region.wanted o (yielded ops a.tmps) = true) (h : (doW P n fs env ov o k).wp P S w Q) : WStep P n ops env i a w S k Q QX := by
  intro K hK
  unfold wpOp
  simp only [hi, hw, if_true]
  refine .inl ?_
  unfold Oper.wp
  obtain ⟨dst, op, type, pos, after, guard⟩ := o
  unfold doW at h
  split at h
  · -- a call
    split at h
    · rename_i c hop
      dsimp only at hop
      subst hop
      unfold doCall at h
      split at h
      · rename_i f hc
        split at h
        · rename_i fi first cap args s hf hargs hs
          simp only [cond_eq_ite] at h
          split at h
          · rename_i hm
            have hmem : fi ∈ fs.l := by
              obtain ⟨y, hy, hy'⟩ := List.any_eq_true.1 hm
              rw [Nat.eq_of_beq_eq_true hy']; exact hy
            have hx := opE_ok (g := none) ha trivial hf
            rw [run_call hc hx (hfs _ hmem) w, Oper.upon_enter]
            have hargs' : first ++ c.args.map a.eval ++ cap = (first.toList ++ args ++ cap.toList).toArray := by
              rw [← evalL_ok ha hargs]; apply Array.ext'; simp
            rw [hargs']
            refine Calls.mono h fun e w' ⟨x, he, hS, h'⟩ => ?_
            subst he
            obtain ⟨ov', ha', h''⟩ := fin_agree ha h'
            rw [shBase_v] at ha'
            exact hK _ _ _ ha' hS h''
          · exact h.elim
        · rename_i fv args s hf hargs hs
          obtain ⟨fi, first, cap, hfv, hok, h⟩ := h
          have hx := opE_ok (g := none) ha trivial hf
          simp only [Base.v, hfv] at hx
          have hok' : callOk P fi = true := by
            unfold callOk
            cases hq : P.funcs[fi]? with
            | none => rw [hq] at hok; cases hok
            | some fn => rw [hq] at hok; simpa using hok
          rw [run_call hc hx hok' w, Oper.upon_enter]
          have hargs' : first ++ c.args.map a.eval ++ cap = first ++ args.toArray ++ cap := by
            rw [← evalL_ok ha hargs]; congr 2; apply Array.ext'; simp
          rw [hargs']
          refine Calls.mono h fun e w' ⟨x, he, hS, h'⟩ => ?_
          subst he
          obtain ⟨ov', ha', h''⟩ := fin_agree ha h'
          rw [shBase_v] at ha'
          exact hK _ _ _ ha' hS h''
        · exact h.elim
      · exact h.elim
    · exact h.elim
  · -- no value
    split at h
    · rename_i m hm
      simp only [cond_eq_ite] at h
      split at h
      · rename_i hk
        simp only [Bool.and_eq_true] at hk
        obtain ⟨w', hrun, hS, h'⟩ := h
        rw [exec_known (g := none) ha trivial hk.1 hk.2, actUOf_ok hm]
        simp only [Sem.run_bind, hrun, Result.andThen_ok, Sem.run_pure, Oper.upon_skip]
        obtain ⟨ov', ha', h''⟩ := fin_agree ha h'
        exact hK _ _ _ ha' hS h''
      · exact h.elim
    · exact h.elim
  · -- next
    split at h
    · rename_i it isS ss hop hss
      dsimp only at hop
      subst hop
      simp only [cond_eq_ite] at h
      split at h
      · rename_i hk
        rw [exec_known (g := none) ha trivial hk rfl]
        rcases h with ⟨x, w', hrun, hS, h'⟩ | ⟨w', hrun, hS, h'⟩
        · simp only [execOp, Sem.run_bind, hrun, Result.andThen_ok, Sem.run_pure, Oper.upon_value]
          obtain ⟨ov', ha', h''⟩ := fin_agree ha h'
          exact hK _ _ _ ha' hS h''
        · simp only [execOp, Sem.run_bind, hrun, Result.andThen_ok, Sem.run_pure, Oper.upon_value]
          obtain ⟨ov', ha', h''⟩ := fin_agree ha h'
          exact hK _ _ _ ha' hS h''
      · exact h.elim
    · exact h.elim
  · split at h
    · rename_i m s hm hs
      simp only [cond_eq_ite] at h
      split at h
      · rename_i hk
        simp only [Bool.and_eq_true] at hk
        obtain ⟨x, w', hrun, hS, h'⟩ := h
        rw [exec_known (g := none) ha trivial hk.1 hk.2, actOf_ok hm]
        simp only [Sem.run_bind, hrun, Result.andThen_ok, Sem.run_pure, Oper.upon_value]
        obtain ⟨ov', ha', h''⟩ := fin_agree ha h'
        rw [shBase_v] at ha'
        exact hK _ _ _ ha' hS h''
      · exact h.elim
    · exact h.elim

theorem skipW_sound {i : Nat} {k : Ov → Prog} {S : World → Prop} {w : World} {Q : Post} {QX : Exit → Act → World → Prop} (hi : ops[i]? = some o) (hS : S w)
    (ha : Agree n env ov a) (hw : Region.wanted o (yielded ops a.tmps) = false) (h : (skipOp n ov o k).wp P S w Q) : WStep P n ops env i a w S k Q QX := by
  intro K hK
  unfold wpOp
  simp only [hi, hw]
  obtain ⟨ov', ha', h''⟩ := fin_agree ha h
  exact hK _ _ _ ha' hS h''

theorem opW_sound {i : Nat} {k : Ov → Prog} {S : World → Prop} {w : World} {Q : Post} {QX : Exit → Act → World → Prop} (hfs : ∀ f ∈ fs.l, callOk P f = true) (hi : ops[i]? = some o) (hS : S w)
    (ha : Agree n env ov a) (h : (opW P n fs ops env ov o k).wp P S w Q) : WStep P n ops env i a w S k Q QX := by
  have hgs := gstate_ok (o := o) (ops := ops) ha
  unfold opW at h
  split at h
  · rename_i hg; rw [hg] at hgs; exact doW_sound hfs hi ha hgs h
  · rename_i hg; rw [hg] at hgs; exact skipW_sound hi hS ha hgs h
  · obtain ⟨ov', ha', h'⟩ := resolve_sound 6 ha h
    have hgs := gstate_ok (o := o) (ops := ops) ha'
    split at h'
    · rename_i hg; rw [hg] at hgs; exact doW_sound hfs hi ha' hgs h'
    · rename_i hg; rw [hg] at hgs; exact skipW_sound hi hS ha' hgs h'
    · exact h'.elim

end
end Go.Dec
