/- Dec, part G: the decompiled code is sound: from the wp of a Prog to 'Calls'. -/
import Derived.Test.YtpjfebedfejmgaaDecF
namespace Go.Dec
set_option linter.unusedSimpArgs false
set_option linter.unusedVariables false

section
variable {P : Program} {n : Nat} {fs : Fs} {a : Act}

theorem unPr_mk : ∀ {p : Pr} {v : Value} {x : p.D}, unPr p v = some x → p.mk x = v := by
  intro p v x h
  cases p <;> simp only [unPr] at h
  case any => obtain rfl := Option.some.inj h; rfl
  case int k =>
    split at h
    · split at h
      · rename_i hk; subst hk; obtain rfl := Option.some.inj h; rfl
      · cases h
    · cases h
  all_goals
    split at h
    · obtain rfl := Option.some.inj h; rfl
    · cases h

theorem unHL_vals : ∀ {ps : List Pr} {l : List Value} {x : HL ps}, unHL ps l = some x → HL.vals ps x = l
  | [], [], x, h => rfl
  | [], _ :: _, x, h => by simp [unHL] at h
  | _ :: _, [], x, h => by simp [unHL] at h
  | p :: ps, v :: vs, x, h => by
    simp only [unHL] at h
    split at h
    · rename_i y z hy hz
      obtain rfl := Option.some.inj h
      simp only [HL.vals, unPr_mk hy, unHL_vals hz]
    · cases h

theorem flatV_build : ∀ {ss : List Sh1} {vs l : List Value}, flatV ss vs = some l → build ss l = vs
  | [], [], l, h => by simp only [flatV, Option.some.injEq] at h; subst h; rfl
  | [], _ :: _, l, h => by simp [flatV] at h
  | .one p :: r, [], l, h => by simp [flatV] at h
  | .agg ps :: r, [], l, h => by simp [flatV] at h
  | .one p :: r, v :: vs, l, h => by
    simp only [flatV] at h
    split at h
    · rename_i l' hl
      obtain rfl := Option.some.inj h
      simp only [build, flatV_build hl]
    · cases h
  | .agg ps :: r, v :: vs, l, h => by
    simp only [flatV] at h
    split at h
    · rename_i cs l' hl
      simp only [cond_eq_ite] at h
      split at h
      · rename_i hlen
        have hlen := Nat.eq_of_beq_eq_true hlen
        obtain rfl := Option.some.inj h
        simp only [build]
        rw [← hlen, List.take_left, List.drop_left, flatV_build hl]
      · cases h
    · cases h

theorem entB_v (s : Sh1) (v : Value) : (entB s v).v = v := by
  unfold entB
  split
  · rfl
  · split <;> rfl
  · rfl

abbrev AgreeT (n : Nat) (env : Env) (a : Act) : Prop := Agree n env [] a

theorem AgreeT.slot {env : Env} {s : Nat} {b : Base} (ha : AgreeT n env a) (h : env.get s = some b) : a.tmps[s]? = some b.v := by
  have := ha.slots s ⟨b, none⟩ (by simp [Ov.get, h])
  exact this

theorem AgreeT.mk' {env : Env} (hs : a.tmps.size = n) (hd : a.defers = []) (h : ∀ s b, env.get s = some b → a.tmps[s]? = some b.v) : AgreeT n env a := by
  refine ⟨hs, hd, fun s e he => ?_⟩
  simp only [Ov.get] at he
  split at he
  · rename_i b hb
    obtain rfl := Option.some.inj he
    exact h s b hb
  · cases he

theorem get_append (env : Env) : ∀ (e1 : Env) (s : Nat), Env.get (e1 ++ env) s = if s ∈ e1.map (·.1) then Env.get e1 s else Env.get env s
  | [], s => by simp
  | (t, e) :: r, s => by
    simp only [List.cons_append, Env.get, List.map_cons, List.mem_cons]
    cases h : Nat.beq t s with
    | true => simp [(Nat.eq_of_beq_eq_true h).symm]
    | false =>
      have hne : ¬ s = t := fun e => by subst e; rw [Nat.beq_refl] at h; cases h
      simp only [cond_false, hne, false_or]
      exact get_append env r s

theorem get_filt {m : Nat} : ∀ {env : Env} {s : Nat}, m.testBit s = false → (filt m env).get s = env.get s
  | [], s, h => rfl
  | (t, e) :: r, s, h => by
    simp only [filt, Env.get]
    cases hts : Nat.beq t s with
    | true =>
      have e := Nat.eq_of_beq_eq_true hts
      subst e
      simp [h, Env.get, hts]
    | false =>
      cases m.testBit t with
      | true => exact get_filt h
      | false => simp only [cond_false, Env.get, hts]; exact get_filt h

theorem get_filt_some {m : Nat} : ∀ {env : Env} {s : Nat} {b : Base}, (filt m env).get s = some b → m.testBit s = false
  | [], s, b, h => by simp [filt, Env.get] at h
  | (t, e) :: r, s, b, h => by
    simp only [filt, cond_eq_ite] at h
    split at h
    · exact get_filt_some h
    · rename_i ht
      simp only [Env.get, cond_eq_ite] at h
      split at h
      · rename_i hts
        have := Nat.eq_of_beq_eq_true hts
        subst this
        simpa using ht
      · exact get_filt_some h

theorem outEnv_slots : ∀ {outs : Outs} {env : Env} {vs : List Value}, outVals env (slots outs) = some vs → (outEnv outs vs).map (·.1) = slots outs
  | [], env, vs, h => rfl
  | (t, s) :: r, env, vs, h => by
    simp only [slots, outVals] at h
    split at h
    · rename_i b vs' hb hv
      obtain rfl := Option.some.inj h
      simp only [outEnv, List.map_cons, slots, outEnv_slots hv]
    · cases h

theorem outEnv_ok {env : Env} (ha : AgreeT n env a) : ∀ {outs : Outs} {vs : List Value}, outVals env (slots outs) = some vs → ∀ s b, (outEnv outs vs).get s = some b → a.tmps[s]? = some b.v
  | [], vs, h, s, b, hb => by simp [outEnv, Env.get] at hb
  | (t, sh) :: r, vs, h, s, b, hb => by
    simp only [slots, outVals] at h
    split at h
    · rename_i b0 vs' hb0 hv
      obtain rfl := Option.some.inj h
      simp only [outEnv, Env.get, cond_eq_ite] at hb
      split at hb
      · rename_i hts
        have := Nat.eq_of_beq_eq_true hts
        subst this
        obtain rfl := Option.some.inj hb
        rw [entB_v]
        exact ha.slot hb0
      · exact outEnv_ok ha hv s b hb
    · cases h

def Keeps (m : Nat) (env env' : Env) : Prop := ∀ s, m.testBit s = false → env'.get s = env.get s

theorem Keeps.refl (m : Nat) (env : Env) : Keeps m env env := fun _ _ => rfl

theorem Keeps.trans {m₁ m₂ : Nat} {env env₁ env₂ : Env} (h1 : Keeps m₁ env env₁) (h2 : Keeps m₂ env₁ env₂) : Keeps (m₁ ||| m₂) env env₂ := fun s hs => by
  rw [Nat.testBit_or, Bool.or_eq_false_iff] at hs
  rw [h2 s hs.2, h1 s hs.1]

theorem Keeps.left {m₁ m₂ : Nat} {env env₁ : Env} (h1 : Keeps m₁ env env₁) : Keeps (m₁ ||| m₂) env env₁ := fun s hs => by
  rw [Nat.testBit_or, Bool.or_eq_false_iff] at hs
  exact h1 s hs.1

theorem Keeps.right {m₁ m₂ : Nat} {env env₁ : Env} (h1 : Keeps m₂ env env₁) : Keeps (m₁ ||| m₂) env env₁ := fun s hs => by
  rw [Nat.testBit_or, Bool.or_eq_false_iff] at hs
  exact h1 s hs.2

theorem outsIn_mem {m : Nat} : ∀ {l : List Nat}, outsIn m l = true → ∀ s, m.testBit s = false → s ∉ l
  | [], _, s, _, h => by cases h
  | t :: r, h, s, hs, hm => by
    simp only [outsIn, Bool.and_eq_true] at h
    rcases List.mem_cons.1 hm with rfl | hm
    · rw [h.1] at hs; cases hs
    · exact outsIn_mem h.2 s hs hm


theorem expOv_get {env : Env} : ∀ {ov : Ov} {s : Nat} {b : Base}, (expOv ov env).get s = some b → ov.get env s = some ⟨b, none⟩
  | [], s, b, h => by simp only [expOv] at h; simp [Ov.get, h]
  | (t, e) :: r, s, b, h => by
    simp only [expOv, Env.get, Ov.get] at h ⊢
    cases hts : Nat.beq t s with
    | true =>
      rw [hts] at h
      simp only [cond_true] at h ⊢
      obtain ⟨b', g⟩ := e
      cases g with
      | none => simp only [Option.some.injEq] at h; rw [h]
      | some x => cases h
    | false => rw [hts] at h; exact expOv_get h

theorem expOv_keeps {m : Nat} {env : Env} : ∀ {ov : Ov}, ovOk m ov = true → Keeps m env (expOv ov env)
  | [], _ => fun _ _ => rfl
  | (t, e) :: r, h => fun s hs => by
    simp only [ovOk, Bool.and_eq_true] at h
    simp only [expOv, Env.get]
    cases hts : Nat.beq t s with
    | true => have := Nat.eq_of_beq_eq_true hts; subst this; rw [h.1] at hs; cases hs
    | false => exact expOv_keeps h.2 s hs

theorem AgreeT.expOv {env : Env} {ov : Ov} (ha : Agree n env ov a) : AgreeT n (expOv ov env) a :=
  AgreeT.mk' ha.size ha.defers fun s b hb => ha.slots s _ (expOv_get hb)

theorem joinEnv_keeps {m : Nat} {outs : Outs} {vs : List Value} {env : Env} (ho : outsIn m (slots outs) = true) (hv : (outEnv outs vs).map (·.1) = slots outs) : Keeps m env (joinEnv m outs vs env) := fun s hs => by
  unfold joinEnv
  rw [get_append, hv, if_neg (outsIn_mem ho s hs), get_filt hs]

/-- Behind a piece that wrote no other slots than 'm', its outs known. -/
theorem AgreeT.join {m : Nat} {outs : Outs} {vs : List Value} {env env' : Env} (ha : AgreeT n env' a) (hk : Keeps m env env') (hv : outVals env' (slots outs) = some vs) :
    AgreeT n (joinEnv m outs vs env) a := by
  refine AgreeT.mk' ha.size ha.defers fun s b hb => ?_
  unfold joinEnv at hb
  rw [get_append, outEnv_slots hv] at hb
  split at hb
  · exact outEnv_ok ha hv s b hb
  · have hm := get_filt_some hb
    rw [get_filt hm, ← hk s hm] at hb
    exact ha.slot hb

/-- 'p', met in a state that 'env' tells, brings about N, whatever is asked at the tags from d on. -/
def Good (P : Program) (n d : Nat) (Q : Post) (p : Prog) (env : Env) (N : Act → World → Prop) : Prop :=
  ∀ a w (Q' : Post), (∀ e vs w, e < d → Q' e vs w → Q e vs w) → AgreeT n env a → p.wp P (fun _ => True) w Q' → N a w

theorem Good.up {d : Nat} {Q : Post} {C : List Value → World → Prop} {p : Prog} {env : Env} {N : Act → World → Prop} (h : Good P n d Q p env N) : Good P n (d + 1) (Q.catch d C) p env N :=
  fun a w Q' hq ha hp => h a w Q' (fun e vs w he h' => (hq e vs w (by omega) h').2 (by omega)) ha hp

theorem Good.mono {d : Nat} {Q : Post} {p : Prog} {env : Env} {N N' : Act → World → Prop} (h : Good P n d Q p env N) (hn : ∀ a w, N a w → N' a w) : Good P n d Q p env N' :=
  fun a w Q' hq ha hp => hn _ _ (h a w Q' hq ha hp)

theorem retGo_mono {env : Env} {Q Q' : Post} (hq : ∀ vs w, Q' 0 vs w → Q 0 vs w) : ∀ {l : List RV} {acc : List Value} {S : World → Prop} {w : World}, (retGo P env l acc).wp P S w Q' → (retGo P env l acc).wp P S w Q
  | [], acc, S, w, h => hq _ _ h
  | .tmp t :: r, acc, S, w, h => by
    unfold retGo at h ⊢
    split at h
    · exact retGo_mono hq h
    · exact h.elim
  | .cell t ty :: r, acc, S, w, h => by
    unfold retGo at h ⊢
    split at h
    · obtain ⟨x, hx, h⟩ := h; exact ⟨x, hx, retGo_mono hq h⟩
    · exact h.elim

theorem leaf_ok {d : Nat} {ts : List Nat} {env : Env} {S : World → Prop} {w : World} {Q : Post} (h : (leaf d ts env).wp P S w Q) : ∃ vs, outVals env ts = some vs ∧ Q d vs w := by
  unfold leaf at h
  split at h
  · rename_i vs hv; exact ⟨vs, hv, h⟩
  · exact h.elim

theorem valsOf_slots {outs : Outs} {env : Env} {x : HL (prims (shs outs))} (hv : outVals env (slots outs) = some (valsOf (shs outs) x)) : (outEnv outs (valsOf (shs outs) x)).map (·.1) = slots outs :=
  outEnv_slots hv

/-- The leaf of a piece whose ways meet again. -/
theorem leaf_good {d m : Nat} {outs : Outs} {env env' : Env} {Q : Post} {k : Env → Prog} {N : Act → World → Prop} (ho : outsIn m (slots outs) = true) (hk : Keeps m env env')
    (hgood : ∀ env'', Keeps m env env'' → Good P n d Q (k env'') env'' N) :
    Good P n (d + 1) (Q.catch d fun vs w' => ∃ x, vs = valsOf (shs outs) x ∧ (k (joinEnv m outs (valsOf (shs outs) x) env)).wp P (fun _ => True) w' Q) (leaf d (slots outs) env') env' N := by
  intro a w Q' hq ha h
  obtain ⟨vs, hv, h'⟩ := leaf_ok h
  obtain ⟨x, rfl, h''⟩ := (hq d vs w (by omega) h').1 rfl
  exact hgood _ (joinEnv_keeps ho (outEnv_slots hv)) a w Q (fun _ _ _ _ h => h) (AgreeT.join ha hk hv) h''

def noPan (Q : Exit → Act → World → Prop) : Exit → Act → World → Prop
  | .panic _, _, _ => False
  | e, a, w => Q e a w

theorem wp_noPanic {c : Code} {Q : Exit → Act → World → Prop} {w : World} (h : c.wp P (noPan Q) a w) : c.wp P Q a w :=
  wp_mono h fun e a w h => by cases e <;> first | exact h | exact (h : False).elim

theorem regGo_sound {id : Nat} {ops : Array Oper} {draw : Bool} {env : Env} {k : Env → Prog} {Q : Post} {QX : Exit → Act → World → Prop} {w : World} (hfs : ∀ f ∈ fs.l, callOk P f = true) (hmix : P.follows .mixedOrders = true)
    (ha : AgreeT n env a) (hk : ∀ env' a' w', Keeps (opsMask ops.toList) env env' → AgreeT n env' a' → (k env').wp P (fun _ => True) w' Q → QX .normal a' w')
    (h : (regGo P n fs ops draw env k).wp P (fun _ => True) w Q) : (Code.region id ops draw).wp P QX a w := by
  have hk' : ∀ (c : Nat) ov' a' w', Agree n env ov' a' → (bif ovOk (opsMask ops.toList) ov' then k (expOv ov' env) else Prog.fail c).wp P (fun _ => True) w' Q → QX .normal a' w' := fun c ov' a' w' ha' h' => by
    rw [cond_eq_ite] at h'
    split at h'
    · rename_i hov; exact hk _ _ _ (expOv_keeps hov) (AgreeT.expOv ha') h'
    · exact h'.elim
  cases draw with
  | false =>
    refine wp_region ?_
    exact compOps_sound hfs (hk' _) _ ha h
  | true =>
    unfold regGo at h
    dsimp only at h
    rw [cond_eq_ite] at h
    split at h
    · rename_i hsel
      refine wp_noPanic ?_
      refine wp_region_any hmix (wpAny_of_L (T := fun _ _ => True) _ _ _ _ ?_)
      refine compAny_sound (QX := noPan QX) hfs hsel (fun c a w h => h) (fun ov' a' w' ha' h' => hk' _ ov' a' w' ha' h') _ ha (fun j o ho h => ?_) (fun _ _ _ _ _ _ => Iff.rfl) (fun _ _ _ _ _ => trivial) trivial trivial h
      rcases Nat.lt_or_ge j ops.size with h' | h'
      · simp [h'] at h
      · simp [Nat.not_lt.2 h'] at h
    · exact h.elim

theorem least (p : Nat → Prop) : ∀ m, p m → ∃ m, p m ∧ ∀ m', p m' → m ≤ m' := by
  intro m
  induction m using Nat.strongRecOn with
  | _ m ih =>
    intro hm
    by_cases h : ∃ m', m' < m ∧ p m'
    · obtain ⟨m', hlt, hm'⟩ := h; exact ih m' hlt hm'
    · exact ⟨m, hm, fun m' hm' => Nat.le_of_not_lt fun hlt => h ⟨m', hlt, hm'⟩⟩

open Classical in
/-- The loop's rule, the measure told by a number that the invariant bears. -/
theorem wp_loop_ex {c : Code} {Q : Exit → Act → World → Prop} {w : World} (I : Nat → Act → World → Prop) (h0 : ∃ m, I m a w)
    (round : ∀ m a w, I m a w → c.wp P (Exit.then (fun a' w' => ∃ m', m' < m ∧ I m' a' w') Q) a w) : (Code.loop c).wp P Q a w := by
  let μ : Act → World → Nat := fun a w => if h : ∃ m, I m a w ∧ ∀ m', I m' a w → m ≤ m' then Classical.choose h else 0
  have hμ : ∀ a w m, I m a w → I (μ a w) a w ∧ μ a w ≤ m := fun a w m hm => by
    have hl := least (fun m => I m a w) m hm
    have := Classical.choose_spec hl
    simp only [μ, dif_pos hl]
    exact ⟨this.1, this.2 m hm⟩
  refine wp_loop (fun a w => ∃ m, I m a w) μ h0 fun a w ⟨m, hI⟩ => ?_
  refine wp_mono (round _ a w (hμ a w m hI).1) fun e a' w' h => ?_
  cases e with
  | normal =>
    obtain ⟨m', hlt, hm'⟩ := h
    exact ⟨⟨m', hm'⟩, Nat.lt_of_le_of_lt (hμ a' w' m' hm').2 hlt⟩
  | _ => exact h

theorem comp_sound {H : Hints} {rv : List RV} (hfs : ∀ f ∈ fs.l, callOk P f = true) (hmix : P.follows .mixedOrders = true) (c : Code) :
    ∀ {d b : Nat} {env : Env} {ctx : Ctx} {k : Env → Prog} {a : Act} {w : World} {Q : Post} {QX : Exit → Act → World → Prop}, AgreeT n env a → 0 < d →
      (∀ env', Keeps (wmask c) env env' → Good P n d Q (k env') env' (QX .normal)) →
      (∀ id k', cget ctx id = some k' → ∀ env', Keeps (wmask c) env env' → Good P n d Q (k' env') env' (QX (.exit id))) →
      (∀ env' a w, AgreeT n env' a → (retGo P env' rv []).wp P (fun _ => True) w Q → QX .ret a w) →
      (comp P n fs H rv c d b env ctx k).wp P (fun _ => True) w Q → c.wp P QX a w := by
  induction c with
  | skip => intro d b env ctx k a w Q QX ha hd hk hc hr h; exact wp_skip (hk env (Keeps.refl _ _) a w Q (fun _ _ _ _ h => h) ha h)
  | ret =>
    intro d b env ctx k a w Q QX ha hd hk hc hr h
    exact wp_ret (hr env a w ha h)
  | exit id =>
    intro d b env ctx k a w Q QX ha hd hk hc hr h
    unfold comp at h
    split at h
    · rename_i k' hk'
      exact wp_exit (hc id k' hk' env (Keeps.refl _ _) a w Q (fun _ _ _ _ h => h) ha h)
    · exact h.elim
  | seq x y ihx ihy =>
    intro d b env ctx k a w Q QX ha hd hk hc hr h
    refine wp_seq ?_
    refine ihx (QX := Exit.then (y.wp P QX) QX) ha hd (fun env' hk' => ?_) (fun id k' hid env' hk' => hc id k' hid env' (Keeps.left hk')) hr h
    intro a' w' Q' hq ha' h'
    refine ihy ha' hd (fun env'' hk'' => ?_) (fun id k' hid env'' hk'' => ?_) ?_ h'
    · exact fun a w Q'' hq'' => hk env'' (Keeps.trans hk' hk'') a w Q'' fun e vs w he h => hq e vs w he (hq'' e vs w he h)
    · exact fun a w Q'' hq'' => hc id k' hid env'' (Keeps.trans hk' hk'') a w Q'' fun e vs w he h => hq e vs w he (hq'' e vs w he h)
    · exact fun env' a w ha h => hr env' a w ha (retGo_mono (hq 0 · · hd) h)
  | region id ops draw =>
    intro d b env ctx k a w Q QX ha hd hk hc hr h
    unfold comp at h
    split at h
    · refine regGo_sound hfs hmix ha (fun env' a' w' hk' ha' h' => ?_) h
      exact hk env' hk' a' w' Q (fun _ _ _ _ h => h) ha' h'
    · rename_i outs ho
      unfold joined at h
      rw [cond_eq_ite] at h
      split at h
      · rename_i hin
        refine regGo_sound hfs hmix ha (fun env' a' w' hk' ha' h' => ?_) h
        exact leaf_good hin hk' hk a' w' _ (fun _ _ _ _ h => h) ha' h'
      · exact h.elim
  | cond c x y ihx ihy =>
    intro d b env ctx k a w Q QX ha hd hk hc hr h
    unfold comp at h
    split at h
    · rename_i t ht
      have ht' := opE_ok (g := none) ha trivial ht
      cases t with
      | true => exact wp_cond_true ht' (ihx ha hd (fun env' hk' => hk env' (Keeps.left hk')) (fun id k' hid env' hk' => hc id k' hid env' (Keeps.left hk')) hr h)
      | false => exact wp_cond_false ht' (ihy ha hd (fun env' hk' => hk env' (Keeps.right hk')) (fun id k' hid env' hk' => hc id k' hid env' (Keeps.right hk')) hr h)
    · rename_i t ht
      have ht' := opE_ok (g := none) ha trivial ht
      split at h
      · refine wp_cond_split ht' (fun e => ?_) (fun e => ?_)
        · exact ihx ha hd (fun env' hk' => hk env' (Keeps.left hk')) (fun id k' hid env' hk' => hc id k' hid env' (Keeps.left hk')) hr (h.1 e)
        · exact ihy ha hd (fun env' hk' => hk env' (Keeps.right hk')) (fun id k' hid env' hk' => hc id k' hid env' (Keeps.right hk')) hr (h.2 e)
      · rename_i outs ho
        unfold joined at h
        rw [cond_eq_ite] at h
        split at h
        · rename_i hin
          refine wp_cond_split ht' (fun e => ?_) (fun e => ?_)
          · exact ihx ha (Nat.succ_pos d) (fun env' hk' => leaf_good hin (Keeps.left hk') hk) (fun id k' hid env' hk' => (hc id k' hid env' (Keeps.left hk')).up)
              (fun env' a w ha h => hr env' a w ha (retGo_mono (fun vs w h => h.2 (by omega)) h)) (h.1 e)
          · exact ihy ha (Nat.succ_pos d) (fun env' hk' => leaf_good hin (Keeps.right hk') hk) (fun id k' hid env' hk' => (hc id k' hid env' (Keeps.right hk')).up)
              (fun env' a w ha h => hr env' a w ha (retGo_mono (fun vs w h => h.2 (by omega)) h)) (h.2 e)
        · exact h.elim
    · exact h.elim
  | block id x ih =>
    intro d b env ctx k a w Q QX ha hd hk hc hr h
    refine wp_block ?_
    have hexit : ∀ {N : Act → World → Prop} {id' : Nat}, (∀ a w, QX .normal a w → N a w) → id = id' → True := fun _ _ => trivial
    unfold comp at h
    split at h
    · refine ih (QX := Exit.inBlock id QX) ha hd hk (fun id' k' hid env' hk' => ?_) hr h
      simp only [cget] at hid
      cases hii : Nat.beq id id' with
      | true =>
        rw [hii] at hid
        obtain rfl := Option.some.inj hid
        have e := Nat.eq_of_beq_eq_true hii
        subst e
        exact (hk env' hk').mono fun a w h => by simp only [Exit.inBlock, if_true]; exact h
      | false =>
        rw [hii] at hid
        have e : ¬ id' = id := fun e => by subst e; rw [Nat.beq_refl] at hii; cases hii
        exact (hc id' k' hid env' hk').mono fun a w h => by simp only [Exit.inBlock, if_neg e]; exact h
    · rename_i outs ho
      unfold joined at h
      rw [cond_eq_ite] at h
      split at h
      · rename_i hin
        refine ih (QX := Exit.inBlock id QX) ha (Nat.succ_pos d) (fun env' hk' => leaf_good hin hk' hk) (fun id' k' hid env' hk' => ?_) (fun env' a w ha h => hr env' a w ha (retGo_mono (fun vs w h => h.2 (by omega)) h)) h
        simp only [cget] at hid
        cases hii : Nat.beq id id' with
        | true =>
          rw [hii] at hid
          obtain rfl := Option.some.inj hid
          have e := Nat.eq_of_beq_eq_true hii
          subst e
          exact (leaf_good hin hk' hk).mono fun a w h => by simp only [Exit.inBlock, if_true]; exact h
        | false =>
          rw [hii] at hid
          have e : ¬ id' = id := fun e => by subst e; rw [Nat.beq_refl] at hii; cases hii
          exact ((hc id' k' hid env' hk').up).mono fun a w h => by simp only [Exit.inBlock, if_neg e]; exact h
      · exact h.elim
  | loop x ih =>
    intro d b env ctx k a w Q QX ha hd hk hc hr h
    unfold comp at h
    split at h
    · rename_i outs ho
      split at h
      · rename_i vs hvs
        split at h
        · rename_i fl hfl
          split at h
          · rename_i x0 hx0
            rw [cond_eq_ite] at h
            split at h
            · rename_i hin
              have hv0 : valsOf (shs outs) x0 = vs := by unfold valsOf; rw [unHL_vals hx0, flatV_build hfl]
              obtain ⟨I, ⟨m, hI0⟩, hI⟩ := h
              refine wp_loop_ex (fun m a w => ∃ y, I m y w ∧ AgreeT n (joinEnv (wmask x) outs (valsOf (shs outs) y) env) a ∧ (outEnv outs (valsOf (shs outs) y)).map (·.1) = slots outs)
                ⟨m, x0, hI0, AgreeT.join ha (Keeps.refl _ _) (by rw [hv0]; exact hvs), outEnv_slots (by rw [hv0]; exact hvs)⟩ ?_
              rintro m a w ⟨x1, hI1, ha1, hsl⟩
              have hkeep := joinEnv_keeps (env := env) hin hsl
              refine ih (QX := Exit.then _ QX) ha1 (Nat.succ_pos d) (fun env' hk' => ?_) (fun id k' hid env' hk' => ?_) (fun env' a w ha h => hr env' a w ha (retGo_mono (fun vs w h => h.2 (by omega)) h)) (hI m x1 w hI1)
              · intro a' w' Q' hq ha' h'
                obtain ⟨vs', hv', h''⟩ := leaf_ok h'
                obtain ⟨x', m', hlt, rfl, hI'⟩ := (hq d vs' w' (by omega) h'').1 rfl
                have hke : Keeps (wmask x) env env' := fun s hs => by rw [hk' s hs, hkeep s hs]
                exact ⟨m', hlt, x', hI', AgreeT.join ha' hke hv', outEnv_slots hv'⟩
              · exact ((hc id k' hid env' fun s hs => by rw [hk' s hs, hkeep s hs]).up)
            · exact h.elim
          · exact h.elim
        · exact h.elim
      · exact h.elim
    · exact h.elim
  | _ => intro d b env ctx k a w Q QX ha hd hk hc hr h; exact h.elim

/-! ### Functions -/

def argEnv : Nat → List Base → Env
  | _, [] => []
  | i, b :: r => (i, some b) :: argEnv (i + 1) r

def decomp (P : Program) (n : Nat) (fs : Fs) (H : Hints) (rv : List RV) (c : Code) (args : List Base) : Prog :=
  bif Nat.ble args.length n then comp P n fs H rv c 1 0 (argEnv 0 args) [] (fun env => retGo P env rv []) else .fail 43

def pack : List Value → Value
  | [v] => v
  | vs => .tuple vs.toArray

def rvOf : List ResultVar → List RV
  | [] => []
  | .tmp t :: r => .tmp t :: rvOf r
  | .cell t ty :: r => .cell t ty :: rvOf r

theorem argEnv_ok : ∀ {i : Nat} {l : List Base} {s : Nat} {b : Base}, (argEnv i l).get s = some b → i ≤ s ∧ l[s - i]? = some b
  | i, [], s, b, h => by simp [argEnv, Env.get] at h
  | i, b' :: r, s, b, h => by
    simp only [argEnv, Env.get] at h
    cases his : Nat.beq i s with
    | true =>
      rw [his] at h
      have := Nat.eq_of_beq_eq_true his
      subst this
      simpa using h
    | false =>
      rw [his] at h
      have hne : i ≠ s := Nat.ne_of_beq_eq_false his
      obtain ⟨h1, h2⟩ := argEnv_ok h
      refine ⟨by omega, ?_⟩
      rw [show s - i = (s - (i + 1)) + 1 by omega, List.getElem?_cons_succ]
      exact h2

/-- One result, read. -/
def resOne (tmps : Array Value) : ResultVar → Sem Value
  | .tmp t => pure (tmps.getD t undef)
  | .cell x t => do loadVar t (← asAddr (tmps.getD x undef))

theorem retGo_ok {env : Env} {Q : Post} (ha : AgreeT n env a) : ∀ {l : List ResultVar} {acc : List Value} {w : World}, (retGo P env (rvOf l) acc).wp P (fun _ => True) w Q →
    ∃ vs, (l.mapM (resOne a.tmps)).run P w = .ok vs w ∧ Q 0 (acc.reverse ++ vs) w
  | [], acc, w, h => ⟨[], by simp, by simpa [retGo, rvOf, Prog.wp] using h⟩
  | .tmp t :: r, acc, w, h => by
    simp only [rvOf, retGo] at h
    split at h
    · rename_i b hb
      obtain ⟨vs, hv, hq⟩ := retGo_ok ha h
      refine ⟨b.v :: vs, ?_, by simpa using hq⟩
      simp only [List.mapM_cons, resOne, Sem.run_bind, Sem.run_pure, Result.andThen_ok, hv]
      simp [ha.slot hb]
    · exact h.elim
  | .cell t ty :: r, acc, w, h => by
    simp only [rvOf, retGo] at h
    split at h
    · rename_i x s hb hs
      obtain ⟨y, hy, h⟩ := h
      obtain ⟨vs, hv, hq⟩ := retGo_ok ha h
      refine ⟨(Sh.one s).mk y :: vs, ?_, by simpa using hq⟩
      have hy := hy trivial
      have hslot := ha.slot hb
      have hlv : (loadVar ty x).run P w = .ok ((Sh.one s).mk y) w := by
        simpa [Instr.loadAt, Instr.sureAddr] using hy
      have hg : a.tmps.getD t undef = .pointer (some x) := by simp [hslot]
      simp only [List.mapM_cons, resOne, hg, asAddr, Sem.run_bind, Sem.run_pure, Result.andThen_ok, hlv, hv]
    · exact h.elim

theorem run_results {fn : Func} {vs : List Value} {tmps : Array Value} {w : World} (h : (fn.results.toList.mapM (resOne tmps)).run P w = .ok vs w) : (results fn tmps).run P w = .ok (pack vs) w := by
  have hr : fn.results = (fn.results.toList).toArray := by simp
  have hm : ∀ (f : ResultVar → Sem Value), (∀ r, f r = resOne tmps r) → (fn.results.toList.mapM f).run P w = .ok vs w := by
    intro f hf
    rw [show f = resOne tmps from funext hf]; exact h
  unfold results
  rw [hr, List.mapM_toArray, Sem.run_bind, Sem.run_map, hm _ (fun r => by cases r <;> rfl)]
  simp only [Result.andThen_ok, Sem.run_pure]
  cases vs with
  | nil => rfl
  | cons t r => cases r <;> rfl

/-- What is asked of a function: its number, its body, its results. -/
structure IsFn (P : Program) (f : FuncId) (n : Nat) (rv : List RV) (c : Code) : Prop where
  ok : ∃ fn, P.funcs[f]? = some fn ∧ fn.body = some c ∧ fn.ntmps = n ∧ rvOf fn.results.toList = rv

theorem decomp_sound {f : FuncId} {rv : List RV} {c : Code} {H : Hints} {w : World} {R : List Value → World → Prop} (hfn : IsFn P f n rv c) (hfs : ∀ f ∈ fs.l, callOk P f = true) (hmix : P.follows .mixedOrders = true) (args : List Base)
    (h : (decomp P n fs H rv c args).wp P (fun _ => True) w fun e vs w' => e = 0 ∧ R vs w') :
    Calls P f (args.map Base.v).toArray w fun e w' => ∃ vs, e = .returned (pack vs) ∧ R vs w' := by
  obtain ⟨fn, hf, hb, hn, hr⟩ := hfn.ok
  unfold decomp at h
  rw [cond_eq_ite] at h
  split at h
  · rename_i hle
    have hle := Nat.le_of_ble_eq_true hle
    refine calls_of_wp hf hb ?_
    have ha : AgreeT n (argEnv 0 args) { tmps := (args.map Base.v).toArray ++ Array.replicate (fn.ntmps - (args.map Base.v).toArray.size) undef, defers := [] } := by
      refine AgreeT.mk' (by simp [hn]; omega) rfl fun s b hb => ?_
      obtain ⟨_, h2⟩ := argEnv_ok hb
      simp only [Nat.sub_zero] at h2
      have hlt : s < args.length := (List.getElem?_eq_some_iff.1 h2).1
      rw [Array.getElem?_append_left (by simpa using hlt)]
      simp [h2]
    have hend : ∀ env' a w, AgreeT n env' a → (retGo P env' rv []).wp P (fun _ => True) w (fun e vs w' => e = 0 ∧ R vs w') →
        a.defers = [] ∧ ∃ v, (results fn a.tmps).run P w = .ok v w ∧ ∃ vs, Ending.returned v = .returned (pack vs) ∧ R vs w := fun env' a w ha h => by
      rw [← hr] at h
      obtain ⟨vs, hv, hq⟩ := retGo_ok ha h
      exact ⟨ha.defers, _, run_results hv, vs, rfl, by simpa using hq.2⟩
    refine comp_sound hfs hmix c ha (Nat.succ_pos 0) (fun env' hk' => ?_) (fun id k' hid => by cases hid) (fun env' a w ha h => ?_) h
    · intro a w Q' hq ha' h'
      exact hend env' a w ha' (retGo_mono (fun vs w h => hq 0 vs w (Nat.succ_pos 0) h) h')
    · exact hend env' a w ha h
  · exact h.elim

end
end Go.Dec
