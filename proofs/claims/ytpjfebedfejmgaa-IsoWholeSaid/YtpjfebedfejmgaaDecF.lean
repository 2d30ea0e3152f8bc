/- Dec, part F: regions and code, decompiled, and that it is sound: from the wp of a Prog to 'Calls'. -/
import Derived.Test.YtpjfebedfejmgaaDecE
namespace Go.Dec
set_option linter.unusedSimpArgs false
set_option linter.unusedVariables false

def compOps (P : Program) (n : Nat) (fs : Fs) (ops : Array Oper) (env : Env) : List Nat → Ov → (Ov → Prog) → Prog
  | [], ov, k => k ov
  | i :: rest, ov, k => match ops[i]? with
    | none => compOps P n fs ops env rest ov k
    | some o => bif isPR (cls P o) then stepPR P n false ops env ov o fun ov' => compOps P n fs ops env rest ov' k
      else opW P n fs ops env ov o fun ov' => compOps P n fs ops env rest ov' k

def freePR (P : Program) (ops : Array Oper) (listed : Array Bool) : List Nat → Option Nat
  | [] => none
  | i :: r => match ops[i]? with
    | some o => bif isPR (cls P o) && Region.free .any ops listed i then some i else freePR P ops listed r
    | none => freePR P ops listed r

def bothAll (f : Nat → Prog) : List Nat → Prog
  | [] => .fail 25
  | [i] => f i
  | i :: r => .both (f i) (bothAll f r)

def depGo : List Oper → Nat → Nat → Nat
  | [], _, m => m
  | o :: r, j, m => depGo r (j + 1) (bif o.after.toList.any (fun e => Region.binds .any e && m.testBit e.on) then m ||| 2 ^ j else m)

/-- The operations that wait for number i, and i. -/
def depMask (ops : Array Oper) (i : Nat) : Nat := depGo ops.toList 0 (2 ^ i)

def depAll (ops : Array Oper) (j : Nat) : List Nat → Bool
  | [] => true
  | i :: r => (depMask ops i).testBit j && depAll ops j r

def actsWait (P : Program) (listed : Array Bool) (m : Nat) : List Oper → Nat → Bool
  | [], _ => true
  | o :: r, j => (listed.getD j true || isPR (cls P o) || m.testBit j) && actsWait P listed m r (j + 1)

def compAny (P : Program) (n : Nat) (fs : Fs) (ops : Array Oper) (env : Env) : Nat → Array Bool → List Nat → List Nat → Ov → (Ov → Prog) → Prog
  | 0, listed, _, _, ov, k => match Region.ready .any ops listed with
    | [] => .untick (k ov)
    | _ => .fail 26
  | d + 1, listed, hl, rl, ov, k => match Region.ready .any ops listed with
    | [] => .untick (k ov)
    | i :: r => match freePR P ops listed (i :: r) with
      | some j => match ops[j]? with
        | some o => bif isP (cls P o) then stepPR P n true ops env ov o fun ov' => compAny P n fs ops env d (listed.setIfInBounds j true) hl rl ov' k
          else bif actsWait P listed (depMask ops j) ops.toList 0 then stepPR P n false ops env ov o fun ov' => compAny P n fs ops env d (listed.setIfInBounds j true) hl (j :: rl) ov' k
          else stepPR P n true ops env ov o fun ov' => compAny P n fs ops env d (listed.setIfInBounds j true) (j :: hl) rl ov' k
        | none => .fail 27
      | none => bothAll (fun j => match ops[j]? with
        | some o => bif isPR (cls P o) then (match rl with
            | [] => opW P n fs ops env ov o fun ov' => compAny P n fs ops env d (listed.setIfInBounds j true) hl [] ov' k
            | _ => .fail 28)
          else bif depAll ops j rl then (match hl with
            | [] => opW P n fs ops env ov o fun ov' => compAny P n fs ops env d (listed.setIfInBounds j true) [] [] ov' k
            | i' :: hl' => bif depAll ops j (i' :: hl') then .untick (opW P n fs ops env ov o fun ov' => compAny P n fs ops env d (listed.setIfInBounds j true) [] [] ov' k)
              else opW P n fs ops env ov o fun ov' => compAny P n fs ops env d (listed.setIfInBounds j true) (i' :: hl') rl ov' k)
          else .fail 29
        | none => .fail 28) (i :: r)

section
variable {P : Program} {n : Nat} {fs : Fs} {env : Env} {ov : Ov} {a : Act} {o : Oper} {ops : Array Oper}

theorem compOps_sound {Q : Post} {QX : Exit → Act → World → Prop} {k : Ov → Prog} (hfs : ∀ f ∈ fs.l, callOk P f = true)
    (hk : ∀ ov' a' w', Agree n env ov' a' → (k ov').wp P (fun _ => True) w' Q → QX .normal a' w') :
    ∀ (l : List Nat) {ov : Ov} {a : Act} {w : World}, Agree n env ov a → (compOps P n fs ops env l ov k).wp P (fun _ => True) w Q → wpOps P ops QX l a w
  | [], ov, a, w, ha, h => hk ov a w ha h
  | i :: rest, ov, a, w, ha, h => by
    rw [wpOps_cons]
    unfold compOps at h
    cases ho : ops[i]? with
    | none =>
      rw [ho] at h
      unfold wpOp
      rw [ho]
      exact compOps_sound hfs hk rest ha h
    | some o =>
      rw [ho] at h
      simp only [cond_eq_ite] at h
      split at h
      · obtain ⟨v, ov', S', ha', _, _, hy, _, _, hS', h'⟩ := stepPR_sound (dr := false) ha trivial h
        have := hS' rfl
        subst this
        exact hy.wpOp ho rfl (compOps_sound hfs hk rest ha' h')
      · exact opW_sound hfs ho trivial ha h _ fun ov' a' w' ha' _ h' => compOps_sound hfs hk rest ha' h'

theorem freePR_spec {listed : Array Bool} : ∀ {l : List Nat} {j : Nat}, freePR P ops listed l = some j → j ∈ l ∧ Region.free .any ops listed j = true ∧ ∀ o, ops[j]? = some o → isPR (cls P o) = true
  | [], j, h => by simp [freePR] at h
  | i :: r, j, h => by
    unfold freePR at h
    split at h
    · simp only [cond_eq_ite] at h
      split at h
      · rename_i hc
        simp only [Bool.and_eq_true] at hc
        obtain rfl := Option.some.inj h
        exact ⟨List.mem_cons_self .., hc.2, fun o' ho' => by simp_all⟩
      · have := freePR_spec h; exact ⟨List.mem_cons_of_mem _ this.1, this.2⟩
    · have := freePR_spec h; exact ⟨List.mem_cons_of_mem _ this.1, this.2⟩

theorem bothAll_spec {f : Nat → Prog} {S : World → Prop} {w : World} {Q : Post} : ∀ {l : List Nat}, (bothAll f l).wp P S w Q → ∀ i ∈ l, (f i).wp P S w Q
  | [], h, _, hi => by cases hi
  | [j], h, i, hi => by obtain rfl := List.mem_singleton.1 hi; exact h
  | j :: j' :: r, h, i, hi => by
    rcases List.mem_cons.1 hi with rfl | hi
    · exact h.1
    · exact bothAll_spec h.2 i hi

/-! #### Any order -/
def actP (P : Program) (ops : Array Oper) (j : Nat) : Prop := ∃ o, ops[j]? = some o ∧ isPR (cls P o) = false
def dead (P : Program) (ops : Array Oper) (L : Array Bool) (i : Nat) : Prop := ∃ j, L.getD j false = true ∧ actP P ops j ∧ (depMask ops i).testBit j = true
def Closed (ops : Array Oper) (L : Array Bool) : Prop := ∀ j o, ops[j]? = some o → L.getD j false = true → ∀ e ∈ o.after, Region.binds .any e = true → L.getD e.on false = true

theorem depGo_spec {p : Nat → Prop} (hp : ∀ j o, ops[j]? = some o → p j → ∀ e ∈ o.after, Region.binds .any e = true → p e.on) {i : Nat} : ∀ (l : List Oper) (k m : Nat), (∀ t o, l[t]? = some o → ops[k + t]? = some o) →
    (∀ j, m.testBit j = true → p j → p i) → ∀ j, (depGo l k m).testBit j = true → p j → p i
  | [], k, m, hl, hm, j, hj, h => hm j hj h
  | o :: r, k, m, hl, hm, j, hj, h => by
    unfold depGo at hj
    refine depGo_spec hp r (k + 1) _ (fun t o ho => by have := hl (t + 1) o (by simpa using ho); rwa [show k + 1 + t = k + (t + 1) by omega]) ?_ j hj h
    intro j' hj' h'
    rw [cond_eq_ite] at hj'
    split at hj'
    · rename_i hc
      rw [Nat.testBit_or, Nat.testBit_two_pow, Bool.or_eq_true] at hj'
      rcases hj' with hj' | hj'
      · exact hm j' hj' h'
      · obtain rfl := of_decide_eq_true hj'
        obtain ⟨e, he, hb⟩ := List.any_eq_true.1 hc
        simp only [Bool.and_eq_true] at hb
        exact hm e.on hb.2 (hp k o (hl 0 o rfl) h' e (by simpa using he) hb.1)
    · exact hm j' hj' h'

theorem dep_listed {L : Array Bool} {i j : Nat} (hc : Closed ops L) (hj : L.getD j false = true) (hd : (depMask ops i).testBit j = true) : L.getD i false = true := by
  refine depGo_spec (p := fun j => L.getD j false = true) (fun j o ho h e he hb => hc j o ho h e he hb) ops.toList 0 (2 ^ i) (fun t o ho => by simpa using ho) ?_ j hd hj
  intro j' h1 h2
  rw [Nat.testBit_two_pow] at h1
  obtain rfl := of_decide_eq_true h1
  exact h2

theorem getD_ff {L : Array Bool} {i : Nat} (h : L.getD i true = false) : L.getD i false = false := by
  rcases Nat.lt_or_ge i L.size with h' | h'
  · simp [h'] at h ⊢; exact h
  · simp [Array.getElem?_eq_none h'] at h

theorem closed_set {L : Array Bool} {j : Nat} (hc : Closed ops L) (hj : j ∈ Region.ready .any ops L) : Closed ops (L.setIfInBounds j true) := by
  obtain ⟨_, oj, hoj, hall⟩ := mem_ready.1 hj
  intro j' o' ho' h' e he hb
  by_cases hjj : j = j'
  · subst hjj
    rw [hoj] at ho'
    obtain rfl := Option.some.inj ho'
    exact getD_set_true (hall e he hb)
  · rw [getD_set_ne false hjj] at h'
    exact getD_set_true (hc j' o' ho' h' e he hb)

theorem dead_set {L : Array Bool} {i k : Nat} {o : Oper} (ho : ops[k]? = some o) (hp : isPR (cls P o) = true) : dead P ops (L.setIfInBounds k true) i ↔ dead P ops L i := by
  constructor
  · rintro ⟨j, h1, ⟨o', ho', h2⟩, h3⟩
    refine ⟨j, ?_, ⟨o', ho', h2⟩, h3⟩
    by_cases hkj : k = j
    · subst hkj; rw [ho] at ho'; obtain rfl := Option.some.inj ho'; rw [hp] at h2; cases h2
    · rwa [getD_set_ne false hkj] at h1
  · rintro ⟨j, h1, h2, h3⟩
    exact ⟨j, getD_set_true h1, h2, h3⟩

/-- Whatever order is picked, and T holds behind each operation. -/
def wpAnyL (P : Program) (ops : Array Oper) (Q : Exit → Act → World → Prop) (T : Array Bool → World → Prop) : Nat → Array Bool → Act → World → Prop
  | 0, L, a, w => Region.ready .any ops L = [] ∧ Q .normal a w
  | d + 1, L, a, w => (Region.ready .any ops L = [] → Q .normal a w) ∧
    ∀ i ∈ Region.ready .any ops L, wpOp P ops Q i (fun a' w' => T (L.setIfInBounds i true) w' ∧ wpAnyL P ops Q T d (L.setIfInBounds i true) a' w') a w

theorem wpAny_of_L {Q : Exit → Act → World → Prop} {T : Array Bool → World → Prop} : ∀ (d : Nat) (L : Array Bool) (a : Act) (w : World), wpAnyL P ops Q T d L a w → wpAny P .any ops Q d L a w
  | 0, _, _, _, h => h
  | d + 1, L, _, _, h => ⟨h.1, fun i hi => wpOp_mono (fun a' w' h' => wpAny_of_L d _ a' w' h'.2) (h.2 i hi)⟩

theorem wpAnyL_mono {Q : Exit → Act → World → Prop} {T T' : Array Bool → World → Prop} (ht : ∀ L w, T' L w → T L w) : ∀ (d : Nat) (L : Array Bool) (a : Act) (w : World), wpAnyL P ops Q T' d L a w → wpAnyL P ops Q T d L a w
  | 0, _, _, _, h => h
  | d + 1, L, _, _, h => ⟨h.1, fun i hi => wpOp_mono (fun a' w' h' => ⟨ht _ _ h'.1, wpAnyL_mono ht d _ a' w' h'.2⟩) (h.2 i hi)⟩

theorem wpAnyL_take {i : Nat} {oi : Oper} {v : Value} {Q : Exit → Act → World → Prop} {T : Array Bool → World → Prop} {f : World → Prop} (hi : ops[i]? = some oi) (hsel : ∀ (j : Nat) (o : Oper) cs b, ops[j]? = some o → o.op ≠ .select cs b)
    (hQ : ∀ c a w, Q (.panic c) (a.put oi.dst v) w → Q (.panic c) a w) (hpr : isPR (cls P oi) = true) (hT : ∀ L w, T (L.setIfInBounds i true) w → T L w) :
    ∀ (d : Nat) (L : Array Bool) (a : Act) (w : World),
      (∀ j oj, ops[j]? = some oj → j ≠ i → L.getD j true = false → (∀ e ∈ oj.after, Region.binds .any e = true → e.on ≠ i) → oi.apart ops oj = true) →
      i ∈ Region.ready .any ops L → Closed ops L → YieldsIf P ops f oi v a → f w → T (L.setIfInBounds i true) w →
      wpAnyL P ops Q (fun L w => T L w ∧ (¬ dead P ops L i → f w)) d (L.setIfInBounds i true) (a.put oi.dst v) w → wpAnyL P ops Q T (d + 1) L a w := by
  have here : ∀ (d : Nat) (L : Array Bool) (a : Act) (w : World), YieldsIf P ops f oi v a → f w → T (L.setIfInBounds i true) w →
      wpAnyL P ops Q (fun L w => T L w ∧ (¬ dead P ops L i → f w)) d (L.setIfInBounds i true) (a.put oi.dst v) w →
      wpOp P ops Q i (fun a' w' => T (L.setIfInBounds i true) w' ∧ wpAnyL P ops Q T d (L.setIfInBounds i true) a' w') a w := fun d L a w hy hf ht H =>
    hy.wpOp hi hf ⟨ht, wpAnyL_mono (fun _ _ h => h.1) _ _ _ _ H⟩
  intro d
  induction d with
  | zero =>
    intro L a w _ hr hc hy hf ht H
    refine ⟨fun h => (by rw [h] at hr; cases hr), fun j hj => ?_⟩
    by_cases hji : j = i
    · subst hji; exact here _ _ _ _ hy hf ht H
    · have := ready_mono hj hji
      rw [H.1] at this
      cases this
  | succ d ih =>
    intro L a w hfree hr hc hy hf ht H
    refine ⟨fun h => (by rw [h] at hr; cases hr), fun j hj => ?_⟩
    by_cases hji : j = i
    · subst hji; exact here _ _ _ _ hy hf ht H
    · have h1 := H.2 j (ready_mono hj hji)
      obtain ⟨hjun, oj, hoj, hall⟩ := mem_ready.1 hj
      have hiun := (mem_ready.1 hr).1
      have hnot : ∀ e ∈ oj.after, Region.binds .any e = true → e.on ≠ i := fun e he hb heq => by
        have h1 := hall e he hb
        rw [heq, getD_ff hiun] at h1
        cases h1
      have h2 := wpOp_putIf hoj (hfree j oj hoj hji hjun hnot) (fun cs b => hsel i oi cs b hi) (fun cs b => hsel j oj cs b hoj) hQ hy h1
      have hfree' : ∀ k ok, ops[k]? = some ok → k ≠ i → (L.setIfInBounds j true).getD k true = false →
          (∀ e ∈ ok.after, Region.binds .any e = true → e.on ≠ i) → oi.apart ops ok = true := fun k ok hk hki hun hno => by
        refine hfree k ok hk hki ?_ hno
        by_cases hjk : j = k
        · subst hjk; exact hjun
        · rw [getD_set_ne true hjk] at hun; exact hun
      have hcl := closed_set hc hj
      have hnd : ¬ dead P ops ((L.setIfInBounds i true).setIfInBounds j true) i := by
        rw [Array.setIfInBounds_comm _ _ (Ne.symm hji), dead_set hi hpr]
        rintro ⟨j', h1, _, h3⟩
        have := dep_listed hcl h1 h3
        rw [getD_set_ne false hji, getD_ff hiun] at this
        cases this
      refine wpOp_mono (fun a' w' h3 => ?_) h2
      obtain ⟨hy', ⟨ht', hf'⟩, H'⟩ := h3
      have hf' := hf' hnd
      rw [Array.setIfInBounds_comm _ _ (Ne.symm hji)] at ht' H'
      exact ⟨hT _ _ ht', ih (L.setIfInBounds j true) a' w' hfree' (ready_mono hr (Ne.symm hji)) hcl hy' hf' ht' H'⟩

theorem depAll_spec {j : Nat} : ∀ {l : List Nat}, depAll ops j l = true → ∀ i ∈ l, (depMask ops i).testBit j = true
  | [], _, i, hi => by cases hi
  | x :: r, h, i, hi => by
    simp only [depAll, Bool.and_eq_true] at h
    rcases List.mem_cons.1 hi with rfl | hi
    · exact h.1
    · exact depAll_spec h.2 i hi

def Inv (P : Program) (ops : Array Oper) (L : Array Bool) (hl rl : List Nat) (S : World → Prop) (T : Array Bool → World → Prop) : Prop :=
  ∀ L' w', (∀ j, L.getD j false = true → L'.getD j false = true) → (∀ i ∈ rl, dead P ops L' i) → (S w' ∨ ∀ i ∈ hl, dead P ops L' i) → T L' w'

theorem compAny_sound {Q : Post} {QX : Exit → Act → World → Prop} {k : Ov → Prog} (hfs : ∀ f ∈ fs.l, callOk P f = true) (hsel : Region.noSelect ops = true)
    (hQ : ∀ c a w, ¬ QX (.panic c) a w) (hk : ∀ ov' a' w', Agree n env ov' a' → (k ov').wp P (fun _ => True) w' Q → QX .normal a' w') :
    ∀ (d : Nat) {L : Array Bool} {hl rl : List Nat} {ov : Ov} {a : Act} {w : World} {S : World → Prop} {T : Array Bool → World → Prop}, Agree n env ov a → Closed ops L →
      (∀ i o, ops[i]? = some o → isPR (cls P o) = true → ∀ L w, T (L.setIfInBounds i true) w ↔ T L w) → Inv P ops L hl rl S T → T L w → S w →
      (compAny P n fs ops env d L hl rl ov k).wp P S w Q → wpAnyL P ops QX T d L a w
  | 0, L, hl, rl, ov, a, w, S, T, ha, hc, hT, hI, ht, hS, h => by
    unfold compAny at h
    split at h
    · rename_i hr; exact ⟨hr, hk _ _ _ ha h⟩
    · exact h.elim
  | d + 1, L, hl, rl, ov, a, w, S, T, ha, hc, hT, hI, ht, hS, h => by
    unfold compAny at h
    split at h
    · rename_i hr; exact ⟨fun _ => hk _ _ _ ha h, by rw [hr]; simp⟩
    · rename_i i r hr
      have mono : ∀ {j : Nat} {hl rl : List Nat} {S : World → Prop} {T : Array Bool → World → Prop}, Inv P ops L hl rl S T → Inv P ops (L.setIfInBounds j true) hl rl S T :=
        fun hI L' w' hL => hI L' w' fun j' hj' => hL j' (getD_set_true hj')
      split at h
      · rename_i j hj
        have hj := freePR_spec hj
        split at h
        · rename_i o ho
          have hjr : j ∈ Region.ready .any ops L := by rw [hr]; exact hj.1
          have hQ' : ∀ v, ∀ c a w, QX (.panic c) (a.put o.dst v) w → QX (.panic c) a w := fun v c a w h => absurd h (hQ _ _ _)
          have hcl := closed_set hc hjr
          have hPR : isPR (cls P o) = true := hj.2.2 o ho
          have hT' : ∀ f : World → Prop, ∀ i o, ops[i]? = some o → isPR (cls P o) = true → ∀ L w, (T (L.setIfInBounds i true) w ∧ (¬ dead P ops (L.setIfInBounds i true) j → f w)) ↔ (T L w ∧ (¬ dead P ops L j → f w)) :=
            fun f i o hi ho L w => by rw [hT i o hi ho L w, dead_set hi ho]
          have go : ∀ {v ov'} {S' f : World → Prop} {hl' rl' : List Nat}, YieldsIf P ops f o v a → Agree n env ov' (a.put o.dst v) → f w → S' w → Inv P ops (L.setIfInBounds j true) hl' rl' S' (fun L w => T L w ∧ (¬ dead P ops L j → f w)) →
              (compAny P n fs ops env d (L.setIfInBounds j true) hl' rl' ov' k).wp P S' w Q → wpAnyL P ops QX T (d + 1) L a w := fun hy ha' hf hS' hI' h' =>
            wpAnyL_take ho (Region.noSelect_spec hsel) (hQ' _) hPR (fun L w h => (hT j o ho hPR L w).1 h) d L a w (Region.free_spec ho hj.2.1) hjr hc hy hf ((hT j o ho hPR L w).2 ht)
              (compAny_sound hfs hsel hQ hk d ha' hcl (hT' _) hI' ⟨(hT j o ho hPR L w).2 ht, fun _ => hf⟩ hS' h')
          simp only [cond_eq_ite] at h
          split at h
          · rename_i hp
            obtain ⟨v, ov', S', ha', hy, _, _, _, _, _, h'⟩ := stepPR_sound (dr := true) ha hS h
            obtain ⟨hy1, rfl⟩ := hy hp
            exact go (f := fun _ => True) hy1 ha' trivial hS (fun L' w' hL h1 h2 => ⟨mono hI L' w' hL h1 h2, fun _ => trivial⟩) h'
          · split at h
            · obtain ⟨v, ov', S', ha', _, _, hy, _, _, hd, h'⟩ := stepPR_sound (dr := false) ha hS h
              obtain rfl := hd rfl
              refine go (f := (· = w)) hy ha' rfl hS (fun L' w' hL h1 h2 => ⟨mono hI L' w' hL (fun i hi => h1 i (List.mem_cons_of_mem _ hi)) h2, fun h3 => absurd (h1 j (List.mem_cons_self ..)) h3⟩) h'
            · obtain ⟨v, ov', S', ha', _, hy, _, hS', hSS, _, h'⟩ := stepPR_sound (dr := true) ha hS h
              refine go (f := S') (hy rfl) ha' hS' hS' (fun L' w' hL h1 h2 => ⟨mono hI L' w' hL h1 ?_, fun h3 => ?_⟩) h'
              · rcases h2 with h2 | h2
                · exact .inl (hSS _ h2)
                · exact .inr fun i hi => h2 i (List.mem_cons_of_mem _ hi)
              · rcases h2 with h2 | h2
                · exact h2
                · exact absurd (h2 j (List.mem_cons_self ..)) h3
        · exact h.elim
      · refine ⟨fun h0 => (by rw [h0] at hr; cases hr), fun j hj => ?_⟩
        have hjL : (L.setIfInBounds j true).getD j false = true := by
          have := (mem_ready.1 hj).1
          rcases Nat.lt_or_ge j L.size with h' | h'
          · simp [h']
          · simp [Array.getElem?_eq_none h'] at this
        rw [hr] at hj
        have h' := bothAll_spec h j hj
        rw [← hr] at hj
        have hcl := closed_set hc hj
        split at h'
        · rename_i o ho
          have go : ∀ {S' : World → Prop} {hl' rl' : List Nat}, S' w → (∀ w', S' w' → T (L.setIfInBounds j true) w') → Inv P ops (L.setIfInBounds j true) hl' rl' S' T →
              (opW P n fs ops env ov o fun ov' => compAny P n fs ops env d (L.setIfInBounds j true) hl' rl' ov' k).wp P S' w Q →
              wpOp P ops QX j (fun a' w' => T (L.setIfInBounds j true) w' ∧ wpAnyL P ops QX T d (L.setIfInBounds j true) a' w') a w := fun hS' hST hI' h' =>
            opW_sound hfs ho hS' ha h' _ fun ov' a' w' ha' hS'' h'' => ⟨hST w' hS'', compAny_sound hfs hsel hQ hk d ha' hcl hT hI' (hST w' hS'') hS'' h''⟩
          have sub : ∀ j', L.getD j' false = true → (L.setIfInBounds j true).getD j' false = true := fun j' h => getD_set_true h
          simp only [cond_eq_ite] at h'
          split at h'
          · rename_i hp
            split at h'
            · exact go hS (fun w' hw' => hI _ w' sub (fun i hi => by cases hi) (.inl hw')) (mono hI) h'
            · exact h'.elim
          · rename_i hp
            have hdead : ∀ {l : List Nat}, depAll ops j l = true → ∀ L' : Array Bool, L'.getD j false = true → ∀ i ∈ l, dead P ops L' i := fun hd L' hL i hi =>
              ⟨j, hL, ⟨o, ho, by simpa using hp⟩, depAll_spec hd i hi⟩
            split at h'
            · rename_i hrl
              have hrl := hdead hrl
              split at h'
              · exact go hS (fun w' hw' => hI _ w' sub (hrl _ hjL) (.inl hw')) (fun L' w' hL h1 h2 => hI L' w' (fun j' hj' => hL j' (sub j' hj')) (hrl L' (hL j hjL)) h2) h'
              · split at h'
                · rename_i hhl
                  have hhl := hdead hhl
                  refine go (S' := fun _ => True) trivial (fun w' _ => hI _ w' sub (hrl _ hjL) (.inr (hhl _ hjL))) (fun L' w' hL h1 h2 => hI L' w' (fun j' hj' => hL j' (sub j' hj')) (hrl L' (hL j hjL)) (.inr (hhl L' (hL j hjL)))) h'
                · exact go hS (fun w' hw' => hI _ w' sub (hrl _ hjL) (.inl hw')) (mono hI) h'
            · exact h'.elim
        · exact h'.elim

end

/-! ### Code -/

abbrev Outs := List (Nat × Sh1)

structure Hints where
  cnd : List (Nat × Outs)
  blk : List (Nat × Outs)
  reg : List (Nat × Outs)
  lps : List (Nat × Outs)

def hget : List (Nat × Outs) → Nat → Option Outs
  | [], _ => none
  | (t, x) :: r, s => bif Nat.beq t s then some x else hget r s

def shs : Outs → List Sh1
  | [] => []
  | (_, s) :: r => s :: shs r

def outVals (env : Env) : List Nat → Option (List Value)
  | [] => some []
  | s :: r => match env.get s, outVals env r with
    | some b, some vs => some (b.v :: vs)
    | _, _ => none

def slots : Outs → List Nat
  | [] => []
  | (t, _) :: r => t :: slots r

/-- Where a result lies: in a slot, or in memory. -/
inductive RV where
  | tmp (t : Nat) | cell (t : Nat) (ty : TypeId)

def retGo (P : Program) (env : Env) : List RV → List Value → Prog
  | [], acc => .done 0 acc.reverse
  | .tmp t :: r, acc => match env.get t with
    | some b => retGo P env r (b.v :: acc)
    | none => .fail 44
  | .cell t ty :: r, acc => match env.get t, sh1 P ty with
    | some (.adr a), some s => .read True (Instr.loadAt ty (.pointer (some a))) (.one s) fun x => retGo P env r ((Sh.one s).mk x :: acc)
    | _, _ => .fail 45

def leaf (d : Nat) (ts : List Nat) (env : Env) : Prog :=
  match outVals env ts with
  | some vs => .done d vs
  | none => .fail 31

def entB : Sh1 → Value → Base
  | .one .any, v => .any v
  | .one .adr, v => match v with
    | .pointer (some a) => .adr a
    | v => .val v
  | _, v => .val v

def outEnv : Outs → List Value → Env
  | (t, s) :: r, v :: vs => (t, some (entB s v)) :: outEnv r vs
  | _, _ => []

def filt (m : Nat) : Env → Env
  | [] => []
  | (t, e) :: r => bif m.testBit t then filt m r else (t, e) :: filt m r

def joinEnv (m : Nat) (outs : Outs) (vs : List Value) (env : Env) : Env := outEnv outs vs ++ filt m env

def opsMask : List Oper → Nat
  | [] => 0
  | o :: r => match o.dst with
    | some d => (1 <<< d) ||| opsMask r
    | none => opsMask r

def wmask : Code → Nat
  | .region _ ops _ => opsMask ops.toList
  | .seq x y => wmask x ||| wmask y
  | .cond _ x y => wmask x ||| wmask y
  | .block _ x => wmask x
  | .loop x => wmask x
  | _ => 0

def ovOk (m : Nat) : Ov → Bool
  | [] => true
  | (t, _) :: r => m.testBit t && ovOk m r

def expOv : Ov → Env → Env
  | [], env => env
  | (t, e) :: r, env => (t, match e.g with | none => some e.b | some _ => none) :: expOv r env

def unPr : (p : Pr) → Value → Option p.D
  | .int k, v => match v with
    | .int k' n => if k = k' then some n else none
    | _ => none
  | .bool, v => match v with
    | .bool b => some b
    | _ => none
  | .str, v => match v with
    | .string s => some s
    | _ => none
  | .ptr, v => match v with
    | .pointer o => some o
    | _ => none
  | .adr, v => match v with
    | .pointer (some a) => some a
    | _ => none
  | .slc, v => match v with
    | .slice a l c => some ⟨a, l, c⟩
    | _ => none
  | .map, v => match v with
    | .map r => some r
    | _ => none
  | .any, v => some v

def unHL : (ps : List Pr) → List Value → Option (HL ps)
  | [], [] => some ()
  | p :: ps, v :: vs => match unPr p v, unHL ps vs with
    | some x, some y => some (x, y)
    | _, _ => none
  | _, _ => none

/-- The cells of values of such shapes. -/
def flatV : List Sh1 → List Value → Option (List Value)
  | [], [] => some []
  | .one _ :: r, v :: vs => match flatV r vs with
    | some l => some (v :: l)
    | none => none
  | .agg ps :: r, v :: vs => match v, flatV r vs with
    | .agg cs, some l => bif Nat.beq cs.toList.length ps.length then some (cs.toList ++ l) else none
    | _, _ => none
  | _, _ => none

abbrev Ctx := List (Nat × (Env → Prog))

def cget : Ctx → Nat → Option (Env → Prog)
  | [], _ => none
  | (t, x) :: r, s => bif Nat.beq t s then some x else cget r s

def regGo (P : Program) (n : Nat) (fs : Fs) (ops : Array Oper) (draw : Bool) (env : Env) (k : Env → Prog) : Prog :=
  match draw with
  | false => compOps P n fs ops env (List.range ops.size) [] fun ov => bif ovOk (opsMask ops.toList) ov then k (expOv ov env) else .fail 32
  | true => bif Region.noSelect ops then
      .tick (compAny P n fs ops env ops.size (Array.replicate ops.size false) [] [] [] fun ov => bif ovOk (opsMask ops.toList) ov then k (expOv ov env) else .fail 33)
    else .fail 34

def outsIn (m : Nat) : List Nat → Bool
  | [] => true
  | t :: r => m.testBit t && outsIn m r

/-- A piece whose ways meet again: what they hand on is told by 'outs'. -/
def joined (d m : Nat) (outs : Outs) (env : Env) (p : Prog) (k : Env → Prog) : Prog :=
  bif outsIn m (slots outs) then .bind d (shs outs) p fun x => k (joinEnv m outs (valsOf (shs outs) x) env) else .fail 42

/-- The key of a 'cond': its slot, and which slots its arms write. -/
def condKey (c : Operand) (m : Nat) : Nat := match c with
  | .tmp t => t + 4096 * m
  | _ => 0

def comp (P : Program) (n : Nat) (fs : Fs) (H : Hints) (rv : List RV) : Code → Nat → Nat → Env → Ctx → (Env → Prog) → Prog
  | .skip, _, _, env, _, k => k env
  | .ret, _, _, env, _, _ => retGo P env rv []
  | .exit id, _, _, env, ctx, _ => match cget ctx id with
    | some k' => k' env
    | none => .fail 35
  | .seq x y, d, b, env, ctx, k => comp P n fs H rv x d b env ctx fun env' => comp P n fs H rv y d b env' ctx k
  | .region id ops draw, d, _, env, _, k => match hget H.reg id with
    | none => regGo P n fs ops draw env k
    | some outs => joined d (opsMask ops.toList) outs env (regGo P n fs ops draw env (leaf d (slots outs))) k
  | .cond c x y, d, b, env, ctx, k => match opE env [] none c with
    | some (.lit (.bool t)) => match t with
      | true => comp P n fs H rv x d b env ctx k
      | false => comp P n fs H rv y d b env ctx k
    | some (.val (.bool t)) => match hget H.cnd (condKey c (wmask x ||| wmask y)) with
      | none => .ite t (comp P n fs H rv x d b env ctx k) (comp P n fs H rv y d b env ctx k)
      | some outs => joined d (wmask x ||| wmask y) outs env
          (.ite t (comp P n fs H rv x (d + 1) b env ctx (leaf d (slots outs))) (comp P n fs H rv y (d + 1) b env ctx (leaf d (slots outs)))) k
    | _ => .fail 36
  | .block id x, d, _, env, ctx, k => match hget H.blk id with
    | none => comp P n fs H rv x d id env ((id, k) :: ctx) k
    | some outs => joined d (wmask x) outs env (comp P n fs H rv x (d + 1) id env ((id, leaf d (slots outs)) :: ctx) (leaf d (slots outs))) k
  | .loop x, d, b, env, ctx, _ => match hget H.lps b with
    | some outs => match outVals env (slots outs) with
      | some vs => match flatV (shs outs) vs with
        | some fl => match unHL (prims (shs outs)) fl with
          | some x0 => bif outsIn (wmask x) (slots outs) then
              .loop d (shs outs) x0 fun v => comp P n fs H rv x (d + 1) b (joinEnv (wmask x) outs (valsOf (shs outs) v) env) ctx (leaf d (slots outs))
            else .fail 42
          | none => .fail 37
        | none => .fail 38
      | none => .fail 39
    | none => .fail 40
  | _, _, _, _, _, _ => .fail 41

end Go.Dec
