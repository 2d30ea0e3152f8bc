/- Isolation: views: what they hold; New, Next. Looks into maps of structs. Isolation: Stable, Open, Fallen, Fate. Isolation: Fate, Pick, may, May. Isolation: Take. -/
import Derived.Test.YtpjfebedfejmgaaGreatK1
import Derived.Test.YtpjfebedfejmgaaGreatS2
import Derived.Test.YtpjfebedfejmgaaGreatR2
namespace Go.Dec
set_option linter.unusedVariables false
set_option linter.unusedSimpArgs false

/-! ### Looks -/
theorem nodup_val {K V : Type} {kk : K} {v v' : V} : ∀ {es : List (K × V)}, (es.map Prod.fst).Nodup → (kk, v) ∈ es → (kk, v') ∈ es → v' = v
  | a :: r, hnd, hv, hv' => by
    rw [List.map_cons, List.nodup_cons] at hnd
    rcases List.mem_cons.1 hv with h1 | h1 <;> rcases List.mem_cons.1 hv' with h2 | h2
    · rw [← h1] at h2; exact (Prod.mk.inj h2).2
    · exact absurd (List.mem_map.2 ⟨_, h2, by rw [← h1]⟩) hnd.1
    · exact absurd (List.mem_map.2 ⟨_, h1, by rw [← h2]⟩) hnd.1
    · exact nodup_val hnd.2 h1 h2
section
variable {K V : Type} {ek : K → Value} {ev : V → Value} {m : Nat} {es : List (K × V)} {P : Program} {w : World} {l r : List HP} {Q : Post} {S : World → Prop} {T kt : TypeId} {z : Value} {g : Prop} {kk : K} {kv : Value}

theorem look_in [hf : FoM l m ek ev es r] [hT : MapT P T kt z] [hk : KeyT P kt ek] [hkv : IsK ek kv kk] (hs : Sat w l) {v : V} (hv : (kk, v) ∈ es) {ss : List Sh1} {x : HL (prims ss)} (hx : valsOf ss x = [ev v, .bool true]) :
    (Instr.lookup T (.map (some m)) kv true).run P w = .ok ((Sh.tup ss).mk x) w := by
  have hs := hs.perm hf.perm
  have hnd := hs.mapNodup
  rcases run_look (P := P) (T := T) true hs kk with ⟨v', hv', hr⟩ | ⟨hno, -⟩
  · have : v' = v := nodup_val hnd hv hv'
    rw [hkv.ok, hr, this]
    show Result.ok (Value.tuple #[ev v, .bool true]) w = Result.ok (Value.tuple (valsOf ss x).toArray) w
    rw [hx]
  · exact absurd hv (hno _)
theorem look_out [hf : FoM l m ek ev es r] [hT : MapT P T kt z] [hk : KeyT P kt ek] [hkv : IsK ek kv kk] (hs : Sat w l) (hv : ∀ v, (kk, v) ∉ es) {ss : List Sh1} {x : HL (prims ss)} (hx : valsOf ss x = [z, .bool false]) :
    (Instr.lookup T (.map (some m)) kv true).run P w = .ok ((Sh.tup ss).mk x) w := by
  have hs := hs.perm hf.perm
  rcases run_look (P := P) (T := T) true hs kk with ⟨v', hv', hr⟩ | ⟨-, hr⟩
  · exact absurd hv' (hv _)
  · rw [hkv.ok, hr]
    show Result.ok (Value.tuple #[z, .bool false]) w = Result.ok (Value.tuple (valsOf ss x).toArray) w
    rw [hx]

/-- What is there at a key: its value, or zero. -/
theorem wp_lookH {ss : List Sh1} {k : HL (prims ss) → Prog} [hf : FoM l m ek ev es r] [hT : MapT P T kt z] [hk : KeyT P kt ek] [hkv : IsK ek kv kk] (hs : Sat w l) (o : Option V) (ho : (∃ v, o = some v ∧ (kk, v) ∈ es) ∨ (o = none ∧ ∀ v, (kk, v) ∉ es)) (d : Option V → HL (prims ss))
    (h : (k (d o)).wp P (fun w' => S w' ∧ (g → (Instr.lookup T (.map (some m)) kv true).run P w' = .ok ((Sh.tup ss).mk (d o)) w')) w Q) (h1 : ∀ v, valsOf ss (d (some v)) = [ev v, .bool true] := by intros; rfl) (h0 : valsOf ss (d none) = [z, .bool false] := by rfl) :
    (Prog.hold g (Instr.lookup T (.map (some m)) kv true) (.tup ss) k).wp P S w Q := by
  refine ⟨d o, fun _ => ?_, h⟩
  rcases ho with ⟨v, rfl, hv⟩ | ⟨rfl, hv⟩
  · exact look_in hs hv (h1 v)
  · exact look_out hs hv h0
theorem look_keep {ss : List Sh1} [hf : FoM l m ek ev es r] [hT : MapT P T kt z] [hk : KeyT P kt ek] [hkv : IsK ek kv kk] (hs : Sat w l) {o : Option V} (ho : (∃ v, o = some v ∧ (kk, v) ∈ es) ∨ (o = none ∧ ∀ v, (kk, v) ∉ es)) (d : Option V → HL (prims ss))
    (h1 : ∀ v, valsOf ss (d (some v)) = [ev v, .bool true] := by intros; rfl) (h0 : valsOf ss (d none) = [z, .bool false] := by rfl) :
    (Instr.lookup T (.map (some m)) kv true).run P w = .ok ((Sh.tup ss).mk (d o)) w := by
  rcases ho with ⟨v, rfl, hv⟩ | ⟨rfl, hv⟩
  · exact look_in hs hv (h1 v)
  · exact look_out hs hv h0
end

/-! ### Views -/
structure ViewA where
  next : Int
  op : List TxnA
  fa : List TxnA
abbrev evX (t : TxnA) : Value := .agg #[.int .i64 t.pid, .int .i64 t.epoch, .int .i64 t.first, .int .i64 t.last]
def opF (A : ViewA) (pid : Int) : Option TxnA := A.op.find? fun t => decide (t.pid = pid)
def faF (A : ViewA) (pid epoch : Int) : Option TxnA := A.fa.find? fun t => decide (t.pid = pid ∧ t.epoch = epoch)
def stableA (A : ViewA) : Int := match A.op with
  | [] => A.next
  | t :: _ => t.first
structure okT (t : TxnA) (next : Int) : Prop where
  pid : 1 ≤ t.pid ∧ t.pid ≤ 1048576
  epoch : 0 ≤ t.epoch ∧ t.epoch ≤ 32767
  first : 0 ≤ t.first ∧ t.first < next
structure okV (A : ViewA) : Prop where
  next : 0 ≤ A.next ∧ A.next ≤ 1099511627777
  many : A.op.length ≤ 1024 ∧ A.fa.length ≤ 4096
  op : ∀ t ∈ A.op, okT t A.next ∧ t.last = -1
  fa : ∀ t ∈ A.fa, okT t A.next ∧ t.first < t.last ∧ t.last < A.next
  byFirst : A.op.Pairwise fun a b => a.first < b.first
  byLast : A.fa.Pairwise fun a b => a.last < b.last
  pids : (A.op.map (·.pid)).Nodup
  keys : (A.fa.map fun t => (t.pid, t.epoch)).Nodup
  apart : ∀ t ∈ A.op, ∀ u ∈ A.fa, ¬ (t.pid = u.pid ∧ t.epoch = u.epoch)

def opK (A : ViewA) : List (Int × TxnA) := A.op.map fun t => (t.pid, t)
def faK (A : ViewA) : List ((Int × Int) × TxnA) := A.fa.map fun t => ((t.pid, t.epoch), t)
def vw (v : Nat) (A : ViewA) : HP := HP.ex fun M : Nat × Nat => HP.and (okV A) (HP.star (pt v (.cells #[.int .i64 A.next, .map (some M.1), .map (some M.2)] T.iso_View))
  (HP.star (mapP ekI evX M.1 (opK A)) (mapP ekK evX M.2 (faK A))))

section
variable {w : World} {l r r1 r2 r3 l' : List HP} {v : Nat} {A : ViewA}

theorem vw_open (hs : Sat w (vw v A :: l)) : ∃ m1 m2 : Nat, okV A ∧ Sat w (pt v (.cells #[.int .i64 A.next, .map (some m1), .map (some m2)] T.iso_View) :: mapP ekI evX m1 (opK A) :: mapP ekK evX m2 (faK A) :: l) := by
  obtain ⟨⟨m1, m2⟩, hs⟩ := hs.ex
  obtain ⟨hok, hs⟩ := hs.and
  have hs := hs.star
  have hs := (hs.pick [1]).star
  exact ⟨m1, m2, hok, hs.pick [2, 0, 0]⟩
theorem vw_close (m1 m2 : Nat) (hok : okV A) (hs : Sat w l) {es1 : List (Int × TxnA)} {es2 : List ((Int × Int) × TxnA)} [h1 : FocB l v (.cells [.int .i64 A.next, .map (some m1), .map (some m2)].toArray T.iso_View) r1] [h2 : FoM r1 m1 ekI evX es1 r2] [h3 : FoM r2 m2 ekK evX es2 r3] [h4 : Sub r3 l']
    (hp1 : es1.Perm (opK A) := by exact .refl _) (hp2 : es2.Perm (faK A) := by exact .refl _) : Sat w (vw v A :: l') := by
  have hs := hs.perm (h1.perm.trans (.cons _ (h2.perm.trans (.cons _ h3.perm))))
  have hs := ((hs.pick [1]).mapPerm hp1)
  have hs := ((hs.pick [2]).mapPerm hp2)
  -- the parts: second map, first map, block
  have hs : Sat w (vw v A :: r3) := by
    refine .ex_mk (m1, m2) (.and_mk hok (.star_mk ?_))
    refine (Sat.star_mk (hs.pick [1, 0])).pick [1]
  exact hs.sub

theorem opF_some {pid : Int} {t : TxnA} (h : opF A pid = some t) : t ∈ A.op ∧ t.pid = pid := ⟨List.mem_of_find?_eq_some h, by simpa using List.find?_some h⟩
theorem opF_none {pid : Int} (h : opF A pid = none) : ∀ t ∈ A.op, t.pid ≠ pid := fun t ht => by simpa using List.find?_eq_none.1 h t ht
theorem faF_some {pid epoch : Int} {t : TxnA} (h : faF A pid epoch = some t) : t ∈ A.fa ∧ t.pid = pid ∧ t.epoch = epoch := ⟨List.mem_of_find?_eq_some h, by simpa using List.find?_some h⟩
theorem faF_none {pid epoch : Int} (h : faF A pid epoch = none) : ∀ t ∈ A.fa, ¬ (t.pid = pid ∧ t.epoch = epoch) := fun t ht => by simpa using List.find?_eq_none.1 h t ht
theorem opF_look (A : ViewA) (pid : Int) : (∃ t, opF A pid = some t ∧ (pid, t) ∈ opK A) ∨ (opF A pid = none ∧ ∀ t, (pid, t) ∉ opK A) := by
  cases h : opF A pid with
  | some t => exact .inl ⟨t, rfl, List.mem_map.2 ⟨t, (opF_some h).1, by rw [(opF_some h).2]⟩⟩
  | none => exact .inr ⟨rfl, fun t ht => by
      obtain ⟨u, hu, e⟩ := List.mem_map.1 ht
      simp only [Prod.mk.injEq] at e
      exact opF_none h u hu e.1⟩
theorem faF_look (A : ViewA) (pid epoch : Int) : (∃ t, faF A pid epoch = some t ∧ ((pid, epoch), t) ∈ faK A) ∨ (faF A pid epoch = none ∧ ∀ t, ((pid, epoch), t) ∉ faK A) := by
  cases h : faF A pid epoch with
  | some t => exact .inl ⟨t, rfl, List.mem_map.2 ⟨t, (faF_some h).1, by rw [(faF_some h).2.1, (faF_some h).2.2]⟩⟩
  | none => exact .inr ⟨rfl, fun t ht => by
      obtain ⟨u, hu, e⟩ := List.mem_map.1 ht
      simp only [Prod.mk.injEq] at e
      exact faF_none h u hu e.1⟩

theorem inew_c (hs : Sat w l) : Ret P F.iso_New #[] w fun vs w' => ∃ v, vs = [.pointer (some ⟨v, 0, none⟩)] ∧ Sat w' (vw v ⟨0, [], []⟩ :: l) :=
  iso_New_calls <| by
    unfold iso_New
    refine wp_mmake ekI evX hs fun m1 w' hs => ?_
    refine wp_mmake ekK evX hs fun m2 w' hs => ?_
    refine wp_boxO hs fun v w' hs => ?_
    refine ⟨rfl, v, rfl, ?_⟩
    exact vw_close m1 m2 (A := ⟨0, [], []⟩) ⟨by show (0 : Int) ≤ 0 ∧ (0 : Int) ≤ _; omega, by simp, by simp, by simp, by simp, by simp, by simp, by simp, by simp⟩ hs

theorem inext_c [hf : Fo l vw v A r] (hs : Sat w l) : Ret P F.iso_View_Next #[.pointer (some ⟨v, 0, none⟩)] w fun vs w' => vs = [.int .i64 A.next] ∧ Sat w' (vw v A :: r) :=
  iso_View_Next_calls _ <| by
    unfold iso_View_Next
    obtain ⟨m1, m2, hok, hs⟩ := vw_open (hs.perm hf.perm)
    refine wp_ifF ?_ (by simp)
    (repeat (first | with_reducible (first | refine wp_on ?_ | refine wp_nn ?_ | refine wp_nng ?_ | refine wp_ldO hs ?_ | refine wp_ldG hs ?_ | refine wp_untick ?_ | refine wp_tk hs fun _ hs => ?_ | refine wp_newO hs fun _ _ hs => ?_ | refine wp_boxO hs fun _ _ hs => ?_ | refine wp_stO hs fun _ hs => ?_ | refine wp_stG hs fun _ hs => ?_) | (apply wp_must; (focus first | trivial | omega | assumption)) | refine wp_ltw ?_ | refine wp_lt ?_))
    exact ⟨rfl, rfl, vw_close m1 m2 hok hs⟩

end
end Go.Dec

namespace Go.Dec
set_option linter.unusedVariables false
set_option linter.unusedSimpArgs false

theorem sorted_eq {f : TxnA → Int} : ∀ {a b : List TxnA}, a.Perm b → (a.Pairwise fun x y => f x ≤ f y) → (b.Pairwise fun x y => f x < f y) → a = b
  | a, [], hp, _, _ => hp.eq_nil
  | [], y :: b, hp, _, _ => absurd hp.symm.eq_nil (by simp)
  | x :: a, y :: b, hp, ha, hb => by
    rw [List.pairwise_cons] at ha hb
    have hxy : x = y := by
      have hx : x ∈ y :: b := hp.mem_iff.1 (List.mem_cons_self ..)
      have hy : y ∈ x :: a := hp.mem_iff.2 (List.mem_cons_self ..)
      rcases List.mem_cons.1 hx with h | h
      · exact h
      · rcases List.mem_cons.1 hy with h2 | h2
        · exact h2.symm
        · have h3 := hb.1 x h
          have h4 := ha.1 y h2
          omega
    subst hxy
    rw [sorted_eq (List.Perm.cons_inv hp) ha.2 hb.2]

theorem stable_is {A : ViewA} (hok : okV A) {n : Int} (h1 : n ≤ A.next) (h2 : ∀ t ∈ A.op, n ≤ t.first) (h3 : n = A.next ∨ ∃ t ∈ A.op, n = t.first) : n = stableA A := by
  unfold stableA
  cases hop : A.op with
  | nil =>
    rcases h3 with h | ⟨t, ht, -⟩
    · exact h
    · rw [hop] at ht; cases ht
  | cons u us =>
    dsimp only
    have hu : u ∈ A.op := by rw [hop]; exact List.mem_cons_self ..
    have h4 := h2 u hu
    have h5 := (hok.op u hu).1.first
    rcases h3 with h | ⟨t, ht, rfl⟩
    · omega
    · have hb := hok.byFirst
      rw [hop] at hb ht
      rcases List.mem_cons.1 ht with rfl | ht
      · rfl
      · have := (List.pairwise_cons.1 hb).1 t ht; omega

section
variable {P : Program} {w : World} {Q : Post} {S : World → Prop} {α β γ δ ε ζ : Type}
theorem wp_u5 {f : α → β → γ → δ → ε → Prog} (a : α) (b : β) (c : γ) (d : δ) (e : ε) (h : (f a b c d e).wp P S w Q) : (u5 f (a, b, c, d, e, ())).wp P S w Q := h
theorem wp_u6 {f : α → β → γ → δ → ε → ζ → Prog} (a : α) (b : β) (c : γ) (d : δ) (e : ε) (z : ζ) (h : (f a b c d e z).wp P S w Q) : (u6 f (a, b, c, d, e, z, ())).wp P S w Q := h
end
def lookD (o : Option TxnA) : Int × Int × Int × Int × Bool × Unit := ((o.getD ⟨0, 0, 0, 0⟩).pid, (o.getD ⟨0, 0, 0, 0⟩).epoch, (o.getD ⟨0, 0, 0, 0⟩).first, (o.getD ⟨0, 0, 0, 0⟩).last, o.isSome, ())

section
variable {w : World} {l r r1 r2 r3 l' : List HP} {v : Nat} {A : ViewA}

theorem istable_c [hf : Fo l vw v A r] (hs : Sat w l) : Ret P F.iso_View_Stable #[.pointer (some ⟨v, 0, none⟩)] w fun vs w' => vs = [.int .i64 (stableA A)] ∧ Sat w' (vw v A :: r) :=
  iso_View_Stable_calls _ <| by
    unfold iso_View_Stable
    obtain ⟨m1, m2, hok, hs⟩ := vw_open (hs.perm hf.perm)
    refine wp_ifF ?_ (by simp)
    refine wp_nn ?_
    refine wp_ldO hs ?_
    refine wp_lt ?_
    refine wp_nn ?_
    refine wp_ldO hs ?_
    refine wp_mrange hs fun it w' hs => ?_
    refine wp_mid (fun x w' => x = (stableA A, ()) ∧ Sat w' (vw v A :: r)) ?_ (by rintro _ w' ⟨rfl, hs⟩; refine wp_on ?_; refine wp_lt ?_; exact ⟨rfl, rfl, hs⟩)
    refine wp_loop (fun k x w => ∃ (n : Int) (todo : List (Int × TxnA)) (last : Option (Int × TxnA)), x = (n, ()) ∧ todo.length = k ∧ (∀ y ∈ todo, y ∈ opK A) ∧ n ≤ A.next ∧ (∀ t ∈ A.op, (t.pid, t) ∈ todo ∨ n ≤ t.first) ∧ (n = A.next ∨ ∃ t ∈ A.op, n = t.first) ∧
      Sat w (itP ekI evX it m1 (opK A) todo last :: pt v (.cells #[.int .i64 A.next, .map (some m1), .map (some m2)] T.iso_View) :: mapP ekK evX m2 (faK A) :: r)) (opK A).length
      ⟨A.next, opK A, none, rfl, rfl, fun y hy => hy, Int.le_refl _, fun t ht => .inl (List.mem_map.2 ⟨t, ht, rfl⟩), .inl rfl, hs⟩ ?_
    clear hs
    rintro k _ w ⟨n, todo, last, rfl, hk, hsub, h1, h2, h3, hs⟩
    refine wp_on ?_
    refine wp_mnext hs (fun k t => (k, t.pid, t.epoch, t.first, t.last, ())) (fun kk t todo' w' hp hs => ?_) fun h0 => ?_
    · refine wp_u5 kk t.pid t.epoch t.first t.last ?_
      refine wp_ment hs (kk, t.pid, t.epoch, t.first, t.last, ()) ?_
      refine wp_u5 kk t.pid t.epoch t.first t.last ?_
      refine wp_newO hs fun c w' hs => ?_
      refine wp_stG hs fun w' hs => ?_
      refine wp_ldO hs ?_
      refine wp_lt ?_
      have hmem : (kk, t) ∈ opK A := hsub _ (hp.mem_iff.2 (List.mem_cons_self ..))
      obtain ⟨u, hu, e⟩ := List.mem_map.1 hmem
      simp only [Prod.mk.injEq] at e
      obtain ⟨rfl, rfl⟩ := e
      refine wp_lp todo'.length ?_ (by rw [← hk, hp.length_eq, List.length_cons]; omega)
      refine ⟨_, todo', some (u.pid, u), rfl, rfl, fun y hy => hsub y (hp.mem_iff.2 (List.mem_cons_of_mem _ hy)), by split <;> omega, fun t ht => ?_, ?_, hs.sub⟩
      · rcases h2 t ht with h | h
        · rcases List.mem_cons.1 (hp.mem_iff.1 h) with e | h
          · simp only [Prod.mk.injEq] at e
            right
            rw [e.2]; split <;> omega
          · exact .inl h
        · right; split <;> omega
      · split
        · exact .inr ⟨u, hu, rfl⟩
        · exact h3
    · refine wp_pass (wp_lv ?_)
      subst h0
      have e := stable_is hok h1 (fun t ht => (h2 t ht).resolve_left (by simp)) h3
      rw [e]
      exact ⟨rfl, vw_close m1 m2 hok hs.itDone⟩

theorem told_c (t : TxnA) (hs : Sat w l) : Ret P F.iso_life_told #[.agg (encX t).toArray] w fun vs w' => vs = [.agg (encX t).toArray] ∧ Sat w' l :=
  iso_life_told_calls t.pid t.epoch t.first t.last <| by
    unfold iso_life_told
    refine wp_boxO hs fun a0 w' hs => ?_
    refine wp_newO hs fun a1 w' hs => ?_
    refine wp_ldO hs ?_
    refine wp_ldO hs ?_
    refine wp_ldO hs ?_
    refine wp_ldO hs ?_
    refine wp_stG hs fun w' hs => ?_
    refine wp_ldG hs ?_
    exact ⟨rfl, rfl, hs.tail.tail⟩
instance {t : TxnA} : IsR (sG [.int .i64, .int .i64, .int .i64, .int .i64]) [.agg (encX t).toArray] (t.pid, t.epoch, t.first, t.last, ()) := ⟨rfl⟩

theorem iopen_c [hf : Fo l vw v A r] (hs : Sat w l) : Ret P F.iso_View_Open #[.pointer (some ⟨v, 0, none⟩)] w fun vs w' => ∃ z : Sl, vs = [z.v] ∧ Sat w' (slc T.iso_Txn 4 z (A.op.flatMap encX) :: vw v A :: r) :=
  iso_View_Open_calls _ <| by
    unfold iso_View_Open
    obtain ⟨m1, m2, hok, hs⟩ := vw_open (hs.perm hf.perm)
    have hmany := hok.many
    refine wp_ifF ?_ (by simp)
    refine wp_nn ?_
    refine wp_ldO hs ?_
    refine wp_mrange hs fun it w' hs => ?_
    refine wp_mid (fun x w' => ∃ (z : Sl) (ys : List TxnA), x = (z, ()) ∧ ys.Perm A.op ∧ Sat w' (slc T.iso_Txn 4 z (ys.flatMap encX) :: vw v A :: r)) ?_ ?_
    · refine wp_loop (fun k x w => ∃ (z : Sl) (ys : List TxnA) (todo : List (Int × TxnA)) (last : Option (Int × TxnA)), x = (z, ()) ∧ todo.length = k ∧ (ys ++ todo.map Prod.snd).Perm A.op ∧
        Sat w (slc T.iso_Txn 4 z (ys.flatMap encX) :: itP ekI evX it m1 (opK A) todo last :: pt v (.cells #[.int .i64 A.next, .map (some m1), .map (some m2)] T.iso_View) :: mapP ekK evX m2 (faK A) :: r)) (opK A).length
        ⟨⟨none, 0, 0⟩, [], opK A, none, rfl, rfl, by rw [List.nil_append, opK, List.map_map]; exact .of_eq (List.map_id _), hs.slc_nil⟩ ?_
      clear hs
      rintro k _ w ⟨z, ys, todo, last, rfl, hk, hperm, hs⟩
      have hlen := hperm.length_eq
      rw [List.length_append, List.length_map] at hlen
      refine wp_on ?_
      refine wp_mnext hs (fun k t => (k, t.pid, t.epoch, t.first, t.last, ())) (fun kk t todo' w' hp hs => ?_) fun h0 => ?_
      · refine wp_u5 kk t.pid t.epoch t.first t.last ?_
        refine wp_ment hs (kk, t.pid, t.epoch, t.first, t.last, ()) ?_
        refine wp_u5 kk t.pid t.epoch t.first t.last ?_
        refine wp_newO hs fun c w' hs => ?_
        refine wp_stG hs fun w' hs => ?_
        refine wp_ldG hs ?_
        refine wp_call (told_c t hs) fun _ _ hs => ?_
        obtain ⟨rfl, hs⟩ := hs
        refine ret_of ?_
        refine wp_ap0 hs (xs := ys) (enc := encX) t (fun z w' hs => ?_)
        refine wp_lp todo'.length ?_ (by rw [← hk, hp.length_eq, List.length_cons]; omega)
        refine ⟨z, ys ++ [t], todo', some (kk, t), rfl, rfl, ?_, hs.sub⟩
        rw [List.append_assoc, List.singleton_append]
        exact ((List.Perm.append_left ys (hp.map Prod.snd)).symm).trans hperm
      · refine wp_pass (wp_lv ⟨z, ys, rfl, ?_, ?_⟩)
        · subst h0
          rw [List.map_nil, List.append_nil] at hperm
          exact hperm
        · have hs := (hs.pick [1]).itDone
          have hs : Sat w (vw v A :: slc T.iso_Txn 4 z (ys.flatMap encX) :: r) := vw_close m1 m2 hok hs
          exact hs.pick [1]
    clear hs
    rintro _ w ⟨z, ys, rfl, hperm, hs⟩
    refine wp_on ?_
    have hlen := hperm.length_eq
    refine wp_call (sortF_c byFirst z ys (by omega) hs) fun _ w' h => ?_
    obtain ⟨rfl, ys', hp', hsort, hs⟩ := h
    refine ret_of ?_
    rw [sorted_eq (f := TxnA.first) (hp'.trans hperm) hsort hok.byFirst] at hs
    exact ⟨rfl, z, rfl, hs⟩

theorem ifallen_c [hf : Fo l vw v A r] (hs : Sat w l) : Ret P F.iso_View_Fallen #[.pointer (some ⟨v, 0, none⟩)] w fun vs w' => ∃ z : Sl, vs = [z.v] ∧ Sat w' (slc T.iso_Txn 4 z (A.fa.flatMap encX) :: vw v A :: r) :=
  iso_View_Fallen_calls _ <| by
    unfold iso_View_Fallen
    obtain ⟨m1, m2, hok, hs⟩ := vw_open (hs.perm hf.perm)
    have hmany := hok.many
    refine wp_ifF ?_ (by simp)
    refine wp_nn ?_
    refine wp_ldO hs ?_
    refine wp_mrange hs fun it w' hs => ?_
    refine wp_mid (fun x w' => ∃ (z : Sl) (ys : List TxnA), x = (z, ()) ∧ ys.Perm A.fa ∧ Sat w' (slc T.iso_Txn 4 z (ys.flatMap encX) :: vw v A :: r)) ?_ ?_
    · refine wp_loop (fun k x w => ∃ (z : Sl) (ys : List TxnA) (todo : List ((Int × Int) × TxnA)) (last : Option ((Int × Int) × TxnA)), x = (z, ()) ∧ todo.length = k ∧ (ys ++ todo.map Prod.snd).Perm A.fa ∧
        Sat w (slc T.iso_Txn 4 z (ys.flatMap encX) :: itP ekK evX it m2 (faK A) todo last :: pt v (.cells #[.int .i64 A.next, .map (some m1), .map (some m2)] T.iso_View) :: mapP ekI evX m1 (opK A) :: r)) (faK A).length
        ⟨⟨none, 0, 0⟩, [], faK A, none, rfl, rfl, by rw [List.nil_append, faK, List.map_map]; exact .of_eq (List.map_id _), hs.slc_nil⟩ ?_
      clear hs
      rintro k _ w ⟨z, ys, todo, last, rfl, hk, hperm, hs⟩
      have hlen := hperm.length_eq
      rw [List.length_append, List.length_map] at hlen
      refine wp_on ?_
      refine wp_mnext hs (fun k t => (k.1, k.2, t.pid, t.epoch, t.first, t.last, ())) (fun kk t todo' w' hp hs => ?_) fun h0 => ?_
      · refine wp_u6 kk.1 kk.2 t.pid t.epoch t.first t.last ?_
        refine wp_ment hs (kk.1, kk.2, t.pid, t.epoch, t.first, t.last, ()) ?_
        refine wp_u6 kk.1 kk.2 t.pid t.epoch t.first t.last ?_
        refine wp_newO hs fun c w' hs => ?_
        refine wp_stG hs fun w' hs => ?_
        refine wp_ldG hs ?_
        refine wp_call (told_c t hs) fun _ _ hs => ?_
        obtain ⟨rfl, hs⟩ := hs
        refine ret_of ?_
        refine wp_ap0 hs (xs := ys) (enc := encX) t (fun z w' hs => ?_)
        refine wp_lp todo'.length ?_ (by rw [← hk, hp.length_eq, List.length_cons]; omega)
        refine ⟨z, ys ++ [t], todo', some (kk, t), rfl, rfl, ?_, hs.sub⟩
        rw [List.append_assoc, List.singleton_append]
        exact ((List.Perm.append_left ys (hp.map Prod.snd)).symm).trans hperm
      · refine wp_pass (wp_lv ⟨z, ys, rfl, ?_, ?_⟩)
        · subst h0
          rw [List.map_nil, List.append_nil] at hperm
          exact hperm
        · have hs := (hs.pick [1]).itDone
          have hs : Sat w (vw v A :: slc T.iso_Txn 4 z (ys.flatMap encX) :: r) := vw_close m1 m2 hok hs
          exact hs.pick [1]
    clear hs
    rintro _ w ⟨z, ys, rfl, hperm, hs⟩
    refine wp_on ?_
    have hlen := hperm.length_eq
    refine wp_call (sortF_c byLast z ys (by omega) hs) fun _ w' h => ?_
    obtain ⟨rfl, ys', hp', hsort, hs⟩ := h
    refine ret_of ?_
    rw [sorted_eq (f := TxnA.last) (hp'.trans hperm) hsort hok.byLast] at hs
    exact ⟨rfl, z, rfl, hs⟩

end
end Go.Dec

namespace Go.Dec
set_option linter.unusedVariables false
set_option linter.unusedSimpArgs false

abbrev lkS : List Sh1 := [.agg [.int .i64, .int .i64, .int .i64, .int .i64], .one .bool]

def fateA (A : ViewA) (b : BatM) : Int := if markB b then 3 else if b.base ≥ stableA A then 0 else if b.kind = 1 ∧ (faF A b.pid b.epoch).isSome = true ∧ b.base ≥ ((faF A b.pid b.epoch).getD ⟨0, 0, 0, 0⟩).first then 2 else 1
def pickA (A : ViewA) (bs : List BatM) : List AtM := bs.flatMap fun b => if fateA A b = 1 then flat1 b else []
def mayA (A : ViewA) (b : BatM) : Int := if (faF A b.pid b.epoch).isSome = true then 20 else if (opF A b.pid).isSome = true ∧ ¬ (((opF A b.pid).getD ⟨0, 0, 0, 0⟩).pid = b.pid ∧ ((opF A b.pid).getD ⟨0, 0, 0, 0⟩).epoch = b.epoch) then 22 else
  if b.kind = 1 ∧ (opF A b.pid).isSome = false ∧ A.op.length ≥ 1024 then 5 else if b.kind = 3 ∧ (opF A b.pid).isSome = true ∧ A.fa.length ≥ 4096 then 5 else 0
def codeA (A : ViewA) (b : BatM) : Int := if validB b ≠ 0 then validB b else if b.base < A.next then 8 else if b.kind ≠ 0 then mayA A b else 0
theorem pickA_len (A : ViewA) {n : Nat} : ∀ (bs : List BatM), (∀ b ∈ bs, b.rs.length ≤ n) → (pickA A bs).length ≤ bs.length * n
  | [], _ => by simp [pickA]
  | b :: r, h => by
    have h1 := pickA_len A r fun c hc => h c (List.mem_cons_of_mem _ hc)
    have h2 := flat1_len b
    have h3 := h b (List.mem_cons_self ..)
    unfold pickA at h1 ⊢
    rw [List.flatMap_cons, List.length_append, List.length_cons, Nat.succ_mul]
    have h4 : (if fateA A b = 1 then flat1 b else []).length ≤ b.rs.length := by
      split
      · exact h2
      · exact Nat.zero_le _
    omega

section
variable {P : Program} {w : World} {l r : List HP} {Q : Post} {S : World → Prop} {T T' : TypeId} {g : Prop} {b off : Nat}
/-- Cells of a block, read as a struct. -/
theorem run_ldP {a : Addr} {vs : List Value} {fr : Nat × Nat} {ps : List Pr} (x : HL ps) {n : Nat} (hs : Sat w l) [ha : AddrIs a b off] [hb : FocB l b (.cells vs.toArray T' fr) r] [hT : Agg P T n] (hx : (vs.drop off).take n = HL.vals ps x) (hn : (HL.vals ps x).length = n) :
    (ld T a).run P w = .ok ((Sh.one (.agg ps)).mk x) w := by
  rw [ha.ok]
  refine At.ldA (P := P) (T := T) (vs := HL.vals ps x) ⟨b, off, vs.toArray, T', fr, rfl, (hs.focB b).get, fun i hi => ?_⟩ hn
  rw [← hx, List.getElem?_take, if_pos (by omega), List.getElem?_drop]
  simp
theorem wp_ldP {a : Addr} {vs : List Value} {fr : Nat × Nat} {ps : List Pr} {k : HL ps → Prog} (hs : Sat w l) (x : HL ps) {n : Nat} [ha : AddrIs a b off] [hb : FocB l b (.cells vs.toArray T' fr) r] [hT : Agg P T n] {p : Prog} [hA : App k x p]
    (h : p.wp P S w Q) (hx : (vs.drop off).take n = HL.vals ps x := by rfl) (hn : (HL.vals ps x).length = n := by rfl) : (Prog.read g (ld T a) (.one (.agg ps)) k).wp P S w Q :=
  ⟨x, fun _ => run_ldP (T := T) x hs hx hn, by rw [hA.ok]; exact h⟩
end

section
variable {w : World} {l r r1 r2 r3 l' : List HP} {v : Nat} {A : ViewA} {b : BatM}

theorem ifate_c (b : BatM) [hf : Fo l vw v A r] (hs : Sat w l) : Ret P F.iso_View_Fate #[.pointer (some ⟨v, 0, none⟩), .agg (encB7 b).toArray] w fun vs w' => vs = [.int .i64 (fateA A b)] ∧ Sat w' (vw v A :: r) :=
  iso_View_Fate_calls _ b.base b.pid b.epoch b.seq b.kind b.time b.x <| by
    unfold iso_View_Fate
    refine wp_boxO (hs.perm hf.perm) fun a0 w' hs => ?_
    refine wp_ifF ?_ (by simp)
    have ho := faF_look A b.pid b.epoch
    refine wp_mid (fun x w' => ∃ c : Nat, x = (⟨c, 0, none⟩, (faF A b.pid b.epoch).isSome, ()) ∧ Sat w' (pt c (.cells #[.int .i64 ((faF A b.pid b.epoch).getD ⟨0, 0, 0, 0⟩).pid, .int .i64 ((faF A b.pid b.epoch).getD ⟨0, 0, 0, 0⟩).epoch, .int .i64 ((faF A b.pid b.epoch).getD ⟨0, 0, 0, 0⟩).first, .int .i64 ((faF A b.pid b.epoch).getD ⟨0, 0, 0, 0⟩).last] T.iso_life) ::
      pt a0 (.cells #[.int .i64 b.base, .int .i64 b.pid, .int .i64 b.epoch, .int .i64 b.seq, .int .i64 b.kind, .int .i64 b.time, .slice b.x.a b.x.len b.x.cap] T.api_Batch) :: vw v A :: r)) ?_ ?_
    · obtain ⟨m1, m2, hok, hs⟩ := vw_open (hs.pick [1])
      refine wp_tk hs fun w' hs => ?_
      refine wp_nn ?_
      refine wp_hdO hs ?_
      refine wp_hdO hs ?_
      refine wp_hdO hs ?_
      refine wp_lookH hs (faF A b.pid b.epoch) ho lookD ?_
      refine wp_u5 _ _ _ _ _ ?_
      refine wp_newO hs (fun c w' hs => ?_) (fun c w' hs => ⟨⟨⟨⟨trivial, fun _ => run_ldO hs⟩, fun _ => run_ldO hs⟩, fun _ => run_ldO hs⟩, fun _ => look_keep (ss := lkS) hs ho lookD⟩)
      refine wp_untick ?_
      refine wp_stG hs fun w' hs => ?_
      refine wp_lt ?_
      refine wp_untick ?_
      refine wp_lv ⟨c, rfl, ?_⟩
      have hs : Sat w' (vw v A :: pt c (.cells #[.int .i64 ((faF A b.pid b.epoch).getD ⟨0, 0, 0, 0⟩).pid, .int .i64 ((faF A b.pid b.epoch).getD ⟨0, 0, 0, 0⟩).epoch, .int .i64 ((faF A b.pid b.epoch).getD ⟨0, 0, 0, 0⟩).first, .int .i64 ((faF A b.pid b.epoch).getD ⟨0, 0, 0, 0⟩).last] T.iso_life) ::
        pt a0 (.cells #[.int .i64 b.base, .int .i64 b.pid, .int .i64 b.epoch, .int .i64 b.seq, .int .i64 b.kind, .int .i64 b.time, .slice b.x.a b.x.len b.x.cap] T.api_Batch) :: r) := vw_close m1 m2 hok hs
      exact hs.pick [1, 1]
    clear hs
    rintro _ w ⟨c, rfl, hs⟩
    refine wp_on ?_
    refine wp_ldG hs ?_
    refine wp_call (imark_c b hs) fun _ _ hs => ?_
    obtain ⟨rfl, hs⟩ := hs
    refine ret_of ?_
    refine wp_lt ?_
    unfold fateA
    refine wp_if (fun h => ?_) fun h => ?_
    · rw [if_pos h]; exact ⟨rfl, rfl, hs.tail.tail⟩
    rw [if_neg h]
    refine wp_tk hs fun w' hs => ?_
    refine wp_hdO hs ?_
    refine wp_call (istable_c (v := v) hs) fun _ w' hs => ?_
    obtain ⟨rfl, hs⟩ := hs
    refine ret_of ?_ ⟨trivial, fun _ => run_ldO hs⟩
    refine wp_lt ?_
    refine wp_untick ?_
    refine wp_if (fun h2 => ?_) fun h2 => ?_
    · rw [if_pos h2]; exact ⟨rfl, rfl, hs.sub⟩
    rw [if_neg h2]
    refine wp_ldO hs ?_
    refine wp_ldO hs ?_
    refine wp_ldO hs ?_
    refine wp_lt ?_
    refine wp_if (fun h3 => ?_) fun h3 => ?_
    · rw [if_pos ⟨h3.1.1, h3.1.2, h3.2⟩]; exact ⟨rfl, rfl, hs.sub⟩
    · rw [if_neg (fun h4 => h3 ⟨⟨h4.1, h4.2.1⟩, h4.2.2⟩)]; exact ⟨rfl, rfl, hs.sub⟩

theorem ipick_c (x : Sl) (bs : List BatM) [hf : Fo l vw v A r] [hx : FocR r x 7 (bs.flatMap encB7)] (hbs : ∀ b ∈ bs, FocR r b.x 4 (b.rs.flatMap encR)) (hn : bs.length ≤ 1000) (hr : ∀ b ∈ bs, b.rs.length ≤ 1000) (hs : Sat w l) :
    Ret P F.iso_View_Pick #[.pointer (some ⟨v, 0, none⟩), x.v] w fun vs w' => ∃ z : Sl, vs = [z.v] ∧ Sat w' (slc T.rec_At 5 z ((pickA A bs).flatMap encAt) :: vw v A :: r) :=
  iso_View_Pick_calls _ x <| by
    unfold iso_View_Pick
    have hs := hs.perm hf.perm
    have hl := hs.slen x (xs := bs) (enc := encB7)
    refine wp_mid (fun u w' => ∃ z : Sl, u = (z, ()) ∧ Sat w' (slc T.rec_At 5 z ((pickA A bs).flatMap encAt) :: vw v A :: r)) ?_ (by rintro _ w' ⟨z, rfl, hs⟩; refine wp_on ?_; exact ⟨rfl, z, rfl, hs⟩)
    refine wp_loop (fun k u w => ∃ (i : Nat) (z : Sl), u = (z, (i : Int), ()) ∧ i ≤ bs.length ∧ bs.length - i = k ∧ Sat w (slc T.rec_At 5 z ((pickA A (bs.take i)).flatMap encAt) :: vw v A :: r)) bs.length ⟨0, ⟨none, 0, 0⟩, rfl, by omega, rfl, hs.slc_nil⟩ ?_
    clear hs
    rintro k _ w ⟨i, z, rfl, hi, hk, hs⟩
    refine wp_on ?_
    refine wp_if (fun hc => ?_) fun hc => ?_
    rotate_left
    · refine wp_pass (wp_lv ⟨z, rfl, ?_⟩)
      rw [List.take_of_length_le (by omega)] at hs
      exact hs
    have hil : i < bs.length := by omega
    have hbx := hbs _ (List.getElem_mem hil)
    have hbr := hr _ (List.getElem_mem hil)
    have hto : pickA A (bs.take (i + 1)) = pickA A (bs.take i) ++ if fateA A bs[i] = 1 then flat1 bs[i] else [] := by
      unfold pickA
      rw [List.take_add_one, List.getElem?_eq_getElem hil, Option.toList_some, List.flatMap_append, List.flatMap_singleton]
    have hzl : (pickA A (bs.take i)).length ≤ 1000000 := by
      have h1 := pickA_len A (n := 1000) (bs.take i) fun b hb => hr b (List.mem_of_mem_take hb)
      have h2 : (bs.take i).length ≤ 1000 := by rw [List.length_take]; omega
      have := Nat.mul_le_mul_right 1000 h2
      omega
    have hfl := flat1_len bs[i]
    refine wp_ixA hs i hil ?_
    refine wp_newO hs fun c w' hs => ?_
    refine wp_stG hs fun w' hs => ?_
    refine wp_ldG hs ?_
    refine wp_call (ifate_c (v := v) bs[i] hs) fun _ _ hs => ?_
    obtain ⟨rfl, hs⟩ := hs
    refine ret_of ?_
    refine wp_mid (fun u w' => ∃ z : Sl, u = (z, ()) ∧ Sat w' (slc T.rec_At 5 z ((pickA A (bs.take (i + 1))).flatMap encAt) :: vw v A :: r)) ?_ ?_
    rotate_left
    · rintro _ w' ⟨z, rfl, hs⟩
      refine wp_on ?_
      refine wp_dn (us' := [z.v, .int .i64 ((i + 1 : Nat) : Int)]) (by (try simp (disch := omega) only [w64]); first | rfl | (congr; omega)) ?_
      refine wp_lp (bs.length - (i + 1)) ?_
      exact ⟨i + 1, z, rfl, by omega, rfl, hs⟩
    rw [hto]
    refine wp_if (fun h1 => ?_) fun h1 => ?_
    · rw [if_pos h1]
      refine wp_ldG hs ?_
      refine wp_slit1 hs (enc := encB7) bs[i] fun y w' hs => ?_
      refine wp_call (flat_c y [bs[i]] (by intro b hb; rw [List.mem_singleton.1 hb]; infer_instance) (by simp) (by intro b hb; rw [List.mem_singleton.1 hb]; exact hbr) hs) fun _ w' h => ?_
      obtain ⟨u, rfl, hs⟩ := h
      refine ret_of ?_
      have e : flatA [bs[i]] = flat1 bs[i] := by simp [flatA]
      rw [e] at hs
      refine wp_app' (xs := pickA A (bs.take i)) (ys := flat1 bs[i]) (enc := encAt) hs (fun z w' hs => ?_) (by omega)
      exact wp_lv ⟨z, rfl, hs.sub⟩
    · rw [if_neg h1, List.append_nil]
      exact wp_lv ⟨z, rfl, hs.sub⟩

theorem imay_c (b : BatM) [hf : Fo l vw v A r] (hs : Sat w l) : Ret P F.iso_View_may #[.pointer (some ⟨v, 0, none⟩), .agg (encB7 b).toArray] w fun vs w' => vs = [.int .i64 (mayA A b)] ∧ Sat w' (vw v A :: r) :=
  iso_View_may_calls _ b.base b.pid b.epoch b.seq b.kind b.time b.x <| by
    unfold iso_View_may mayA
    have ho := faF_look A b.pid b.epoch
    have ho2 := opF_look A b.pid
    obtain ⟨m1, m2, hok, hs⟩ := vw_open (hs.perm hf.perm)
    refine wp_boxO hs fun a0 w' hs => ?_
    refine wp_ldO hs ?_
    refine wp_ldO hs ?_
    refine wp_newO hs fun a3 w' hs => ?_
    refine wp_stG hs fun w' hs => ?_
    refine wp_mid (fun x w' => x = ((faF A b.pid b.epoch).isSome, ()) ∧ Sat w' (pt a3 (.cells #[.int .i64 b.pid, .int .i64 b.epoch] T.iso_key) :: pt a0 (.cells #[.int .i64 b.base, .int .i64 b.pid, .int .i64 b.epoch, .int .i64 b.seq, .int .i64 b.kind, .int .i64 b.time, .slice b.x.a b.x.len b.x.cap] T.api_Batch) ::
      pt v (.cells #[.int .i64 A.next, .map (some m1), .map (some m2)] T.iso_View) :: mapP ekI evX m1 (opK A) :: mapP ekK evX m2 (faK A) :: r)) ?_ ?_
    · refine wp_tk hs fun w' hs => ?_
      refine wp_nn ?_
      refine wp_hdO hs ?_
      refine wp_hdG hs ?_
      refine wp_lookH hs (faF A b.pid b.epoch) ho lookD ?_
      refine wp_u5 _ _ _ _ _ ?_
      refine wp_newO hs (fun c w' hs => ?_) (fun c w' hs => ⟨⟨⟨trivial, fun _ => run_ldO hs⟩, fun _ => run_ldG hs⟩, fun _ => look_keep (ss := lkS) hs ho lookD⟩)
      refine wp_untick ?_
      refine wp_stG hs fun w' hs => ?_
      refine wp_lt ?_
      refine wp_untick ?_
      exact wp_lv ⟨rfl, hs.sub⟩
    clear hs
    rintro _ w ⟨rfl, hs⟩
    refine wp_on ?_
    refine wp_mid (fun x w' => ∃ c : Nat, x = (⟨c, 0, none⟩, (opF A b.pid).isSome, ()) ∧ Sat w' (pt c (.cells #[.int .i64 ((opF A b.pid).getD ⟨0, 0, 0, 0⟩).pid, .int .i64 ((opF A b.pid).getD ⟨0, 0, 0, 0⟩).epoch, .int .i64 ((opF A b.pid).getD ⟨0, 0, 0, 0⟩).first, .int .i64 ((opF A b.pid).getD ⟨0, 0, 0, 0⟩).last] T.iso_life) ::
      pt a3 (.cells #[.int .i64 b.pid, .int .i64 b.epoch] T.iso_key) :: pt a0 (.cells #[.int .i64 b.base, .int .i64 b.pid, .int .i64 b.epoch, .int .i64 b.seq, .int .i64 b.kind, .int .i64 b.time, .slice b.x.a b.x.len b.x.cap] T.api_Batch) ::
      pt v (.cells #[.int .i64 A.next, .map (some m1), .map (some m2)] T.iso_View) :: mapP ekI evX m1 (opK A) :: mapP ekK evX m2 (faK A) :: r)) ?_ ?_
    · refine wp_tk hs fun w' hs => ?_
      refine wp_nn ?_
      refine wp_hdO hs ?_
      refine wp_hdO hs ?_
      refine wp_lookH hs (opF A b.pid) ho2 lookD ?_
      refine wp_u5 _ _ _ _ _ ?_
      refine wp_newO hs (fun c w' hs => ?_) (fun c w' hs => ⟨⟨⟨trivial, fun _ => run_ldO hs⟩, fun _ => run_ldO hs⟩, fun _ => look_keep (ss := lkS) hs ho2 lookD⟩)
      refine wp_untick ?_
      refine wp_stG hs fun w' hs => ?_
      refine wp_lt ?_
      refine wp_untick ?_
      exact wp_lv ⟨c, rfl, hs.sub⟩
    clear hs
    rintro _ w ⟨c, rfl, hs⟩
    refine wp_on ?_
    have hfin : ∀ {w'}, Sat w' (pt c (.cells #[.int .i64 ((opF A b.pid).getD ⟨0, 0, 0, 0⟩).pid, .int .i64 ((opF A b.pid).getD ⟨0, 0, 0, 0⟩).epoch, .int .i64 ((opF A b.pid).getD ⟨0, 0, 0, 0⟩).first, .int .i64 ((opF A b.pid).getD ⟨0, 0, 0, 0⟩).last] T.iso_life) ::
      pt a3 (.cells #[.int .i64 b.pid, .int .i64 b.epoch] T.iso_key) :: pt a0 (.cells #[.int .i64 b.base, .int .i64 b.pid, .int .i64 b.epoch, .int .i64 b.seq, .int .i64 b.kind, .int .i64 b.time, .slice b.x.a b.x.len b.x.cap] T.api_Batch) ::
      pt v (.cells #[.int .i64 A.next, .map (some m1), .map (some m2)] T.iso_View) :: mapP ekI evX m1 (opK A) :: mapP ekK evX m2 (faK A) :: r) → Sat w' (vw v A :: r) := fun hs => vw_close m1 m2 hok hs
    refine wp_lt ?_
    refine wp_if (fun h1 => ?_) fun h1 => ?_
    · rw [if_pos h1]; exact ⟨rfl, rfl, hfin hs⟩
    rw [if_neg h1]
    refine wp_ldP hs (((opF A b.pid).getD ⟨0, 0, 0, 0⟩).pid, ((opF A b.pid).getD ⟨0, 0, 0, 0⟩).epoch, ()) ?_
    refine wp_ldG hs ?_
    refine wp_lt ?_
    refine wp_if (fun h2 => ?_) fun h2 => ?_
    · rw [if_pos]
      · exact ⟨rfl, rfl, hfin hs⟩
      · exact ⟨h2.1, fun h => h2.2 h⟩
    rw [if_neg (fun h => h2 ⟨h.1, fun h' => h.2 h'⟩)]
    refine wp_ldO hs ?_
    refine wp_nng ?_
    refine wp_ldO hs ?_
    refine wp_mlen hs ?_
    refine wp_lt ?_
    have e1 : (opK A).length = A.op.length := by simp [opK]
    have e2 : (faK A).length = A.fa.length := by simp [faK]
    rw [e1]
    refine wp_if (fun h3 => ?_) fun h3 => ?_
    · rw [if_pos]
      · exact ⟨rfl, rfl, hfin hs⟩
      · exact ⟨h3.1.1, by simpa using h3.1.2, by omega⟩
    rw [if_neg (fun h => h3 ⟨⟨h.1, by simp [h.2.1]⟩, by omega⟩)]
    refine wp_ldO hs ?_
    refine wp_nng ?_
    refine wp_ldO hs ?_
    refine wp_mlen hs ?_
    refine wp_lt ?_
    rw [e2]
    refine wp_if (fun h4 => ?_) fun h4 => ?_
    · rw [if_pos]
      · exact ⟨rfl, rfl, hfin hs⟩
      · exact ⟨h4.1.1, h4.1.2, by omega⟩
    · rw [if_neg (fun h => h4 ⟨⟨h.1, h.2.1⟩, by omega⟩)]
      exact ⟨rfl, rfl, hfin hs⟩

theorem iMay_c (b : BatM) [hf : Fo l vw v A r] [hb : FocR r b.x 4 (b.rs.flatMap encR)] (hs : Sat w l) : Ret P F.iso_View_May #[.pointer (some ⟨v, 0, none⟩), .agg (encB7 b).toArray] w fun vs w' => vs = [.int .i64 (codeA A b)] ∧ Sat w' (vw v A :: r) :=
  iso_View_May_calls _ b.base b.pid b.epoch b.seq b.kind b.time b.x <| by
    unfold iso_View_May codeA
    refine wp_boxO (hs.perm hf.perm) fun a0 w' hs => ?_
    refine wp_ifF ?_ (by simp)
    refine wp_ldG hs ?_
    refine wp_call (valid_c b hs) fun _ _ hs => ?_
    obtain ⟨rfl, hs⟩ := hs
    refine ret_of ?_
    refine wp_lt ?_
    refine wp_if (fun h => ?_) fun h => ?_
    · rw [if_pos h]
      refine wp_lt ?_
      exact ⟨rfl, rfl, hs.tail⟩
    rw [if_neg h]
    refine wp_tk hs fun w' hs => ?_
    refine wp_ldO hs ?_
    obtain ⟨m1, m2, hok, hs⟩ := vw_open (hs.pick [1])
    refine wp_nn ?_
    refine wp_ldO hs ?_
    refine wp_lt ?_
    refine wp_untick ?_
    have hs : Sat w' (vw v A :: pt a0 (.cells #[.int .i64 b.base, .int .i64 b.pid, .int .i64 b.epoch, .int .i64 b.seq, .int .i64 b.kind, .int .i64 b.time, .slice b.x.a b.x.len b.x.cap] T.api_Batch) :: r) := vw_close m1 m2 hok hs
    refine wp_if (fun h2 => ?_) fun h2 => ?_
    · rw [if_pos h2]; exact ⟨rfl, rfl, hs.sub⟩
    rw [if_neg h2]
    refine wp_ldO hs ?_
    refine wp_lt ?_
    refine wp_if (fun h3 => ?_) fun h3 => ?_
    · rw [if_pos h3]
      refine wp_ldG hs ?_
      refine wp_call (imay_c (v := v) b hs) fun _ _ hs => ?_
      obtain ⟨rfl, hs⟩ := hs
      refine ret_of ?_
      refine wp_lt ?_
      exact ⟨rfl, rfl, hs.sub⟩
    · rw [if_neg h3]; exact ⟨rfl, rfl, hs.sub⟩

end
end Go.Dec

namespace Go.Dec
set_option linter.unusedVariables false
set_option linter.unusedSimpArgs false

def dropP (p : Int) (l : List TxnA) : List TxnA := l.filter fun t => !decide (t.pid = p)
def takeV (A : ViewA) (b : BatM) : ViewA :=
  if b.kind = 1 ∧ (opF A b.pid).isSome = false then { A with next := b.base + spanB b, op := A.op ++ [⟨b.pid, b.epoch, b.base, -1⟩] }
  else if markB b = true ∧ (opF A b.pid).isSome = true then
    if b.kind = 3 then ⟨b.base + spanB b, dropP b.pid A.op, A.fa ++ [{ (opF A b.pid).getD ⟨0, 0, 0, 0⟩ with last := b.base }]⟩ else ⟨b.base + spanB b, dropP b.pid A.op, A.fa⟩
  else { A with next := b.base + spanB b }
def takeA (A : ViewA) (b : BatM) : Int × ViewA := if codeA A b ≠ 0 then (codeA A b, A) else (0, takeV A b)

theorem code_zero {A : ViewA} {b : BatM} (h : codeA A b = 0) : validB b = 0 ∧ A.next ≤ b.base ∧ (b.kind ≠ 0 → mayA A b = 0) := by
  unfold codeA at h
  by_cases h1 : validB b ≠ 0
  · rw [if_pos h1] at h; exact absurd h h1
  rw [if_neg h1] at h
  by_cases h2 : b.base < A.next
  · rw [if_pos h2] at h; cases h
  rw [if_neg h2] at h
  refine ⟨Decidable.not_not.1 h1, by omega, fun h3 => ?_⟩
  rwa [if_pos h3] at h
theorem may_zero {A : ViewA} {b : BatM} (h : mayA A b = 0) : faF A b.pid b.epoch = none ∧ (∀ t, opF A b.pid = some t → t.epoch = b.epoch) ∧ (b.kind = 1 → opF A b.pid = none → A.op.length < 1024) ∧ (b.kind = 3 → ∀ t, opF A b.pid = some t → A.fa.length < 4096) := by
  unfold mayA at h
  by_cases h1 : (faF A b.pid b.epoch).isSome = true
  · rw [if_pos h1] at h; cases h
  rw [if_neg h1] at h
  have hn : faF A b.pid b.epoch = none := by
    cases hc : faF A b.pid b.epoch with
    | none => rfl
    | some t => rw [hc] at h1; exact absurd rfl h1
  split at h
  · cases h
  rename_i h2
  split at h
  · cases h
  rename_i h3
  split at h
  · cases h
  rename_i h4
  refine ⟨hn, fun t ht => ?_, fun hk ho => ?_, fun hk t ht => ?_⟩
  · have h5 : ((opF A b.pid).getD ⟨0, 0, 0, 0⟩).pid = b.pid ∧ ((opF A b.pid).getD ⟨0, 0, 0, 0⟩).epoch = b.epoch := Decidable.not_not.1 fun h6 => h2 ⟨by rw [ht]; rfl, h6⟩
    rw [ht] at h5
    exact h5.2
  · apply Nat.lt_of_not_le
    intro h5
    exact h3 ⟨hk, by rw [ho]; rfl, h5⟩
  · apply Nat.lt_of_not_le
    intro h5
    exact h4 ⟨hk, by rw [ht]; rfl, h5⟩

theorem okT_mono {t : TxnA} {n m : Int} (h : okT t n) (hnm : n ≤ m) : okT t m := ⟨h.pid, h.epoch, h.first.1, Int.lt_of_lt_of_le h.first.2 hnm⟩

theorem dropP_perm {t : TxnA} : ∀ {l : List TxnA}, (l.map (·.pid)).Nodup → t ∈ l → l.Perm (t :: dropP t.pid l)
  | u :: l, hnd, ht => by
    rw [List.map_cons, List.nodup_cons] at hnd
    have hrest : ∀ {p : Int}, p ∉ l.map (·.pid) → dropP p l = l := fun {p} hp => List.filter_eq_self.2 fun x hx => by
      have : x.pid ≠ p := fun e => hp (List.mem_map.2 ⟨x, hx, e⟩)
      simpa using this
    rcases List.mem_cons.1 ht with rfl | ht
    · have : dropP t.pid (t :: l) = l := by
        show (t :: l).filter _ = l
        rw [List.filter_cons_of_neg (by simp)]
        exact hrest hnd.1
      rw [this]
    · have hne : u.pid ≠ t.pid := fun e => hnd.1 (List.mem_map.2 ⟨t, ht, e.symm⟩)
      have : dropP t.pid (u :: l) = u :: dropP t.pid l := by
        show (u :: l).filter _ = _
        rw [List.filter_cons_of_pos (by simpa using hne)]; rfl
      rw [this]
      exact ((dropP_perm hnd.2 ht).cons u).trans (.swap _ _ _)

theorem okV_take {A : ViewA} {b : BatM} (hok : okV A) (h : codeA A b = 0) : okV (takeV A b) := by
  obtain ⟨hv, hbase, hmay⟩ := code_zero h
  obtain ⟨s1, s2, hnum, hfit, s3⟩ := span_le b hv
  obtain ⟨hk, hb, hp, he, hse, ht⟩ := hnum
  have hnx := hok.next
  unfold takeV
  split
  · rename_i h1
    obtain ⟨hk1, ho⟩ := h1
    obtain ⟨m1, m2, m3, m4⟩ := may_zero (hmay (by omega))
    have ho : opF A b.pid = none := by
      cases hc : opF A b.pid with
      | none => rfl
      | some t => rw [hc] at ho; cases ho
    have hpid : 1 ≤ b.pid := by
      have := hfit.1
      apply Decidable.byContradiction
      intro h5
      exact this ⟨by omega, .inl (by omega)⟩
    have hlt := m3 hk1 ho
    refine ⟨by show 0 ≤ b.base + spanB b ∧ b.base + spanB b ≤ _; omega, by show (A.op ++ [_]).length ≤ 1024 ∧ _; rw [List.length_append]; exact ⟨by simp; omega, hok.many.2⟩, fun t ht => ?_, fun t ht => ?_, ?_, hok.byLast, ?_, hok.keys, fun t ht u hu => ?_⟩
    · rcases List.mem_append.1 ht with ht | ht
      · exact ⟨okT_mono (hok.op t ht).1 (by show A.next ≤ b.base + spanB b; omega), (hok.op t ht).2⟩
      · rw [List.mem_singleton.1 ht]
        exact ⟨⟨⟨hpid, hp.2⟩, he, hb.1, by show b.base < b.base + spanB b; omega⟩, rfl⟩
    · obtain ⟨h1, h2, h3⟩ := hok.fa t ht
      exact ⟨okT_mono h1 (by show A.next ≤ b.base + spanB b; omega), h2, by show t.last < b.base + spanB b; omega⟩
    · show (A.op ++ [_]).Pairwise _
      rw [List.pairwise_append]
      refine ⟨hok.byFirst, by simp, fun t ht u hu => ?_⟩
      rw [List.mem_singleton.1 hu]
      have := (hok.op t ht).1.first
      show t.first < b.base
      omega
    · show ((A.op ++ [_]).map _).Nodup
      rw [List.map_append, List.nodup_append]
      refine ⟨hok.pids, by simp, fun p hp q hq => ?_⟩
      obtain ⟨t, ht, rfl⟩ := List.mem_map.1 hp
      rw [List.map_singleton, List.mem_singleton] at hq
      rw [hq]
      exact opF_none ho t ht
    · rcases List.mem_append.1 ht with ht | ht
      · exact hok.apart t ht u hu
      · rw [List.mem_singleton.1 ht]
        intro h5
        exact faF_none m1 u hu ⟨h5.1.symm, h5.2.symm⟩
  · split
    · rename_i h1 h2
      obtain ⟨hm, ho⟩ := h2
      obtain ⟨t, ho⟩ : ∃ t, opF A b.pid = some t := Option.isSome_iff_exists.1 ho
      have hk0 : b.kind ≠ 0 := by
        unfold markB at hm
        simp only [Bool.or_eq_true, decide_eq_true_eq] at hm
        omega
      obtain ⟨m1, m2, m3, m4⟩ := may_zero (hmay hk0)
      obtain ⟨htm, htp⟩ := opF_some ho
      have hte := m2 t ho
      have hdrop : ∀ u ∈ dropP b.pid A.op, u ∈ A.op ∧ u.pid ≠ b.pid := fun u hu => by
        obtain ⟨h5, h6⟩ := List.mem_filter.1 hu
        exact ⟨h5, by simpa using h6⟩
      have hsub : (dropP b.pid A.op).Sublist A.op := List.filter_sublist
      have hop : ∀ u ∈ dropP b.pid A.op, okT u (b.base + spanB b) ∧ u.last = -1 := fun u hu => ⟨okT_mono (hok.op u (hdrop u hu).1).1 (by omega), (hok.op u (hdrop u hu).1).2⟩
      have hfa : ∀ u ∈ A.fa, okT u (b.base + spanB b) ∧ u.first < u.last ∧ u.last < b.base + spanB b := fun u hu => by
        obtain ⟨h5, h6, h7⟩ := hok.fa u hu
        exact ⟨okT_mono h5 (by omega), h6, by omega⟩
      have hlen : (dropP b.pid A.op).length ≤ 1024 := Nat.le_trans hsub.length_le hok.many.1
      split
      · rename_i hk3
        rw [ho]
        have htf := (hok.op t htm).1
        refine ⟨by show 0 ≤ b.base + spanB b ∧ b.base + spanB b ≤ _; omega, ⟨hlen, by show (A.fa ++ [_]).length ≤ _; rw [List.length_append]; have := m4 hk3 t ho; simp; omega⟩, hop, fun u hu => ?_, hok.byFirst.sublist hsub, ?_, hok.pids.sublist (hsub.map _), ?_, fun u hu x hx => ?_⟩
        · rcases List.mem_append.1 hu with hu | hu
          · exact hfa u hu
          · rw [List.mem_singleton.1 hu]
            have := htf.first
            exact ⟨⟨htf.pid, htf.epoch, this.1, by show t.first < b.base + spanB b; omega⟩, by show t.first < b.base; omega, by show b.base < b.base + spanB b; omega⟩
        · show (A.fa ++ [_]).Pairwise _
          rw [List.pairwise_append]
          refine ⟨hok.byLast, by simp, fun u hu x hx => ?_⟩
          rw [List.mem_singleton.1 hx]
          have := (hok.fa u hu).2.2
          show u.last < b.base
          omega
        · show ((A.fa ++ [_]).map _).Nodup
          rw [List.map_append, List.nodup_append]
          refine ⟨hok.keys, by simp, fun p hp q hq => ?_⟩
          obtain ⟨u, hu, rfl⟩ := List.mem_map.1 hp
          rw [List.map_singleton, List.mem_singleton] at hq
          rw [hq]
          intro h5
          simp only [Prod.mk.injEq] at h5
          exact faF_none m1 u hu ⟨h5.1.trans htp, h5.2.trans hte⟩
        · rcases List.mem_append.1 hx with hx | hx
          · exact hok.apart u (hdrop u hu).1 x hx
          · rw [List.mem_singleton.1 hx]
            intro h5
            exact (hdrop u hu).2 (h5.1.trans htp)
      · exact ⟨by show 0 ≤ b.base + spanB b ∧ b.base + spanB b ≤ _; omega, ⟨hlen, hok.many.2⟩, hop, hfa, hok.byFirst.sublist hsub, hok.byLast, hok.pids.sublist (hsub.map _), hok.keys, fun u hu x hx => hok.apart u (hdrop u hu).1 x hx⟩
    · refine ⟨by show 0 ≤ b.base + spanB b ∧ b.base + spanB b ≤ _; omega, hok.many, fun t ht => ⟨okT_mono (hok.op t ht).1 (by show A.next ≤ b.base + spanB b; omega), (hok.op t ht).2⟩, fun t ht => ?_, hok.byFirst, hok.byLast, hok.pids, hok.keys, hok.apart⟩
      obtain ⟨h1, h2, h3⟩ := hok.fa t ht
      exact ⟨okT_mono h1 (by show A.next ≤ b.base + spanB b; omega), h2, by show t.last < b.base + spanB b; omega⟩

section
variable {w : World} {l r r1 r2 r3 l' : List HP} {v : Nat} {A : ViewA} {b : BatM}

theorem itake_c (b : BatM) [hf : Fo l vw v A r] [hb : FocR r b.x 4 (b.rs.flatMap encR)] (hs : Sat w l) : Ret P F.iso_View_Take #[.pointer (some ⟨v, 0, none⟩), .agg (encB7 b).toArray] w fun vs w' => vs = [.int .i64 (takeA A b).1] ∧ Sat w' (vw v (takeA A b).2 :: r) :=
  iso_View_Take_calls _ b.base b.pid b.epoch b.seq b.kind b.time b.x <| by
    unfold iso_View_Take takeA
    refine wp_boxO (hs.perm hf.perm) fun a0 w' hs => ?_
    refine wp_ldG hs ?_
    refine wp_call (iMay_c (v := v) b hs) fun _ _ hs => ?_
    obtain ⟨rfl, hs⟩ := hs
    refine ret_of ?_
    refine wp_lt ?_
    refine wp_if (fun h => ?_) fun h => ?_
    · rw [if_pos h]
      refine wp_lt ?_
      exact ⟨rfl, rfl, hs.sub⟩
    rw [if_neg h]
    have hc : codeA A b = 0 := Decidable.not_not.1 h
    obtain ⟨hv, hbase, hmay⟩ := code_zero hc
    refine wp_ldG hs ?_
    refine wp_call (next_c_ b hs) fun _ _ hs => ?_
    obtain ⟨rfl, hs⟩ := hs
    refine ret_of ?_
    have hnx : nextB b = b.base + spanB b := by unfold nextB; rw [if_neg (by rw [hv]; simp)]
    rw [hnx]
    obtain ⟨m1, m2, hok, hs⟩ := vw_open hs
    have hok' := okV_take hok hc
    have ho := opF_look A b.pid
    refine wp_nn ?_
    refine wp_stO hs fun w' hs => ?_
    refine wp_mid (fun x w' => ∃ c : Nat, x = (⟨c, 0, none⟩, (opF A b.pid).isSome, ()) ∧ Sat w' (pt c (.cells #[.int .i64 ((opF A b.pid).getD ⟨0, 0, 0, 0⟩).pid, .int .i64 ((opF A b.pid).getD ⟨0, 0, 0, 0⟩).epoch, .int .i64 ((opF A b.pid).getD ⟨0, 0, 0, 0⟩).first, .int .i64 ((opF A b.pid).getD ⟨0, 0, 0, 0⟩).last] T.iso_life) ::
      pt a0 (.cells #[.int .i64 b.base, .int .i64 b.pid, .int .i64 b.epoch, .int .i64 b.seq, .int .i64 b.kind, .int .i64 b.time, .slice b.x.a b.x.len b.x.cap] T.api_Batch) ::
      pt v (.cells #[.int .i64 (b.base + spanB b), .map (some m1), .map (some m2)] T.iso_View) :: mapP ekI evX m1 (opK A) :: mapP ekK evX m2 (faK A) :: r)) ?_ ?_
    · refine wp_tk hs fun w' hs => ?_
      refine wp_nn ?_
      refine wp_hdO hs ?_
      refine wp_hdO hs ?_
      refine wp_lookH hs (opF A b.pid) ho lookD ?_
      refine wp_u5 _ _ _ _ _ ?_
      refine wp_newO hs (fun c w' hs => ?_) (fun c w' hs => ⟨⟨⟨trivial, fun _ => run_ldO hs⟩, fun _ => run_ldO hs⟩, fun _ => look_keep (ss := lkS) hs ho lookD⟩)
      refine wp_untick ?_
      refine wp_stG hs fun w' hs => ?_
      refine wp_lt ?_
      refine wp_untick ?_
      exact wp_lv ⟨c, rfl, hs.sub⟩
    clear hs
    rintro _ w ⟨c, rfl, hs⟩
    refine wp_on ?_
    refine wp_ldO hs ?_
    refine wp_lt ?_
    refine wp_mid (fun _ w' => Sat w' (vw v (takeV A b) :: r)) ?_ (by rintro _ w' hs; refine wp_on ?_; exact ⟨rfl, rfl, hs⟩)
    refine wp_if (fun h1 => ?_) fun h1 => ?_
    · have h1 : b.kind = 1 ∧ (opF A b.pid).isSome = false := ⟨h1.1, by simpa using h1.2⟩
      have htk : takeV A b = { A with next := b.base + spanB b, op := A.op ++ [⟨b.pid, b.epoch, b.base, -1⟩] } := by unfold takeV; rw [if_pos h1]
      rw [htk] at hok' ⊢
      refine wp_tk hs fun w' hs => ?_
      refine wp_nn ?_
      refine wp_ldO hs ?_
      refine wp_ldO hs ?_
      refine wp_ldO hs ?_
      refine wp_ldO hs ?_
      refine wp_ldO hs ?_
      have hno : ∀ u, (b.pid, u) ∉ opK A := by
        rcases ho with ⟨t, ht, -⟩ | ⟨-, hno⟩
        · rw [ht] at h1; cases h1.2
        · exact hno
      refine wp_mset hs (opK A) (.inr ⟨hno, rfl⟩) (⟨b.pid, b.epoch, b.base, -1⟩ : TxnA) fun w' hs => ?_
      refine wp_untick ?_
      refine wp_lv ?_
      exact vw_close m1 m2 (A := { A with next := b.base + spanB b, op := A.op ++ [⟨b.pid, b.epoch, b.base, -1⟩] }) hok' hs (by
        show List.Perm _ ((A.op ++ [_]).map _)
        rw [List.map_append]
        exact List.perm_append_comm (l₁ := [(b.pid, (⟨b.pid, b.epoch, b.base, -1⟩ : TxnA))]))
    have h1 : ¬ (b.kind = 1 ∧ (opF A b.pid).isSome = false) := fun h => h1 ⟨h.1, by simpa using h.2⟩
    refine wp_ldG hs ?_
    refine wp_call (imark_c b hs) fun _ _ hs => ?_
    obtain ⟨rfl, hs⟩ := hs
    refine ret_of ?_
    refine wp_lt ?_
    refine wp_mid (fun _ w' => Sat w' (vw v (takeV A b) :: r)) ?_ (by rintro _ w' hs; refine wp_on ?_; exact wp_lv hs)
    refine wp_if (fun h2 => ?_) fun h2 => ?_
    rotate_left
    · have htk : takeV A b = { A with next := b.base + spanB b } := by unfold takeV; rw [if_neg h1, if_neg (fun h => h2 h)]
      rw [htk] at hok' ⊢
      refine wp_lv ?_
      exact vw_close m1 m2 (A := { A with next := b.base + spanB b }) hok' hs
    have h2 : markB b = true ∧ (opF A b.pid).isSome = true := h2
    obtain ⟨t, hot⟩ : ∃ t, opF A b.pid = some t := Option.isSome_iff_exists.1 h2.2
    obtain ⟨htm, htp⟩ := opF_some hot
    have hdel : (opK A).Perm ((b.pid, t) :: (dropP b.pid A.op).map fun t => (t.pid, t)) := by
      have := (dropP_perm hok.pids htm).map fun t : TxnA => (t.pid, t)
      rw [List.map_cons, htp] at this
      exact this
    rw [hot] at hs
    have hs : Sat _ (pt c (.cells #[.int .i64 t.pid, .int .i64 t.epoch, .int .i64 t.first, .int .i64 t.last] T.iso_life) :: _) := hs
    refine wp_tk hs fun w' hs => ?_
    refine wp_nn ?_
    refine wp_ldO hs ?_
    refine wp_ldO hs ?_
    refine wp_mdel hs ((dropP b.pid A.op).map fun t => (t.pid, t)) (.inl ⟨t, hdel⟩) fun w' hs => ?_
    refine wp_untick ?_
    refine wp_ldO hs ?_
    refine wp_mid (fun _ w' => Sat w' (vw v (takeV A b) :: r)) ?_ (by rintro _ w' hs; refine wp_on ?_; exact wp_lv hs)
    refine wp_if (fun h3 => ?_) fun h3 => ?_
    · have htk : takeV A b = ⟨b.base + spanB b, dropP b.pid A.op, A.fa ++ [(⟨t.pid, t.epoch, t.first, b.base⟩ : TxnA)]⟩ := by unfold takeV; rw [if_neg h1, if_pos h2, if_pos h3, hot]; rfl
      rw [htk] at hok' ⊢
      obtain ⟨n1, n2, -, -⟩ := may_zero (hmay (by omega))
      have hte := n2 t hot
      refine wp_ldO hs ?_
      refine wp_stO hs fun w' hs => ?_
      refine wp_tk hs fun w' hs => ?_
      refine wp_nn ?_
      refine wp_ldO hs ?_
      refine wp_ldP hs (t.pid, t.epoch, ()) ?_
      refine wp_ldG hs ?_
      have hno : ∀ u, ((t.pid, t.epoch), u) ∉ faK A := fun u hu => by
        obtain ⟨y, hy, e⟩ := List.mem_map.1 hu
        simp only [Prod.mk.injEq] at e
        exact faF_none n1 y hy ⟨e.1.1.trans htp, e.1.2.trans hte⟩
      refine wp_mset hs (faK A) (.inr ⟨hno, rfl⟩) (⟨t.pid, t.epoch, t.first, b.base⟩ : TxnA) fun w' hs => ?_
      refine wp_untick ?_
      refine wp_lv ?_
      have hp2 : (((t.pid, t.epoch), (⟨t.pid, t.epoch, t.first, b.base⟩ : TxnA)) :: faK A).Perm (faK ⟨b.base + spanB b, dropP b.pid A.op, A.fa ++ [(⟨t.pid, t.epoch, t.first, b.base⟩ : TxnA)]⟩) := by
        show List.Perm _ ((A.fa ++ [_]).map _)
        rw [List.map_append]
        exact List.perm_append_comm (l₁ := [((t.pid, t.epoch), (⟨t.pid, t.epoch, t.first, b.base⟩ : TxnA))])
      have hs := hs.mapPerm hp2
      exact vw_close m1 m2 (A := ⟨b.base + spanB b, dropP b.pid A.op, A.fa ++ [(⟨t.pid, t.epoch, t.first, b.base⟩ : TxnA)]⟩) hok' hs
    · have htk : takeV A b = ⟨b.base + spanB b, dropP b.pid A.op, A.fa⟩ := by unfold takeV; rw [if_neg h1, if_pos h2, if_neg h3]
      rw [htk] at hok' ⊢
      refine wp_lv ?_
      exact vw_close m1 m2 (A := ⟨b.base + spanB b, dropP b.pid A.op, A.fa⟩) hok' hs

end
end Go.Dec
