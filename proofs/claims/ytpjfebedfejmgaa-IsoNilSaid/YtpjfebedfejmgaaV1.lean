/- Isolation: views: what they hold; New, Next. Looks into maps of structs. -/
import Derived.Test.YtpjfebedfejmgaaK1
import Derived.Test.YtpjfebedfejmgaaS2
import Derived.Test.YtpjfebedfejmgaaR2
namespace Go.Dec
set_option linter.unusedVariables false
set_option linter.unusedSimpArgs false

/-! ### Looks -/
theorem nodup_val {K V : Type} {kk : K} {v v' : V} : ∀ {es : List (K × V)}, (es.map Prod.fst).Nodup → (kk, v) ∈ es → (kk, v') ∈ es → v' = v
  | a :: r, hnd, hv, hv' => by
    rw [List.map_cons, List.nodup_cons] at hnd
    rcases List.mem_cons.1 hv with h1 | h1 <;> rcases List.mem_cons.1 hv' with h2 | h2
    · rw [← h1] at h2; exact (Prod.mk.inj h2).2
    · exact absurd (List.mem_map.2 ⟨_, h2, by rw [← h1]⟩) hnd.1
    · exact absurd (List.mem_map.2 ⟨_, h1, by rw [← h2]⟩) hnd.1
    · exact nodup_val hnd.2 h1 h2
section
variable {K V : Type} {ek : K → Value} {ev : V → Value} {m : Nat} {es : List (K × V)} {P : Program} {w : World} {l r : List HP} {Q : Post} {S : World → Prop} {T kt : TypeId} {z : Value} {g : Prop} {kk : K} {kv : Value}

theorem look_in [hf : FoM l m ek ev es r] [hT : MapT P T kt z] [hk : KeyT P kt ek] [hkv : IsK ek kv kk] (hs : Sat w l) {v : V} (hv : (kk, v) ∈ es) {ss : List Sh1} {x : HL (prims ss)} (hx : valsOf ss x = [ev v, .bool true]) :
    (Instr.lookup T (.map (some m)) kv true).run P w = .ok ((Sh.tup ss).mk x) w := by
  have hs := hs.perm hf.perm
  have hnd := hs.mapNodup
  rcases run_look (P := P) (T := T) true hs kk with ⟨v', hv', hr⟩ | ⟨hno, -⟩
  · have : v' = v := nodup_val hnd hv hv'
    rw [hkv.ok, hr, this]
    show Result.ok (Value.tuple #[ev v, .bool true]) w = Result.ok (Value.tuple (valsOf ss x).toArray) w
    rw [hx]
  · exact absurd hv (hno _)
theorem look_out [hf : FoM l m ek ev es r] [hT : MapT P T kt z] [hk : KeyT P kt ek] [hkv : IsK ek kv kk] (hs : Sat w l) (hv : ∀ v, (kk, v) ∉ es) {ss : List Sh1} {x : HL (prims ss)} (hx : valsOf ss x = [z, .bool false]) :
    (Instr.lookup T (.map (some m)) kv true).run P w = .ok ((Sh.tup ss).mk x) w := by
  have hs := hs.perm hf.perm
  rcases run_look (P := P) (T := T) true hs kk with ⟨v', hv', hr⟩ | ⟨-, hr⟩
  · exact absurd hv' (hv _)
  · rw [hkv.ok, hr]
    show Result.ok (Value.tuple #[z, .bool false]) w = Result.ok (Value.tuple (valsOf ss x).toArray) w
    rw [hx]

/-- What is there at a key: its value, or zero. -/
theorem wp_lookH {ss : List Sh1} {k : HL (prims ss) → Prog} [hf : FoM l m ek ev es r] [hT : MapT P T kt z] [hk : KeyT P kt ek] [hkv : IsK ek kv kk] (hs : Sat w l) (o : Option V) (ho : (∃ v, o = some v ∧ (kk, v) ∈ es) ∨ (o = none ∧ ∀ v, (kk, v) ∉ es)) (d : Option V → HL (prims ss))
    (h : (k (d o)).wp P (fun w' => S w' ∧ (g → (Instr.lookup T (.map (some m)) kv true).run P w' = .ok ((Sh.tup ss).mk (d o)) w')) w Q) (h1 : ∀ v, valsOf ss (d (some v)) = [ev v, .bool true] := by intros; rfl) (h0 : valsOf ss (d none) = [z, .bool false] := by rfl) :
    (Prog.hold g (Instr.lookup T (.map (some m)) kv true) (.tup ss) k).wp P S w Q := by
  refine ⟨d o, fun _ => ?_, h⟩
  rcases ho with ⟨v, rfl, hv⟩ | ⟨rfl, hv⟩
  · exact look_in hs hv (h1 v)
  · exact look_out hs hv h0
theorem look_keep {ss : List Sh1} [hf : FoM l m ek ev es r] [hT : MapT P T kt z] [hk : KeyT P kt ek] [hkv : IsK ek kv kk] (hs : Sat w l) {o : Option V} (ho : (∃ v, o = some v ∧ (kk, v) ∈ es) ∨ (o = none ∧ ∀ v, (kk, v) ∉ es)) (d : Option V → HL (prims ss))
    (h1 : ∀ v, valsOf ss (d (some v)) = [ev v, .bool true] := by intros; rfl) (h0 : valsOf ss (d none) = [z, .bool false] := by rfl) :
    (Instr.lookup T (.map (some m)) kv true).run P w = .ok ((Sh.tup ss).mk (d o)) w := by
  rcases ho with ⟨v, rfl, hv⟩ | ⟨rfl, hv⟩
  · exact look_in hs hv (h1 v)
  · exact look_out hs hv h0
end

/-! ### Views -/
structure ViewA where
  next : Int
  op : List TxnA
  fa : List TxnA
abbrev evX (t : TxnA) : Value := .agg #[.int .i64 t.pid, .int .i64 t.epoch, .int .i64 t.first, .int .i64 t.last]
def opF (A : ViewA) (pid : Int) : Option TxnA := A.op.find? fun t => decide (t.pid = pid)
def faF (A : ViewA) (pid epoch : Int) : Option TxnA := A.fa.find? fun t => decide (t.pid = pid ∧ t.epoch = epoch)
def stableA (A : ViewA) : Int := match A.op with
  | [] => A.next
  | t :: _ => t.first
structure okT (t : TxnA) (next : Int) : Prop where
  pid : 1 ≤ t.pid ∧ t.pid ≤ 1048576
  epoch : 0 ≤ t.epoch ∧ t.epoch ≤ 32767
  first : 0 ≤ t.first ∧ t.first < next
structure okV (A : ViewA) : Prop where
  next : 0 ≤ A.next ∧ A.next ≤ 1099511627777
  many : A.op.length ≤ 1024 ∧ A.fa.length ≤ 4096
  op : ∀ t ∈ A.op, okT t A.next ∧ t.last = -1
  fa : ∀ t ∈ A.fa, okT t A.next ∧ t.first < t.last ∧ t.last < A.next
  byFirst : A.op.Pairwise fun a b => a.first < b.first
  byLast : A.fa.Pairwise fun a b => a.last < b.last
  pids : (A.op.map (·.pid)).Nodup
  keys : (A.fa.map fun t => (t.pid, t.epoch)).Nodup
  apart : ∀ t ∈ A.op, ∀ u ∈ A.fa, ¬ (t.pid = u.pid ∧ t.epoch = u.epoch)

def opK (A : ViewA) : List (Int × TxnA) := A.op.map fun t => (t.pid, t)
def faK (A : ViewA) : List ((Int × Int) × TxnA) := A.fa.map fun t => ((t.pid, t.epoch), t)
def vw (v : Nat) (A : ViewA) : HP := HP.ex fun M : Nat × Nat => HP.and (okV A) (HP.star (pt v (.cells #[.int .i64 A.next, .map (some M.1), .map (some M.2)] T.iso_View))
  (HP.star (mapP ekI evX M.1 (opK A)) (mapP ekK evX M.2 (faK A))))

section
variable {w : World} {l r r1 r2 r3 l' : List HP} {v : Nat} {A : ViewA}

theorem vw_open (hs : Sat w (vw v A :: l)) : ∃ m1 m2 : Nat, okV A ∧ Sat w (pt v (.cells #[.int .i64 A.next, .map (some m1), .map (some m2)] T.iso_View) :: mapP ekI evX m1 (opK A) :: mapP ekK evX m2 (faK A) :: l) := by
  obtain ⟨⟨m1, m2⟩, hs⟩ := hs.ex
  obtain ⟨hok, hs⟩ := hs.and
  have hs := hs.star
  have hs := (hs.pick [1]).star
  exact ⟨m1, m2, hok, hs.pick [2, 0, 0]⟩
theorem vw_close (m1 m2 : Nat) (hok : okV A) (hs : Sat w l) {es1 : List (Int × TxnA)} {es2 : List ((Int × Int) × TxnA)} [h1 : FocB l v (.cells [.int .i64 A.next, .map (some m1), .map (some m2)].toArray T.iso_View) r1] [h2 : FoM r1 m1 ekI evX es1 r2] [h3 : FoM r2 m2 ekK evX es2 r3] [h4 : Sub r3 l']
    (hp1 : es1.Perm (opK A) := by exact .refl _) (hp2 : es2.Perm (faK A) := by exact .refl _) : Sat w (vw v A :: l') := by
  have hs := hs.perm (h1.perm.trans (.cons _ (h2.perm.trans (.cons _ h3.perm))))
  have hs := ((hs.pick [1]).mapPerm hp1)
  have hs := ((hs.pick [2]).mapPerm hp2)
  -- the parts: second map, first map, block
  have hs : Sat w (vw v A :: r3) := by
    refine .ex_mk (m1, m2) (.and_mk hok (.star_mk ?_))
    refine (Sat.star_mk (hs.pick [1, 0])).pick [1]
  exact hs.sub

theorem opF_some {pid : Int} {t : TxnA} (h : opF A pid = some t) : t ∈ A.op ∧ t.pid = pid := ⟨List.mem_of_find?_eq_some h, by simpa using List.find?_some h⟩
theorem opF_none {pid : Int} (h : opF A pid = none) : ∀ t ∈ A.op, t.pid ≠ pid := fun t ht => by simpa using List.find?_eq_none.1 h t ht
theorem faF_some {pid epoch : Int} {t : TxnA} (h : faF A pid epoch = some t) : t ∈ A.fa ∧ t.pid = pid ∧ t.epoch = epoch := ⟨List.mem_of_find?_eq_some h, by simpa using List.find?_some h⟩
theorem faF_none {pid epoch : Int} (h : faF A pid epoch = none) : ∀ t ∈ A.fa, ¬ (t.pid = pid ∧ t.epoch = epoch) := fun t ht => by simpa using List.find?_eq_none.1 h t ht
theorem opF_look (A : ViewA) (pid : Int) : (∃ t, opF A pid = some t ∧ (pid, t) ∈ opK A) ∨ (opF A pid = none ∧ ∀ t, (pid, t) ∉ opK A) := by
  cases h : opF A pid with
  | some t => exact .inl ⟨t, rfl, List.mem_map.2 ⟨t, (opF_some h).1, by rw [(opF_some h).2]⟩⟩
  | none => exact .inr ⟨rfl, fun t ht => by
      obtain ⟨u, hu, e⟩ := List.mem_map.1 ht
      simp only [Prod.mk.injEq] at e
      exact opF_none h u hu e.1⟩
theorem faF_look (A : ViewA) (pid epoch : Int) : (∃ t, faF A pid epoch = some t ∧ ((pid, epoch), t) ∈ faK A) ∨ (faF A pid epoch = none ∧ ∀ t, ((pid, epoch), t) ∉ faK A) := by
  cases h : faF A pid epoch with
  | some t => exact .inl ⟨t, rfl, List.mem_map.2 ⟨t, (faF_some h).1, by rw [(faF_some h).2.1, (faF_some h).2.2]⟩⟩
  | none => exact .inr ⟨rfl, fun t ht => by
      obtain ⟨u, hu, e⟩ := List.mem_map.1 ht
      simp only [Prod.mk.injEq] at e
      exact faF_none h u hu e.1⟩

theorem inew_c (hs : Sat w l) : Ret P F.iso_New #[] w fun vs w' => ∃ v, vs = [.pointer (some ⟨v, 0, none⟩)] ∧ Sat w' (vw v ⟨0, [], []⟩ :: l) :=
  iso_New_calls <| by
    unfold iso_New
    refine wp_mmake ekI evX hs fun m1 w' hs => ?_
    refine wp_mmake ekK evX hs fun m2 w' hs => ?_
    refine wp_boxO hs fun v w' hs => ?_
    refine ⟨rfl, v, rfl, ?_⟩
    exact vw_close m1 m2 (A := ⟨0, [], []⟩) ⟨by show (0 : Int) ≤ 0 ∧ (0 : Int) ≤ _; omega, by simp, by simp, by simp, by simp, by simp, by simp, by simp, by simp⟩ hs

theorem inext_c [hf : Fo l vw v A r] (hs : Sat w l) : Ret P F.iso_View_Next #[.pointer (some ⟨v, 0, none⟩)] w fun vs w' => vs = [.int .i64 A.next] ∧ Sat w' (vw v A :: r) :=
  iso_View_Next_calls _ <| by
    unfold iso_View_Next
    obtain ⟨m1, m2, hok, hs⟩ := vw_open (hs.perm hf.perm)
    refine wp_ifF ?_ (by simp)
    (repeat (first | with_reducible (first | refine wp_on ?_ | refine wp_nn ?_ | refine wp_nng ?_ | refine wp_ldO hs ?_ | refine wp_ldG hs ?_ | refine wp_untick ?_ | refine wp_tk hs fun _ hs => ?_ | refine wp_newO hs fun _ _ hs => ?_ | refine wp_boxO hs fun _ _ hs => ?_ | refine wp_stO hs fun _ hs => ?_ | refine wp_stG hs fun _ hs => ?_) | (apply wp_must; (focus first | trivial | omega | assumption)) | refine wp_ltw ?_ | refine wp_lt ?_))
    exact ⟨rfl, rfl, vw_close m1 m2 hok hs⟩

end
end Go.Dec
