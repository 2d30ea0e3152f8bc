/- Dedup: tables: what they hold; New, Next, row, Row. -/
import Derived.Test.YtcpmaccapgpgaaaGreatM2
import Derived.Test.YtcpmaccapgpgaaaGreatB1
import Derived.Test.YtcpmaccapgpgaaaGreatOpsV
namespace Go.Dec
set_option linter.unusedVariables false
set_option linter.unusedSimpArgs false

structure TabA where
  most : Int
  next : Int
  rows : List RowA
def rowO (A : TabA) (pid : Int) : Option RowA := A.rows.find? fun r => decide (r.pid = pid)
def rowD (pid : Int) : RowA := ⟨pid, -1, 0, 0, 0, -1, 0⟩
def rowF (A : TabA) (pid : Int) : RowA := (rowO A pid).getD (rowD pid)
def openR (rs : List RowA) : List RowA := rs.filter fun r => decide (0 ≤ r.frm)
structure okR (r : RowA) (next : Int) : Prop where
  pid : 1 ≤ r.pid ∧ r.pid ≤ 1048576
  epoch : 0 ≤ r.epoch ∧ r.epoch ≤ 32768
  time : 0 ≤ r.time ∧ r.time ≤ 1099511627776
  count : 0 ≤ r.count ∧ r.count ≤ 64
  seq : 0 ≤ r.seq
  base : 0 ≤ r.base
  frm : -1 ≤ r.frm
  none_ : r.count = 0 → r.seq = 0 ∧ r.base = 0 ∧ r.frm = -1
  some_ : 0 < r.count → r.epoch ≤ 32767 ∧ r.seq + r.count ≤ 2147483648 ∧ r.base + r.count ≤ next ∧ r.frm ≤ r.base
structure okTb (A : TabA) : Prop where
  most : 1 ≤ A.most ∧ A.most ≤ 4096
  next : 0 ≤ A.next ∧ A.next ≤ 1099511627777
  many : (A.rows.length : Int) ≤ A.most
  row : ∀ r ∈ A.rows, okR r A.next
  byPid : A.rows.Pairwise fun a b => a.pid < b.pid
  apart : (openR A.rows).Pairwise fun a b => a.frm ≠ b.frm

instance : KeyT P T.int64 ekI := keyT_int (by kernel_rfl)
instance : MapT P T.m_int64_dedup_Row T.int64 (.agg #[.int .i64 0, .int .i64 0, .int .i64 0, .int .i64 0, .int .i64 0, .int .i64 0, .int .i64 0]) := ⟨T.dedup_Row, by kernel_rfl, by kernel_rfl⟩
def keyed (rs : List RowA) : List (Int × RowA) := rs.map fun r => (r.pid, r)
def tb (t : Nat) (A : TabA) : HP := HP.ex fun m : Nat => HP.and (okTb A) (HP.star (pt t (.cells #[.int .i64 A.most, .int .i64 A.next, .map (some m)] T.dedup_Table)) (mapP ekI evW m (keyed A.rows)))

theorem okTb.many' {A : TabA} (h : okTb A) : A.rows.length ≤ 4096 := by have := h.many; have := h.most; omega
theorem okR.seqs {r : RowA} {next : Int} (h : okR r next) : r.seq + r.count ≤ 2147483648 := by
  have h1 := h.count; have h2 := h.seq
  rcases Int.lt_or_le 0 r.count with h3 | h3
  · exact (h.some_ h3).2.1
  · have := (h.none_ (by omega)).1; omega
theorem keyed_snd (rs : List RowA) : (keyed rs).map Prod.snd = rs := by unfold keyed; rw [List.map_map]; exact List.map_id rs
theorem rowO_some {A : TabA} {pid : Int} {t : RowA} (h : rowO A pid = some t) : t ∈ A.rows ∧ t.pid = pid := ⟨List.mem_of_find?_eq_some h, by simpa using List.find?_some h⟩
theorem rowO_none {A : TabA} {pid : Int} (h : rowO A pid = none) : ∀ t ∈ A.rows, t.pid ≠ pid := fun t ht => by simpa using List.find?_eq_none.1 h t ht
theorem rowO_look (A : TabA) (pid : Int) : (∃ t, rowO A pid = some t ∧ (pid, t) ∈ keyed A.rows) ∨ (rowO A pid = none ∧ ∀ t, (pid, t) ∉ keyed A.rows) := by
  cases h : rowO A pid with
  | some t => exact .inl ⟨t, rfl, List.mem_map.2 ⟨t, (rowO_some h).1, by rw [(rowO_some h).2]⟩⟩
  | none => exact .inr ⟨rfl, fun t ht => by
      obtain ⟨u, hu, e⟩ := List.mem_map.1 ht
      simp only [Prod.mk.injEq] at e
      exact rowO_none h u hu e.1⟩
/-- The stand-in's numbers are small too. -/
theorem rowF_ok {A : TabA} (hok : okTb A) (pid : Int) : 0 ≤ (rowF A pid).seq ∧ 0 ≤ (rowF A pid).count ∧ (rowF A pid).seq + (rowF A pid).count ≤ 2147483648 ∧ -1 ≤ (rowF A pid).epoch ∧ (rowF A pid).epoch ≤ 32768 ∧ -1 ≤ (rowF A pid).frm ∧ (rowF A pid).pid = pid := by
  unfold rowF
  cases h : rowO A pid with
  | none => simp [rowD]
  | some t =>
    have h1 := hok.row t (rowO_some h).1
    have := h1.seqs; have := h1.seq; have := h1.count; have := h1.epoch; have := h1.frm; have := (rowO_some h).2
    simp only [Option.getD_some]; omega

section
variable {w : World} {l r r1 r2 l' : List HP} {t : Nat} {A : TabA}

theorem tb_open (hs : Sat w (tb t A :: l)) : ∃ m : Nat, okTb A ∧ Sat w (pt t (.cells #[.int .i64 A.most, .int .i64 A.next, .map (some m)] T.dedup_Table) :: mapP ekI evW m (keyed A.rows) :: l) := by
  obtain ⟨m, hs⟩ := hs.ex
  obtain ⟨hok, hs⟩ := hs.and
  exact ⟨m, hok, hs.star⟩
theorem tb_mk (m : Nat) (hok : okTb A) (hs : Sat w (pt t (.cells #[.int .i64 A.most, .int .i64 A.next, .map (some m)] T.dedup_Table) :: mapP ekI evW m (keyed A.rows) :: l)) : Sat w (tb t A :: l) := .ex_mk m (.and_mk hok (.star_mk hs))
theorem tb_close (m : Nat) (hok : okTb A) (hs : Sat w l) {es1 : List (Int × RowA)} [h1 : FocB l t (.cells [.int .i64 A.most, .int .i64 A.next, .map (some m)].toArray T.dedup_Table) r1] [h2 : FoM r1 m ekI evW es1 r2] [h4 : Sub r2 l']
    (hp1 : es1.Perm (keyed A.rows) := by exact .refl _) : Sat w (tb t A :: l') := by
  have hs := hs.perm (h1.perm.trans (.cons _ h2.perm))
  have hs := ((hs.pick [1]).mapPerm hp1).pick [1]
  have hs : Sat w (tb t A :: r2) := tb_mk m hok hs
  exact hs.sub
theorem tb_ok (hs : Sat w (tb t A :: l)) : okTb A := (tb_open hs).choose_spec.1

instance {r : RowA} : IsR (sG [.int .i64, .int .i64, .int .i64, .int .i64, .int .i64, .int .i64, .int .i64]) [.agg (encW r).toArray] (r.pid, r.epoch, r.seq, r.count, r.base, r.frm, r.time, ()) := ⟨rfl⟩
instance {r : RowA} {b : Bool} : IsR (.tup [.agg [.int .i64, .int .i64, .int .i64, .int .i64, .int .i64, .int .i64, .int .i64], .one .bool]) [.agg (encW r).toArray, .bool b] (r.pid, r.epoch, r.seq, r.count, r.base, r.frm, r.time, b, ()) := ⟨rfl⟩
def lookW (o : Option RowA) : Int × Int × Int × Int × Int × Int × Int × Bool × Unit :=
  ((o.getD ⟨0, 0, 0, 0, 0, 0, 0⟩).pid, (o.getD ⟨0, 0, 0, 0, 0, 0, 0⟩).epoch, (o.getD ⟨0, 0, 0, 0, 0, 0, 0⟩).seq, (o.getD ⟨0, 0, 0, 0, 0, 0, 0⟩).count, (o.getD ⟨0, 0, 0, 0, 0, 0, 0⟩).base, (o.getD ⟨0, 0, 0, 0, 0, 0, 0⟩).frm, (o.getD ⟨0, 0, 0, 0, 0, 0, 0⟩).time, o.isSome, ())

theorem tnew_c (most : Int) (hs : Sat w l) : Ret P F.dedup_New #[.int .i64 most] w fun vs w' =>
    (1 ≤ most ∧ most ≤ 4096 ∧ ∃ t, vs = [.pointer (some ⟨t, 0, none⟩), .int .i64 0] ∧ Sat w' (tb t ⟨most, 0, []⟩ :: l)) ∨ ((most < 1 ∨ most > 4096) ∧ vs = [.pointer none, .int .i64 2] ∧ Sat w' l) :=
  dedup_New_calls most <| by
    unfold dedup_New
    refine wp_if (fun h => ?_) fun h => ?_
    · exact ⟨rfl, .inr ⟨h, rfl, hs⟩⟩
    refine wp_mmake ekI evW hs fun m w' hs => ?_
    refine wp_boxO hs fun t w' hs => ?_
    refine ⟨rfl, .inl ⟨by omega, by omega, t, rfl, ?_⟩⟩
    exact tb_close m (A := ⟨most, 0, []⟩) ⟨by show 1 ≤ most ∧ most ≤ 4096; omega, by show (0 : Int) ≤ 0 ∧ (0 : Int) ≤ _; omega, by show (0 : Int) ≤ most; omega, by simp, by simp, by simp [openR]⟩ hs

theorem tnext_c [hf : Fo l tb t A r] (hs : Sat w l) : Ret P F.dedup_Table_Next #[.pointer (some ⟨t, 0, none⟩)] w fun vs w' => vs = [.int .i64 A.next] ∧ Sat w' (tb t A :: r) :=
  dedup_Table_Next_calls _ <| by
    unfold dedup_Table_Next
    obtain ⟨m, hok, hs⟩ := tb_open (hs.perm hf.perm)
    refine wp_ifF ?_ (by simp)
    (repeat (first | with_reducible (first | refine wp_on ?_ | refine wp_nn ?_ | refine wp_nng ?_ | refine wp_ldO hs ?_ | refine wp_ldG hs ?_ | refine wp_untick ?_ | refine wp_tk hs fun _ hs => ?_ | refine wp_newO hs fun _ _ hs => ?_ | refine wp_boxO hs fun _ _ hs => ?_ | refine wp_stO hs fun _ hs => ?_ | refine wp_stG hs fun _ hs => ?_) | (apply wp_must; (focus first | trivial | omega | assumption)) | refine wp_ltw ?_ | refine wp_lt ?_))
    exact ⟨rfl, rfl, tb_close m hok hs⟩

theorem trow_c (pid : Int) [hf : Fo l tb t A r] (hs : Sat w l) : Ret P F.dedup_Table_row #[.pointer (some ⟨t, 0, none⟩), .int .i64 pid] w fun vs w' => vs = [.agg (encW (rowF A pid)).toArray, .bool (rowO A pid).isSome] ∧ Sat w' (tb t A :: r) :=
  dedup_Table_row_calls _ _ <| by
    unfold dedup_Table_row
    obtain ⟨m, hok, hs⟩ := tb_open (hs.perm hf.perm)
    refine wp_newO hs fun a0 w' hs => ?_
    refine wp_nn ?_
    refine wp_ldO hs ?_
    have ho := rowO_look A pid
    unfold rowF
    generalize rowO A pid = o at ho ⊢
    refine wp_lookR hs o ho lookW ?_
    refine wp_u8 _ _ _ _ _ _ _ _ ?_
    refine wp_newO hs fun a12 w' hs => ?_
    refine wp_stG hs fun w' hs => ?_
    refine wp_lt ?_
    cases o with
    | none =>
      refine wp_ifT ?_ (by simp)
      refine wp_stG hs fun w' hs => ?_
      refine wp_ldG hs ?_
      exact ⟨rfl, rfl, tb_close m hok hs⟩
    | some x =>
      refine wp_ifF ?_ (by simp)
      refine wp_ldG hs ?_
      refine wp_stG hs fun w' hs => ?_
      refine wp_ldG hs ?_
      exact ⟨rfl, rfl, tb_close m hok hs⟩

/-- The row that is told: zero where there is none. -/
def rowZ (A : TabA) (pid : Int) : RowA := (rowO A pid).getD ⟨0, 0, 0, 0, 0, 0, 0⟩
theorem tRow_c (pid : Int) [hf : Fo l tb t A r] (hs : Sat w l) : Ret P F.dedup_Table_Row #[.pointer (some ⟨t, 0, none⟩), .int .i64 pid] w fun vs w' => vs = [.agg (encW (rowZ A pid)).toArray, .bool (rowO A pid).isSome] ∧ Sat w' (tb t A :: r) :=
  dedup_Table_Row_calls _ _ <| by
    unfold dedup_Table_Row
    obtain ⟨m, hok, hs⟩ := tb_open (hs.perm hf.perm)
    refine wp_newO hs fun a0 w' hs => ?_
    refine wp_ifF ?_ (by simp)
    refine wp_nn ?_
    refine wp_ldO hs ?_
    refine wp_lookR hs (rowO A pid) (rowO_look A pid) lookW ?_
    refine wp_u8 _ _ _ _ _ _ _ _ ?_
    refine wp_newO hs fun a12 w' hs => ?_
    refine wp_stG hs fun w' hs => ?_
    refine wp_lt ?_
    refine wp_ldG hs ?_
    refine wp_stG hs fun w' hs => ?_
    refine wp_lt ?_
    refine wp_ldG hs ?_
    exact ⟨rfl, rfl, tb_close m hok hs⟩

theorem rnext_c (x : RowA) (h1 : 0 ≤ x.seq + x.count ∧ x.seq + x.count ≤ 2147483648) (hs : Sat w l) : Ret P F.dedup_Row_next #[.agg (encW x).toArray] w fun vs w' => vs = [.int .i64 (x.seq + x.count)] ∧ Sat w' l :=
  dedup_Row_next_calls x.pid x.epoch x.seq x.count x.base x.frm x.time <| by
    unfold dedup_Row_next
    refine wp_boxO hs fun a0 w' hs => ?_
    refine wp_ldO hs ?_
    refine wp_ldO hs ?_
    refine wp_ltw ?_
    exact ⟨rfl, rfl, hs.tail⟩
theorem ropen_c (x : RowA) (hs : Sat w l) : Ret P F.dedup_Row_open #[.agg (encW x).toArray] w fun vs w' => vs = [.bool (decide (0 ≤ x.frm))] ∧ Sat w' l :=
  dedup_Row_open_calls x.pid x.epoch x.seq x.count x.base x.frm x.time <| by
    unfold dedup_Row_open
    refine wp_boxO hs fun a0 w' hs => ?_
    refine wp_ldO hs ?_
    refine wp_lt ?_
    exact ⟨rfl, rfl, hs.tail⟩
theorem tmark_c (b : BatM) (hs : Sat w l) : Ret P F.dedup_mark #[.agg (encB7 b).toArray] w fun vs w' => vs = [.bool (markB b)] ∧ Sat w' l :=
  dedup_mark_calls b.base b.pid b.epoch b.seq b.kind b.time b.x <| by
    unfold dedup_mark
    refine wp_boxO hs fun a0 w' hs => ?_
    refine wp_ldO hs ?_
    refine wp_ldO hs ?_
    refine wp_lt ?_
    exact ⟨rfl, rfl, hs.tail⟩
end
end Go.Dec
