/- Dedup: Expire. -/
import Derived.Test.YtcpmaccapgpgaaaGreatD5
namespace Go.Dec
set_option linter.unusedVariables false
set_option linter.unusedSimpArgs false

def oldR (time : Int) (r : RowA) : Bool := decide (r.frm < 0 ∧ r.time < time)
def expireT (A : TabA) (time : Int) : TabA := ⟨A.most, A.next, leftL time A.rows⟩
def dropL (ys : List Int) (rs : List RowA) : List RowA := rs.filter fun r => !decide (r.pid ∈ ys)
theorem gone_eq (time : Int) (rs : List RowA) : goneL time rs = (rs.filter (oldR time)).map (·.pid) := rfl
theorem gone_sorted {A : TabA} (hok : okTb A) (time : Int) : (goneL time A.rows).Pairwise (· < ·) := by
  rw [gone_eq, List.pairwise_map]
  exact hok.byPid.filter _
theorem gone_nodup {A : TabA} (hok : okTb A) (time : Int) : (goneL time A.rows).Nodup := (gone_sorted hok time).imp fun {a b} h e => by omega
theorem row_uniq {A : TabA} (hok : okTb A) {x y : RowA} (hx : x ∈ A.rows) (hy : y ∈ A.rows) (h : x.pid = y.pid) : x = y := by
  rcases List.mem_cons.1 ((rest_perm hy hok.byPid).mem_iff.1 hx) with h2 | h2
  · exact h2
  · have := (List.mem_filter.1 h2).2
    simp [h] at this
theorem mem_gone {A : TabA} (hok : okTb A) {time : Int} {x : RowA} (hx : x ∈ A.rows) : x.pid ∈ goneL time A.rows ↔ oldR time x = true := by
  rw [gone_eq, List.mem_map]
  constructor
  · rintro ⟨y, hy, e⟩
    obtain ⟨h1, h2⟩ := List.mem_filter.1 hy
    rw [← row_uniq hok h1 hx e]; exact h2
  · intro h
    exact ⟨x, List.mem_filter.2 ⟨hx, h⟩, rfl⟩
theorem expire_ok {A : TabA} (hok : okTb A) (time : Int) : okTb (expireT A time) := by
  have hsub : List.Sublist (leftL time A.rows) A.rows := List.filter_sublist
  refine ⟨hok.most, hok.next, ?_, fun r hr => hok.row r (hsub.mem hr), hok.byPid.sublist hsub, hok.apart.sublist (hsub.filter _)⟩
  have := hsub.length_le
  have := hok.many
  show ((leftL time A.rows).length : Int) ≤ A.most
  omega
theorem drop_all {A : TabA} (hok : okTb A) {time : Int} {ys : List Int} (h : ys.Perm (goneL time A.rows)) : dropL ys A.rows = leftL time A.rows := by
  unfold dropL leftL
  refine List.filter_congr fun r hr => ?_
  have h1 := mem_gone hok (time := time) hr
  rw [← h.mem_iff] at h1
  congr 1
  show decide (r.pid ∈ ys) = oldR time r
  rw [Bool.eq_iff_iff, decide_eq_true_iff, h1]
theorem drop_step {A : TabA} (hok : okTb A) {time : Int} {ys : List Int} (h : ys.Perm (goneL time A.rows)) {i : Nat} (hi : i < ys.length) : ∃ x : RowA, (keyed (dropL (ys.take i) A.rows)).Perm ((ys[i], x) :: keyed (dropL (ys.take (i + 1)) A.rows)) := by
  have hnd : ys.Nodup := h.nodup_iff.2 (gone_nodup hok time)
  have hm : ys[i] ∈ goneL time A.rows := h.mem_iff.1 (List.getElem_mem hi)
  rw [gone_eq] at hm
  obtain ⟨x, hx, e⟩ := List.mem_map.1 hm
  have hxm := (List.mem_filter.1 hx).1
  have htk : ys.take (i + 1) = ys.take i ++ [ys[i]] := List.take_succ_eq_append_getElem hi
  have hno : ys[i] ∉ ys.take i := fun h2 => by
    rw [← List.take_append_drop i ys, List.drop_eq_getElem_cons hi, List.nodup_append] at hnd
    exact hnd.2.2 _ h2 _ (List.mem_cons_self ..) rfl
  have hxd : x ∈ dropL (ys.take i) A.rows := List.mem_filter.2 ⟨hxm, by rw [e]; simp [hno]⟩
  have hp := (rest_perm hxd (hok.byPid.filter _)).map fun r : RowA => (r.pid, r)
  have er : restL x.pid (dropL (ys.take i) A.rows) = dropL (ys.take (i + 1)) A.rows := by
    unfold restL dropL
    rw [List.filter_filter]
    refine List.filter_congr fun r _ => ?_
    rw [htk, e]
    rw [Bool.eq_iff_iff]
    simp only [Bool.and_eq_true, Bool.not_eq_true', decide_eq_false_iff_not, List.mem_append, List.mem_singleton, not_or]
    exact And.comm
  rw [er, List.map_cons, e] at hp
  exact ⟨x, hp⟩
theorem sorted_eqI : ∀ {a b : List Int}, a.Perm b → (a.Pairwise (· ≤ ·)) → (b.Pairwise (· < ·)) → a = b
  | a, [], hp, _, _ => hp.eq_nil
  | [], y :: b, hp, _, _ => absurd hp.symm.eq_nil (by simp)
  | x :: a, y :: b, hp, ha, hb => by
    rw [List.pairwise_cons] at ha hb
    have hxy : x = y := by
      have hx : x ∈ y :: b := hp.mem_iff.1 (List.mem_cons_self ..)
      have hy : y ∈ x :: a := hp.mem_iff.2 (List.mem_cons_self ..)
      rcases List.mem_cons.1 hx with h | h
      · exact h
      · rcases List.mem_cons.1 hy with h2 | h2
        · exact h2.symm
        · have h3 := hb.1 x h
          have h4 := ha.1 y h2
          omega
    subst hxy
    rw [sorted_eqI (List.Perm.cons_inv hp) ha.2 hb.2]

section
variable {w : World} {l r r1 r2 l' : List HP} {t : Nat} {A : TabA}

theorem texpire_c (time : Int) [hf : Fo l tb t A r] (hs : Sat w l) : Ret P F.dedup_Table_Expire #[.pointer (some ⟨t, 0, none⟩), .int .i64 time] w fun vs w' => ∃ z : Sl, vs = [z.v] ∧ Sat w' (slc T.int64 1 z ((goneL time A.rows).flatMap encI) :: tb t (expireT A time) :: r) :=
  dedup_Table_Expire_calls _ _ <| by
    unfold dedup_Table_Expire
    obtain ⟨m, hok, hs⟩ := tb_open (hs.perm hf.perm)
    have hmany := hok.many'
    have hgl : (goneL time A.rows).length ≤ A.rows.length := by rw [gone_eq, List.length_map]; exact List.length_filter_le _ _
    refine wp_ifF ?_ (by simp)
    refine wp_nn ?_
    refine wp_ldO hs ?_
    refine wp_mrange hs fun it w' hs => ?_
    refine wp_mid (fun u w' => ∃ (z : Sl) (ys : List Int), u = (z, ()) ∧ ys.Perm (goneL time A.rows) ∧ Sat w' (slc T.int64 1 z (ys.flatMap encI) :: pt t (.cells #[.int .i64 A.most, .int .i64 A.next, .map (some m)] T.dedup_Table) :: mapP ekI evW m (keyed A.rows) :: r)) ?_ ?_
    · refine wp_loop (fun k u w => ∃ (z : Sl) (ys : List Int) (todo : List (Int × RowA)) (last : Option (Int × RowA)), u = (z, ()) ∧ todo.length = k ∧ (∀ y ∈ todo, y ∈ keyed A.rows) ∧ (ys ++ ((todo.map Prod.snd).filter (oldR time)).map (·.pid)).Perm (goneL time A.rows) ∧
        Sat w (slc T.int64 1 z (ys.flatMap encI) :: itP ekI evW it m (keyed A.rows) todo last :: pt t (.cells #[.int .i64 A.most, .int .i64 A.next, .map (some m)] T.dedup_Table) :: r)) (keyed A.rows).length
        ⟨⟨none, 0, 0⟩, [], keyed A.rows, none, rfl, rfl, fun y hy => hy, by rw [List.nil_append, keyed_snd]; exact .refl _, hs.slc_nil⟩ ?_
      clear hs
      rintro k _ w ⟨z, ys, todo, last, rfl, hk, hsub, hperm, hs⟩
      have hlen := hperm.length_eq
      rw [List.length_append] at hlen
      refine wp_on ?_
      refine wp_mnext hs (fun k y => (k, y.pid, y.epoch, y.seq, y.count, y.base, y.frm, y.time, ())) (fun kk y todo' w' hp hs => ?_) fun h0 => ?_
      · refine wp_u8 kk y.pid y.epoch y.seq y.count y.base y.frm y.time ?_
        refine wp_ment hs (kk, y.pid, y.epoch, y.seq, y.count, y.base, y.frm, y.time, ()) ?_
        refine wp_u8 kk y.pid y.epoch y.seq y.count y.base y.frm y.time ?_
        have hmem : (kk, y) ∈ keyed A.rows := hsub _ (hp.mem_iff.2 (List.mem_cons_self ..))
        obtain ⟨u, hu, e⟩ := List.mem_map.1 hmem
        simp only [Prod.mk.injEq] at e
        obtain ⟨rfl, rfl⟩ := e
        have hsub' : ∀ v ∈ todo', v ∈ keyed A.rows := fun v hv => hsub v (hp.mem_iff.2 (List.mem_cons_of_mem _ hv))
        have hlt : todo'.length < k := by rw [← hk, hp.length_eq, List.length_cons]; omega
        have hp2 : (((todo.map Prod.snd).filter (oldR time)).map (·.pid)).Perm ((((u.pid, u) :: todo').map Prod.snd).filter (oldR time) |>.map (·.pid)) := ((hp.map Prod.snd).filter _).map _
        refine wp_newO hs fun c w' hs => ?_
        refine wp_lt ?_
        refine wp_stG hs fun w' hs => ?_
        refine wp_ldG hs ?_
        refine wp_call (ropen_c u hs) fun _ _ hs => ?_
        obtain ⟨rfl, hs⟩ := hs
        refine ret_of ?_
        refine wp_ldO hs ?_
        refine wp_mid (fun v w' => ∃ (z : Sl) (ys' : List Int), v = (z, ()) ∧ (ys' ++ ((todo'.map Prod.snd).filter (oldR time)).map (·.pid)).Perm (goneL time A.rows) ∧
          Sat w' (slc T.int64 1 z (ys'.flatMap encI) :: itP ekI evW it m (keyed A.rows) todo' (some (u.pid, u)) :: pt t (.cells #[.int .i64 A.most, .int .i64 A.next, .map (some m)] T.dedup_Table) :: r)) ?_ ?_
        rotate_left
        · rintro _ w' ⟨z, ys', rfl, h1, hs⟩
          refine wp_on ?_
          refine wp_lp todo'.length ?_
          exact ⟨z, ys', todo', some (u.pid, u), rfl, rfl, hsub', h1, hs⟩
        refine wp_if (fun h => ?_) fun h => ?_
        · have ho : oldR time u = true := by unfold oldR; simp only [decide_eq_true_eq]; simpa using h
          rw [List.map_cons, List.filter_cons, if_pos ho, List.map_cons] at hp2
          refine wp_ap0 hs (xs := ys) (enc := encI) u.pid (fun z w' hs => ?_)
          refine wp_lv ⟨z, ys ++ [u.pid], rfl, ?_, hs.sub⟩
          rw [List.append_assoc, List.singleton_append]
          exact ((List.Perm.append_left ys hp2).symm).trans hperm
        · have ho : ¬ oldR time u = true := by unfold oldR; simp only [decide_eq_true_eq]; simpa using h
          rw [List.map_cons, List.filter_cons, if_neg ho] at hp2
          refine wp_lv ⟨z, ys, rfl, ?_, hs.sub⟩
          exact ((List.Perm.append_left ys hp2).symm).trans hperm
      · refine wp_pass (wp_lv ⟨z, ys, rfl, ?_, ?_⟩)
        · subst h0
          simpa using hperm
        · have hs := (hs.pick [1]).itDone
          exact hs.sub
    clear hs
    rintro _ w ⟨z, ys, rfl, hperm, hs⟩
    refine wp_on ?_
    have hlen := hperm.length_eq
    have hzl := hs.slen z (xs := ys) (enc := encI)
    have hs : Sat w (slc T.int64 1 z (ys.flatMap encI) :: pt t (.cells #[.int .i64 A.most, .int .i64 A.next, .map (some m)] T.dedup_Table) :: mapP ekI evW m (keyed (dropL (ys.take 0) A.rows)) :: r) := by
      have e : dropL (ys.take 0) A.rows = A.rows := List.filter_eq_self.2 fun r _ => by simp
      rw [e]; exact hs
    refine wp_mid (fun _ w' => Sat w' (slc T.int64 1 z (ys.flatMap encI) :: tb t (expireT A time) :: r)) ?_ ?_
    · refine wp_loop (fun k u w => ∃ i : Nat, u = ((i : Int), ()) ∧ i ≤ ys.length ∧ ys.length - i = k ∧ Sat w (slc T.int64 1 z (ys.flatMap encI) :: pt t (.cells #[.int .i64 A.most, .int .i64 A.next, .map (some m)] T.dedup_Table) :: mapP ekI evW m (keyed (dropL (ys.take i) A.rows)) :: r)) ys.length ⟨0, rfl, by omega, rfl, hs⟩ ?_
      clear hs
      rintro k _ w ⟨i, rfl, hi, hk, hs⟩
      refine wp_on ?_
      refine wp_if (fun hc => ?_) fun hc => ?_
      rotate_left
      · obtain rfl : i = ys.length := by omega
        rw [List.take_length, drop_all hok hperm] at hs
        refine wp_pass (wp_lv ?_)
        exact (tb_mk m (A := expireT A time) (expire_ok hok time) (hs.pick [1, 1])).pick [1]
      have hil : i < ys.length := by omega
      obtain ⟨x, hx⟩ := drop_step hok hperm hil
      refine wp_ix1 hs (xs := ys) (enc := encI) i hil ?_
      generalize ys[i] = y at *
      refine wp_lt ?_
      refine wp_nn ?_
      refine wp_ldO hs ?_
      refine wp_mdel hs _ (.inl ⟨x, hx⟩) fun w' hs => ?_
      refine wp_dn (us' := [.int .i64 ((i + 1 : Nat) : Int)]) (by (try simp (disch := omega) only [w64]); first | rfl | (congr; omega)) ?_
      refine wp_lp (ys.length - (i + 1)) ?_
      exact ⟨i + 1, rfl, by omega, rfl, hs.sub⟩
    clear hs
    rintro _ w hs
    refine wp_on ?_
    have hs : Sat w (ints z ys :: tb t (expireT A time) :: r) := hs
    refine wp_call (sort_int64_c z ys (by omega) hs) fun _ w' h => ?_
    obtain ⟨rfl, us, hp, hso, hs⟩ := h
    refine ret_of ?_
    rw [sorted_eqI (hp.trans hperm) hso (gone_sorted hok time)] at hs
    exact ⟨rfl, z, rfl, hs⟩
end
end Go.Dec
