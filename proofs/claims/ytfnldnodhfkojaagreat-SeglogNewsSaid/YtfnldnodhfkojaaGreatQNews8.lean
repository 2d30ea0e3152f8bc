/- What the claim of this folder leans on: our own texts, joined, without what it does not use. -/
import Derived.Test.YtfnldnodhfkojaaGreatRows
import Derived.WalkKit
import Derived.ProofKit
import Derived.OpenShut
import Derived.RowKit3
import Derived.OrdersHeld
import Derived.Scope
import Derived.KernelRfl
import Derived.Laws.Sem
import Derived.Laws.StructEq
import Derived.Deep.AppendSrc
import Derived.Laws.BytesArg
import Derived.Laws.RangeString
import Derived.Maps.RangeRun
import Derived.Lib.ConvBytes
import Derived.Lib.SlBytesConst
import Derived.ChangeSlices
import Derived.ChangeMaps5
import Derived.ChangeSame
import Derived.Deep.Slices
import Derived.Deep.Fields
import Derived.Test.YtfnldnodhfkojaaGreatProg
import Derived.Laws.MakeOwn
import Derived.Sort.MapsRangeIn
import Derived.Sort.KeysCollected
import Derived.RangeFuncNested
import Derived.RangeFuncBound
import Derived.RangeFuncCalls
import Derived.RangeFuncLeaves
import Derived.RangeFuncBox
import Derived.OwnWalkIn
import Derived.TacticsInMore
import Derived.RegionIn
import Derived.LoopNIn
import Derived.LoopIn
import Derived.Maps.AppendAt
import Derived.Shelf.Abstract
import Derived.Test.YtfnldnodhfkojaaGreatQNews1
import Derived.Test.YtfnldnodhfkojaaGreatQNews2
import Derived.Test.YtfnldnodhfkojaaGreatQNews3
import Derived.Test.YtfnldnodhfkojaaGreatQNews4
import Derived.Test.YtfnldnodhfkojaaGreatQNews5
import Derived.Test.YtfnldnodhfkojaaGreatQNews6
import Derived.Test.YtfnldnodhfkojaaGreatQNews7
namespace Go.Dec
set_option linter.unusedVariables false
set_option linter.unusedSimpArgs false
def okCfg (seg gap : Int) : Prop := (64 ≤ seg ∧ seg ≤ 4194304) ∧ (1 ≤ gap ∧ gap ≤ 4194304)
instance (seg gap : Int) : Decidable (okCfg seg gap) := by unfold okCfg; infer_instance
section
variable {w : World} {l r : List HP} {lg d : Nat} {M : LogM} {A : LogA} {D : DiskA}
theorem lopen_nil (pre : ByteArray) (seg gap : Int) (hs : Sat w l) : Ret P F.seglog_Open #[.pointer none, .string pre, .agg #[.int .i64 seg, .int .i64 gap]] w fun vs w' => vs = [.pointer none, .int .i64 1] ∧ Sat w' l :=
  seglog_Open_calls _ pre seg gap <| by
    unfold seglog_Open
    refine wp_boxO hs fun a0 w' hs => ?_
    refine wp_lt ?_
    refine wp_ifT ?_ (by rfl)
    exact ⟨rfl, rfl, hs.tail⟩
theorem lopen_bad (pre : ByteArray) (seg gap : Int) (hbad : ¬ (preS pre = true ∧ okCfg seg gap)) (hs : Sat w l) : Ret P F.seglog_Open #[.pointer (some ⟨d, 0, none⟩), .string pre, .agg #[.int .i64 seg, .int .i64 gap]] w fun vs w' => vs = [.pointer none, .int .i64 2] ∧ Sat w' l :=
  seglog_Open_calls _ pre seg gap <| by
    unfold seglog_Open
    refine wp_boxO hs fun a0 w' hs => ?_
    refine wp_lt ?_
    refine wp_ifF ?_ (by simp)
    refine wp_mid (fun q w' => q = (true, ()) ∧ Sat w' l) ?_ ?_
    rotate_left
    · rintro _ w2 ⟨rfl, hs⟩
      refine wp_ifT ?_ trivial
      exact ⟨rfl, rfl, hs⟩
    refine wp_call (prefix_l pre hs) fun _ w' hs => ?_
    obtain ⟨rfl, hs⟩ := hs
    refine ret_of ?_
    refine wp_ldG hs ?_
    refine wp_if (fun h => ?_) fun h => ?_
    · exact wp_lv ⟨rfl, hs.tail⟩
    · have h : preS pre = true := by simpa using h
      refine wp_call (lmay_c seg gap hs) fun _ w' hs => ?_
      obtain ⟨rfl, hs⟩ := hs
      refine ret_of ?_
      refine wp_lt ?_
      refine wp_lv ⟨?_, hs.tail⟩
      have : ¬ ((64 ≤ seg ∧ seg ≤ 4194304) ∧ (1 ≤ gap ∧ gap ≤ 4194304)) := fun hh => hbad ⟨h, hh⟩
      rw [decide_eq_false this]
      rfl
/-- What stands ahead of the disk's question. -/
theorem lopen_gone (pre : ByteArray) (seg gap : Int) (hp : preS pre = true) (hc : okCfg seg gap) (hg : D.gone = true) [hf : Fo l dk d D r] (hs : Sat w l) : Ret P F.seglog_Open #[.pointer (some ⟨d, 0, none⟩), .string pre, .agg #[.int .i64 seg, .int .i64 gap]] w fun vs w' => vs = [.pointer none, .int .i64 9] ∧ Sat w' (dk d D :: r) :=
  seglog_Open_calls _ pre seg gap <| by
    unfold seglog_Open
    have hs := hs.perm hf.perm
    refine wp_boxO hs fun a0 w' hs => ?_
    refine wp_lt ?_
    refine wp_ifF ?_ (by simp)
    refine wp_mid (fun q w' => q = (false, ()) ∧ Sat w' (dk d D :: r)) ?_ ?_
    · refine wp_call (prefix_l pre hs) fun _ w' hs => ?_
      obtain ⟨rfl, hs⟩ := hs
      refine ret_of ?_
      refine wp_ldG hs ?_
      refine wp_ifF ?_ (by rw [hp]; simp)
      refine wp_call (lmay_c seg gap hs) fun _ w' hs => ?_
      obtain ⟨rfl, hs⟩ := hs
      refine ret_of ?_
      refine wp_lt ?_
      refine wp_lv ⟨?_, hs.tail⟩
      have : ((64 ≤ seg ∧ seg ≤ 4194304) ∧ (1 ≤ gap ∧ gap ≤ 4194304)) := hc
      rw [decide_eq_true this]
      rfl
    rintro _ w2 ⟨rfl, hs⟩
    refine wp_ifF ?_ (by simp)
    refine wp_call (gone_c (d := d) hs) fun _ w' hs => ?_
    obtain ⟨rfl, hs⟩ := hs
    refine ret_of ?_
    refine wp_lt ?_
    refine wp_ifT ?_ hg
    exact ⟨rfl, rfl, hs⟩
set_option maxHeartbeats 1000000 in
theorem lopen_c (pre : ByteArray) (seg gap : Int) (hp : preS pre = true) (hc : okCfg seg gap) (hg : D.gone = false) [hf : Fo l dk d D r] (hs : Sat w l) : Ret P F.seglog_Open #[.pointer (some ⟨d, 0, none⟩), .string pre, .agg #[.int .i64 seg, .int .i64 gap]] w fun vs w' =>
    ((lopenA pre D).1 ≠ 0 ∧ vs = [.pointer none, .int .i64 (lopenA pre D).1] ∧ Sat w' (dk d (lopenA pre D).2.2 :: r)) ∨
    ((lopenA pre D).1 = 0 ∧ ∃ lg, vs = [.pointer (some ⟨lg, 0, none⟩), .int .i64 0] ∧ Sat w' (lgP lg ⟨d, pre, seg, gap, (lopenA pre D).2.1⟩ :: dk d (lopenA pre D).2.2 :: r)) :=
  seglog_Open_calls _ pre seg gap <| by
    unfold seglog_Open
    have hs := hs.perm hf.perm
    obtain ⟨m_, FS_, -, hokD, -⟩ := dk_open hs
    refine wp_boxO hs fun a0 w' hs => ?_
    refine wp_lt ?_
    refine wp_ifF ?_ (by simp)
    refine wp_mid (fun q w' => q = (false, ()) ∧ Sat w' (dk d D :: pt a0 (.cells #[.int .i64 seg, .int .i64 gap] T.seglog_Config) :: r)) ?_ ?_
    · refine wp_call (prefix_l pre hs) fun _ w' hs => ?_
      obtain ⟨rfl, hs⟩ := hs
      refine ret_of ?_
      refine wp_ldG hs ?_
      refine wp_ifF ?_ (by rw [hp]; simp)
      refine wp_call (lmay_c seg gap hs) fun _ w' hs => ?_
      obtain ⟨rfl, hs⟩ := hs
      refine ret_of ?_
      refine wp_lt ?_
      refine wp_lv ⟨?_, hs.sub⟩
      have : ((64 ≤ seg ∧ seg ≤ 4194304) ∧ (1 ≤ gap ∧ gap ≤ 4194304)) := hc
      rw [decide_eq_true this]
      rfl
    rintro _ w2 ⟨rfl, hs⟩
    refine wp_ifF ?_ (by simp)
    refine wp_call (gone_c (d := d) hs) fun _ w' hs => ?_
    obtain ⟨rfl, hs⟩ := hs
    refine ret_of ?_
    refine wp_lt ?_
    refine wp_ifF ?_ (by rw [hg]; simp)
    refine wp_ldG hs ?_
    refine wp_boxO hs fun lg w' hs => ?_
    have hokm : okM gap seg pre := ⟨hc.2, hc.1, hp⟩
    have hs : Sat w' (lgQ lg ⟨d, pre, seg, gap, ⟨none, 0, 0⟩, []⟩ :: dk d D :: r) := by
      refine lgQ_close ⟨d, pre, seg, gap, ⟨none, 0, 0⟩, []⟩ hokm ?_
      have h1 : Sat w' (HP.all (([] : List (Nat × SegM)).map fun t => segP gap t.1 t.2) :: pt lg (.cells #[.pointer (some ⟨d, 0, none⟩), .string pre, .int .i64 seg, .int .i64 gap, .slice none 0 0] T.seglog_Log) :: dk d D :: r) := by
        have hs : Sat w' (pt lg (.cells #[.pointer (some ⟨d, 0, none⟩), .string pre, .int .i64 seg, .int .i64 gap, .slice none 0 0] T.seglog_Log) :: dk d D :: r) := hs.sub
        exact Sat.all_nil hs
      have h2 : Sat w' (slc T.p_seglog_segment 1 ⟨none, 0, 0⟩ (((([] : List (Nat × SegM))).map Prod.fst).flatMap encP) :: _) := h1.slc_nil
      exact h2.pick [2]
    unfold lopenA
    refine wp_call (files_c (lg := lg) (M := ⟨d, pre, seg, gap, ⟨none, 0, 0⟩, []⟩) (D := D) hs) fun _ w' hs => ?_
    have hnl : (filesL pre (namesF (dashN pre) D.fs) D).2.1.length ≤ 128 := by
      refine Nat.le_trans filesL_len ?_
      unfold namesF
      exact Nat.le_trans (List.length_filter_le _ _) (by rw [List.length_map]; exact hokD.many)
    have hlt := filesL_lt (pre := pre) (ns := namesF (dashN pre) D.fs) (D := D)
    rcases hs with ⟨he, rfl, hs⟩ | ⟨he, x, rfl, hs⟩
    · have he : (filesL pre (namesF (dashN pre) D.fs) D).1 ≠ 0 := he
      refine ret_of ?_
      refine wp_lt ?_
      refine wp_ifT ?_ he
      refine wp_lt ?_
      rw [if_pos he]
      exact ⟨rfl, .inl ⟨he, rfl, hs.tail⟩⟩
    have he : (filesL pre (namesF (dashN pre) D.fs) D).1 = 0 := he
    refine ⟨(x, 0, ()), rfl, trivial, wp_u2 _ _ ?_⟩
    refine wp_lt ?_
    refine wp_ifF ?_ (by simp)
    rw [if_neg (by rw [he]; simp)]
    have hs : Sat w' (slc T.int64 1 x ((filesL pre (namesF (dashN pre) D.fs) D).2.1.flatMap encI) :: lgQ lg ⟨d, pre, seg, gap, ⟨none, 0, 0⟩, []⟩ :: dk d (filesL pre (namesF (dashN pre) D.fs) D).2.2 :: r) := hs
    generalize (filesL pre (namesF (dashN pre) D.fs) D).2.2 = D1 at *
    generalize (filesL pre (namesF (dashN pre) D.fs) D).2.1 = bs at *
    have hl := hs.slen x (xs := bs) (enc := encI)
    have hcap := hs.slc_cap
    refine wp_mid (fun q w' => ∃ M : LogM, q = ((openS pre bs [] D1).1, ()) ∧ (M.d = d ∧ M.pre = pre ∧ M.seg = seg ∧ M.gap = gap) ∧ M.l = (openS pre bs [] D1).2.1 ∧ Sat w' (lgQ lg M :: dk d (openS pre bs [] D1).2.2 :: r)) ?_ ?_
    rotate_left
    · rintro _ w3 ⟨M, rfl, ⟨rfl, rfl, rfl, rfl⟩, h2, hs⟩
      refine wp_if (fun h => ?_) fun h => ?_
      · refine wp_lt ?_
        exact ⟨rfl, .inl ⟨h, rfl, hs.tail⟩⟩
      · have h : (openS M.pre bs [] D1).1 = 0 := Decidable.not_not.1 h
        refine ⟨rfl, .inr ⟨h, lg, rfl, ?_⟩⟩
        have := lgP_close M hs
        have e : M.A = ⟨M.d, M.pre, M.seg, M.gap, (openS M.pre bs [] D1).2.1⟩ := by rw [← h2]; rfl
        rw [← e]
        exact this
    refine wp_loop (fun m v w => ∃ (i : Nat) (M : LogM) (D' : DiskA), v = ((0 : Int), ((i : Int), ())) ∧ i ≤ bs.length ∧ bs.length - i = m ∧ M.SM.length ≤ i ∧ openS pre bs [] D1 = openS pre (bs.drop i) M.l D' ∧ (M.d = d ∧ M.pre = pre ∧ M.seg = seg ∧ M.gap = gap) ∧
      Sat w (slc T.int64 1 x (bs.flatMap encI) :: lgQ lg M :: dk d D' :: r)) bs.length ⟨0, ⟨d, pre, seg, gap, ⟨none, 0, 0⟩, []⟩, D1, rfl, by omega, rfl, by simp, rfl, ⟨rfl, rfl, rfl, rfl⟩, hs⟩ ?_
    clear hs
    rintro m _ w ⟨i, M, D', rfl, hi, hm, hsm, hq, ⟨rfl, rfl, rfl, rfl⟩, hsn⟩
    have hs := hsn
    refine wp_on ?_
    refine wp_if (fun hcc => ?_) fun hcc => ?_
    rotate_left
    · have e : bs.drop i = [] := List.drop_eq_nil_of_le (by omega)
      rw [e] at hq
      have hq : openS M.pre bs [] D1 = (0, M.l, D') := hq
      rw [hq]
      exact wp_pass (wp_lv ⟨M, rfl, ⟨rfl, rfl, rfl, rfl⟩, rfl, hs.sub⟩)
    have hil : i < bs.length := by omega
    rw [List.drop_eq_getElem_cons hil] at hq
    have hbb := hlt bs[i] (List.getElem_mem hil)
    have hun : openS M.pre (bs[i] :: bs.drop (i + 1)) M.l D' = if bs[i] < nextL M.l then (if (remA D' (nameS M.pre bs[i] logX)).1 ≠ 0 then ((remA D' (nameS M.pre bs[i] logX)).1, M.l, (remA D' (nameS M.pre bs[i] logX)).2) else openS M.pre (bs.drop (i + 1)) M.l (remA D' (nameS M.pre bs[i] logX)).2) else
      if (scanA M.pre M.l D' bs[i]).1.2 ≠ 0 then ((scanA M.pre M.l D' bs[i]).1.2, (scanA M.pre M.l D' bs[i]).2) else
      if (scanA M.pre M.l D' bs[i]).1.1 = true then openS M.pre (bs.drop (i + 1)) (scanA M.pre M.l D' bs[i]).2.1 (scanA M.pre M.l D' bs[i]).2.2 else ((dropL M.pre (bs.drop (i + 1)) (scanA M.pre M.l D' bs[i]).2.2).1, (scanA M.pre M.l D' bs[i]).2.1, (dropL M.pre (bs.drop (i + 1)) (scanA M.pre M.l D' bs[i]).2.2).2) := rfl
    have ei : IntKind.wrap .i64 ((i : Int) + 1) = ((i + 1 : Nat) : Int) := by rw [w64 (by omega) (by omega)]; omega
    refine wp_mid (fun q w' => ∃ (M2 : LogM) (D2 : DiskA), q = ((0 : Int), ()) ∧ M2.SM.length ≤ i + 1 ∧ openS M.pre bs [] D1 = openS M.pre (bs.drop (i + 1)) M2.l D2 ∧ (M2.d = M.d ∧ M2.pre = M.pre ∧ M2.seg = M.seg ∧ M2.gap = M.gap) ∧
      Sat w' (slc T.int64 1 x (bs.flatMap encI) :: lgQ lg M2 :: dk M.d D2 :: r)) ?_ ?_
    rotate_left
    · rintro _ w3 ⟨M2, D2, rfl, h1, h2, h3, hs⟩
      rw [ei]
      exact wp_lp (bs.length - (i + 1)) ⟨i + 1, M2, D2, rfl, by omega, rfl, h1, h2, h3, hs⟩
    refine wp_ix1 hs (xs := bs) (enc := encI) i hil ?_
    refine wp_lt ?_
    refine wp_lt ?_
    refine wp_call (lnext_c (lg := lg) (by omega) hs) fun _ w' hs => ?_
    obtain ⟨rfl, hs⟩ := hs
    refine ret_of ?_
    refine wp_if (fun h1 => ?_) fun h1 => ?_
    · rw [if_pos h1] at hun
      obtain ⟨hokm, hs⟩ := lgQ_cell hs
      refine wp_call (name_c0 (lg := lg) bs[i] hbb (ByteArray.mk #[46, 108, 111, 103]) (by decide) M.pre hokm.size hs) fun _ w' hs => ?_
      obtain ⟨rfl, hs⟩ := hs
      refine ret_of ?_
      refine wp_call (remove_c (d := M.d) (A := D') (nameS M.pre bs[i] (bl (ByteArray.mk #[46, 108, 111, 103]))) hs) fun _ w' hs => ?_
      obtain ⟨rfl, hs⟩ := hs
      refine ret_of ?_
      refine wp_lt ?_
      have en : nameS M.pre bs[i] (bl (ByteArray.mk #[46, 108, 111, 103])) = nameS M.pre bs[i] logX := rfl
      rw [en] at hs ⊢
      have hs := lgQ_uncell M hokm (hs.pick [1, 1])
      refine wp_if (fun h2 => ?_) fun h2 => ?_
      · rw [if_pos h2] at hun
        rw [hun] at hq
        rw [hq]
        exact wp_pass (wp_pass (wp_lv ⟨M, rfl, ⟨rfl, rfl, rfl, rfl⟩, rfl, hs.sub⟩))
      · rw [if_neg h2] at hun
        rw [hun] at hq
        have h2 := Decidable.not_not.1 h2
        rw [h2]
        exact wp_lv ⟨M, _, rfl, by omega, hq, ⟨rfl, rfl, rfl, rfl⟩, hs.sub⟩
    · rw [if_neg h1] at hun
      refine wp_call (scan_c (lg := lg) (D := D') bs[i] hbb (by omega) hs) fun _ w' hs => ?_
      obtain ⟨rfl, M2, ⟨e1, e2, e3, e4⟩, hMl, hMs, hs⟩ := hs
      refine ret_of ?_
      refine wp_lt ?_
      refine wp_lt ?_
      have hs : Sat w' (lgQ lg M2 :: dk M.d (scanA M.pre M.l D' bs[i]).2.2 :: slc T.int64 1 x (bs.flatMap encI) :: r) := hs
      generalize scanA M.pre M.l D' bs[i] = SC at *
      obtain ⟨⟨b0, e0⟩, l0, D0⟩ := SC
      dsimp only at hun hMl hs ⊢
      refine wp_if (fun h2 => ?_) fun h2 => ?_
      · obtain ⟨h2a, h2b⟩ := h2
        have h2a : e0 = 0 := h2a
        have h2b : b0 = false := by simpa using h2b
        rw [if_neg (by rw [h2a]; simp), if_neg (by rw [h2b]; simp)] at hun
        rw [ei]
        refine wp_must (by omega) ?_
        rw [Int.toNat_natCast]
        rw [← e1] at hs
        have hx : FocR (slc T.int64 1 x (bs.flatMap encI) :: r) ⟨cutA x.a 1 (i + 1) x.cap, x.len - (i + 1), x.cap - (i + 1)⟩ 1 ((bs.drop (i + 1)).flatMap encI) := FocR.post hcap
        refine wp_call (drop_c6 (lg := lg) (M := M2) (D := D0) ⟨cutA x.a 1 (i + 1) x.cap, x.len - (i + 1), x.cap - (i + 1)⟩ (bs.drop (i + 1)) (fun b hb => hlt b (List.mem_of_mem_drop hb)) hx (by rw [List.length_drop]; omega) hs) fun _ w' hs => ?_
        obtain ⟨rfl, hs⟩ := hs
        refine ret_of ?_
        refine wp_lt ?_
        rw [e2, e1] at hs
        rw [e2]
        rw [hun] at hq
        rw [hq]
        refine wp_pass (wp_pass (wp_lv ⟨M2, rfl, ⟨e1, e2, e3, e4⟩, hMl, hs.sub⟩))
      · refine wp_if (fun h3 => ?_) fun h3 => ?_
        · rw [if_pos h3] at hun
          rw [hun] at hq
          rw [hq]
          refine wp_pass (wp_pass (wp_lv ⟨M2, rfl, ⟨e1, e2, e3, e4⟩, hMl, hs.sub⟩))
        · have h3 : e0 = 0 := Decidable.not_not.1 h3
          have h4 : b0 = true := by
            cases hb0 : b0 with
            | true => rfl
            | false => exact absurd ⟨h3, by rw [hb0]; simp⟩ h2
          rw [if_neg (by rw [h3]; simp), if_pos h4, ← hMl] at hun
          rw [hun] at hq
          rw [h3]
          exact wp_lv ⟨M2, D0, rfl, by omega, hq, ⟨e1, e2, e3, e4⟩, hs.sub⟩
end
end Go.Dec
namespace Go.Dec
set_option linter.unusedVariables false
set_option linter.unusedSimpArgs false
theorem placeL_bs : ∀ {bs : List BatM} {n : Int}, 0 ≤ n → (placeL n bs).1 = 0 → BsOk n ((placeL n bs).2.map BatM.p) ∧ (∀ b ∈ (placeL n bs).2, n ≤ b.base)
  | [], n, _, _ => ⟨trivial, fun _ h => by cases h⟩
  | b :: bs, n, hn, h => by
    unfold placeL at h ⊢
    by_cases h1 : validB (b.to n) ≠ 0
    · rw [if_pos h1] at h; exact absurd h h1
    rw [if_neg h1] at h ⊢
    by_cases h2 : (placeL (n + spanB b) bs).1 ≠ 0
    · rw [if_pos h2] at h; exact absurd h h2
    rw [if_neg h2]
    have hv := Decidable.not_not.1 h1
    obtain ⟨s1, -, -, -, -⟩ := span_le _ hv
    have s1 : 1 ≤ spanB b := s1
    obtain ⟨i1, i2⟩ := placeL_bs (n := n + spanB b) (by omega) (Decidable.not_not.1 h2)
    refine ⟨⟨hv, rfl, Int.le_refl _, i1⟩, fun c hc => ?_⟩
    rcases List.mem_cons.1 hc with rfl | hc
    · exact Int.le_refl _
    · have := i2 c hc; omega
theorem BsOk.append : ∀ {n : Int} {cs bs : List BatM}, 0 ≤ n → BsOk n cs → BsOk (max n (nextG cs)) bs → BsOk n (cs ++ bs)
  | n, [], bs, hn, _, h2 => h2.mono (by show n ≤ max n 0; omega)
  | n, a :: cs, bs, hn, ⟨h1, h2, h3, h4⟩, hb => by
    obtain ⟨s1, -, ⟨-, hba, -⟩, -, -⟩ := span_le a h1
    refine ⟨h1, h2, h3, h4.append (by omega) (hb.mono ?_)⟩
    have h5 : a.base + spanB a ≤ nextG (a :: cs) := BsOk.le_next (n := n) (bs := a :: cs) ⟨h1, h2, h3, h4⟩ (List.mem_cons_self ..)
    have h6 : nextG cs ≤ nextG (a :: cs) := by
      cases cs with
      | nil => show (0 : Int) ≤ _; omega
      | cons c ds => exact Int.le_refl _
    omega
theorem SegsOk.mono {m n : Int} {l : List SegA} (h : SegsOk n l) (hm : m ≤ n) : SegsOk m l := by
  cases l with
  | nil => trivial
  | cons s l => exact ⟨by have := h.1; omega, h.2.1, h.2.2⟩
theorem nextL_snoc (l : List SegA) (s : SegA) : nextL (l ++ [s]) = s.reach := by unfold nextL; rw [getLast_snoc]
theorem addLast_snoc (l : List SegA) (s : SegA) (bs : List BatM) : addLast (l ++ [s]) bs = l ++ [s.add bs] := by unfold addLast; rw [getLast_snoc]; simp
/-- A list of segments, one behind the others. -/
theorem SegsOk.snoc : ∀ {n : Int} {l : List SegA} {s : SegA}, SegsOk n l → SegOk s → n ≤ s.base → (∀ t ∈ l, t.reach ≤ s.base ∧ t.base < s.base) → SegsOk n (l ++ [s])
  | n, [], s, _, hs, hn, _ => ⟨hn, hs, trivial⟩
  | n, a :: l, s, ⟨h1, h2, h3⟩, hs, hn, ht => by
    have := ht a (List.mem_cons_self ..)
    exact ⟨h1, h2, h3.snoc hs (by omega) fun t h => ht t (List.mem_cons_of_mem _ h)⟩
theorem SegsOk.front : ∀ {n : Int} {l : List SegA} {s : SegA}, SegsOk n (l ++ [s]) → SegsOk n l ∧ SegOk s ∧ n ≤ s.base ∧ ∀ t ∈ l, t.reach ≤ s.base ∧ t.base < s.base
  | n, [], s, h => ⟨trivial, h.2.1, h.1, fun _ h => by cases h⟩
  | n, a :: l, s, ⟨h1, h2, h3⟩ => by
    obtain ⟨i1, i2, i3, i4⟩ := h3.front
    have := (reach_le h2).1
    refine ⟨⟨h1, h2, i1⟩, i2, by omega, fun t ht => ?_⟩
    rcases List.mem_cons.1 ht with rfl | ht
    · omega
    · exact i4 t ht
theorem add_reach {s : SegA} (hs : SegOk s) {bs : List BatM} {n : Int} (h : (placeL n bs).1 = 0) (hn : n = s.reach) : SegOk (s.add (placeL n bs).2) := by
  have hr := reach_le hs
  have hb := hs.base
  refine ⟨hs.base, hs.fin, ?_⟩
  subst hn
  have hm : max s.base (nextG s.bs) ≤ s.reach := by omega
  exact hs.bs.append hb.1 ((placeL_bs (by omega) h).1.mono hm)
theorem place_valid {bs : List BatM} {n : Int} (h : (placeL n bs).1 = 0) (hb : bs ≠ []) : 0 ≤ n ∧ n ≤ 1099511627776 := by
  cases bs with
  | nil => exact absurd rfl hb
  | cons b bs =>
    unfold placeL at h
    by_cases h1 : validB (b.to n) ≠ 0
    · rw [if_pos h1] at h; exact absurd h h1
    · obtain ⟨-, -, ⟨-, hba, -⟩, -, -⟩ := span_le _ (Decidable.not_not.1 h1)
      exact hba
/-- What a log comes to where batches are appended; no disk. -/
def rappA (seg : Int) (l : List SegA) (bs : List BatM) : (Int × Int) × List SegA :=
  if bs = [] then ((0, 3), l) else if (placeL (nextL l) bs).1 ≠ 0 then ((0, (placeL (nextL l) bs).1), l) else
  ((nextL l, 0), if roomy seg l ((placeL (nextL l) bs).2.flatMap frL).length then addLast l (placeL (nextL l) bs).2 else l ++ [(⟨nextL l, 0, []⟩ : SegA).add (placeL (nextL l) bs).2])
theorem rapp_segs {seg : Int} {l : List SegA} {bs : List BatM} (h : SegsOk 0 l) : SegsOk 0 (rappA seg l bs).2 := by
  unfold rappA
  split
  · exact h
  rename_i hb
  split
  · exact h
  rename_i hp
  have hp := Decidable.not_not.1 hp
  have hv := place_valid hp hb
  simp only
  split
  · rename_i hr
    have hne : l ≠ [] := by rintro rfl; cases hr
    obtain ⟨l0, s, rfl⟩ := snoc_of hne
    rw [addLast_snoc]
    obtain ⟨h1, h2, h3, h4⟩ := h.front
    exact h1.snoc (add_reach h2 hp (nextL_snoc _ _)) h3 h4
  · rename_i hr
    have hs : SegOk ((⟨nextL l, 0, []⟩ : SegA).add (placeL (nextL l) bs).2) := by
      refine ⟨hv, .inl rfl, ?_⟩
      show BsOk _ ([] ++ _)
      rw [List.nil_append]
      exact (placeL_bs hv.1 hp).1
    refine h.snoc hs hv.1 fun t ht => ?_
    show t.reach ≤ nextL l ∧ t.base < nextL l
    have hne : l ≠ [] := List.ne_nil_of_mem ht
    obtain ⟨l0, s, rfl⟩ := snoc_of hne
    obtain ⟨h1, h2, h3, h4⟩ := h.front
    rw [nextL_snoc]
    have hsr := reach_le h2
    -- the last one has a batch
    have hlast : s.base < s.reach := by
      have hr2 : roomy seg (l0 ++ [s]) ((placeL (nextL (l0 ++ [s])) bs).2.flatMap frL).length = false := by simpa using hr
      unfold roomy at hr2
      rw [getLast_snoc] at hr2
      simp only [Bool.or_eq_false_iff, decide_eq_false_iff_not] at hr2
      have hbs : s.bs ≠ [] := by rintro hbs; rw [hbs] at hr2; exact hr2.1 rfl
      have := hsr.2.2.2.2 hbs
      omega
    rcases List.mem_append.1 ht with ht | ht
    · have := h4 t ht; omega
    · simp only [List.mem_cons, List.not_mem_nil, or_false] at ht
      subst ht
      exact ⟨Int.le_refl _, hlast⟩
/-- Append: as without a disk, or it is refused. -/
theorem lapp_cases (pre : ByteArray) (seg : Int) (l : List SegA) (D : DiskA) (bs : List BatM) : ((lappA pre seg l D bs).1 = (rappA seg l bs).1 ∧ (lappA pre seg l D bs).2.1 = (rappA seg l bs).2) ∨ ((lappA pre seg l D bs).1.1 = 0 ∧ (lappA pre seg l D bs).1.2 ≠ 0 ∧ (lappA pre seg l D bs).2.1 = l ∧ (rappA seg l bs).1.2 = 0) := by
  unfold lappA rappA
  split
  · exact .inl ⟨rfl, rfl⟩
  split
  · exact .inl ⟨rfl, rfl⟩
  split
  · split
    · rename_i h; exact .inr ⟨rfl, h, rfl, rfl⟩
    · exact .inl ⟨rfl, rfl⟩
  · split
    · rename_i h; exact .inr ⟨rfl, h, rfl, rfl⟩
    split
    · rename_i h; exact .inr ⟨rfl, h, rfl, rfl⟩
    · exact .inl ⟨rfl, rfl⟩
theorem lapp_segs {pre : ByteArray} {seg : Int} {l : List SegA} {D : DiskA} {bs : List BatM} (h : SegsOk 0 l) : SegsOk 0 (lappA pre seg l D bs).2.1 := by
  rcases lapp_cases pre seg l D bs with ⟨-, h2⟩ | ⟨-, -, h2, -⟩
  · rw [h2]; exact rapp_segs h
  · rw [h2]; exact h
section
variable {w : World} {l r : List HP} {d : Nat} {D : DiskA}
/-- A file that is there, read. -/
theorem read_f (n : ByteArray) (p : List UInt8 × Nat) (hfd : fileD D.fs n = some p) [hf : Fo l dk d D r] (hs : Sat w l) : Ret P F.disk_Disk_Read #[.pointer (some ⟨d, 0, none⟩), .string n] w fun vs w' => ∃ z : Sl, vs = [z.v, .int .i64 0] ∧ Sat w' (slc T.uint8 1 z (p.1.flatMap encU) :: dk d D :: r) := by
  obtain ⟨m_, FS_, -, hokD, -⟩ := dk_open (hs.perm hf.perm)
  refine (read_c (d := d) (A := D) n hs).mono fun vs w' h => ?_
  rcases h with ⟨f, hff, hfn, x, rfl, hs⟩ | ⟨hno, rfl, hs⟩
  · have hfd2 : fileD D.fs f.name = some (f.b, f.kept) := fileD_mem (names_nodup hokD.sorted) hff
    rw [hfn, hfd] at hfd2
    simp only [Option.some.injEq] at hfd2
    rw [hfd2]
    exact ⟨x, rfl, hs⟩
  · rw [fileD_none.2 hno] at hfd; cases hfd
end
end Go.Dec
namespace Go.Dec
set_option linter.unusedVariables false
set_option linter.unusedSimpArgs false
section
variable {w : World} {l r : List HP} {b : BatM}
theorem dspan_c (b : BatM) [hb : FocR l b.x 4 (b.rs.flatMap encR)] (hs : Sat w l) : Ret P F.towpathref03_Span #[.agg (encB7 b).toArray] w fun vs w' => vs = [.int .i64 (spanB b)] ∧ Sat w' l :=
  towpathref03_Span_calls b.base b.pid b.epoch b.seq b.kind b.time b.x <| by
    unfold towpathref03_Span spanB
    have hl := hs.slen b.x (xs := b.rs) (enc := encR)
    refine wp_boxO hs fun a0 w' hs => ?_
    refine wp_ldG hs ?_
    refine wp_call (dmark_c b hs) fun _ _ hs => ?_
    obtain ⟨rfl, hs⟩ := hs
    refine ret_of ?_
    refine wp_if (fun h => ?_) fun h => ?_
    · rw [if_pos h]; exact ⟨rfl, rfl, hs.tail⟩
    · rw [if_neg h]
      refine wp_ldO hs ?_
      refine wp_lt ?_
      rw [hl]
      exact ⟨rfl, rfl, hs.tail⟩
end
end Go.Dec
namespace Go.Dec
set_option linter.unusedVariables false
set_option linter.unusedSimpArgs false
structure SegR where
  base : Int
  fin : Int
  x : Sl
  bs : List BatM
structure RefM where
  seg : Int
  gap : Int
  SR : List SegR
def SegR.p (s : SegR) : SegA := ⟨s.base, s.fin, s.bs.map BatM.p⟩
def RefM.l (R : RefM) : List SegA := R.SR.map SegR.p
def RefM.bs (R : RefM) : List BatM := R.SR.flatMap SegR.bs
def encSR (s : SegR) : List Value := [.int .i64 s.base, .int .i64 s.fin, .slice s.x.a s.x.len s.x.cap]
instance : EncA encSR [.int .i64, .int .i64, .slc] (fun s => (s.base, s.fin, s.x, ())) := ⟨fun _ => rfl⟩
instance : EncN encSR 3 := ⟨fun _ => rfl, by decide, by simp [encSR, Value.oneCell']⟩
instance : EncF encSR 0 (.int .i64) (fun s => s.base) := ⟨fun _ => rfl⟩
def rsgP (s : SegR) : HP := slc T.api_Batch 7 s.x (s.bs.flatMap encB7)
def rfQ (a : Nat) (z : Sl) (R : RefM) : HP := HP.star (pt a (.cells #[.int .i64 R.seg, .int .i64 R.gap, .slice z.a z.len z.cap] T.towpathref06_Log)) (HP.star (slc T.towpathref06_Segment 3 z (R.SR.flatMap encSR)) (HP.all (R.SR.map rsgP)))
def rfP (a : Nat) (R : RefM) : HP := HP.ex fun z : Sl => rfQ a z R
section
variable {w : World} {l r : List HP} {a : Nat} {R : RefM}
theorem rf_open (hs : Sat w (rfP a R :: l)) : ∃ z : Sl, Sat w (pt a (.cells #[.int .i64 R.seg, .int .i64 R.gap, .slice z.a z.len z.cap] T.towpathref06_Log) :: slc T.towpathref06_Segment 3 z (R.SR.flatMap encSR) :: HP.all (R.SR.map rsgP) :: l) := by
  obtain ⟨z, hs⟩ := hs.ex
  have hs := hs.star
  exact ⟨z, ((hs.pick [1]).star).pick [2]⟩
theorem rf_close (R : RefM) {z : Sl} (hs : Sat w (pt a (.cells #[.int .i64 R.seg, .int .i64 R.gap, .slice z.a z.len z.cap] T.towpathref06_Log) :: slc T.towpathref06_Segment 3 z (R.SR.flatMap encSR) :: HP.all (R.SR.map rsgP) :: l)) : Sat w (rfP a R :: l) :=
  .ex_mk z (.star_mk (((hs.pick [1, 1]).star_mk).pick [1]))
theorem rsg_rd {SR : List SegR} {s : SegR} (hm : s ∈ SR) [hf : Foc l (HP.all (SR.map rsgP)) r] : FocR l s.x 7 (s.bs.flatMap encB7) := ⟨fun w hs => by
  obtain ⟨L, hs⟩ := (hs.perm hf.perm).all_mem hm
  exact Sat.rd hs⟩
theorem R_l_len : R.l.length = R.SR.length := List.length_map ..
theorem allB_l : allB R.l = R.bs.map BatM.p := by
  unfold allB RefM.l RefM.bs
  rw [List.flatMap_map, List.map_flatMap]
  rfl
theorem rfirst_c [hf : Fo l rfP a R r] (hs : Sat w l) : Ret P F.towpathref06_Log_First #[.pointer (some ⟨a, 0, none⟩)] w fun vs w' => vs = [.int .i64 (firstG R.l)] ∧ Sat w' (rfP a R :: r) :=
  towpathref06_Log_First_calls _ <| by
    unfold towpathref06_Log_First
    obtain ⟨z, hs⟩ := rf_open (hs.perm hf.perm)
    have hl := hs.slen z (xs := R.SR) (enc := encSR)
    refine wp_nn ?_
    refine wp_ldO hs ?_
    refine wp_if (fun h => ?_) fun h => ?_
    · have h0 : R.SR = [] := List.length_eq_zero_iff.1 (by omega)
      refine ⟨rfl, ?_, rf_close R hs⟩
      unfold RefM.l; rw [h0]; rfl
    have h0 : 0 < R.SR.length := by omega
    refine wp_nn ?_
    refine wp_ldO hs ?_
    refine wp_ixF0 hs (xs := R.SR) (enc := encSR) 0 h0 ?_
    refine wp_lt ?_
    refine ⟨rfl, ?_, rf_close R hs⟩
    obtain ⟨x, xs, hx⟩ := List.exists_cons_of_length_pos h0
    simp only [RefM.l, hx, List.map_cons, firstG, List.getElem_cons_zero]
    rfl
theorem nextG_p (bs : List BatM) : nextG (bs.map BatM.p) = nextG bs := by
  unfold nextG
  rw [getLast_map]
  cases bs.getLast? <;> rfl
theorem reach_p (s : SegR) : s.p.reach = max (max s.base s.fin) (nextG s.bs) := by
  unfold SegA.reach SegR.p
  simp only [nextG_p]
theorem rreach_c (s : SegR) [hx : FocR l s.x 7 (s.bs.flatMap encB7)] (hv : ∀ b ∈ s.bs, validB b = 0) (hbs : ∀ b ∈ s.bs, FocR l b.x 4 (b.rs.flatMap encR)) (hb : s.bs.length ≤ 1000000000) (hbf : -9223372036854775808 ≤ s.base ∧ s.base < 9223372036854775808) (hn0 : s.bs = [] → 0 ≤ s.base) (hs : Sat w l) :
    Ret P F.towpathref06_Segment_reach #[.agg (encSR s).toArray] w fun vs w' => vs = [.int .i64 s.p.reach] ∧ Sat w' l :=
  towpathref06_Segment_reach_calls s.base s.fin s.x <| by
    unfold towpathref06_Segment_reach
    have hl := hs.slen s.x (xs := s.bs) (enc := encB7)
    rw [reach_p]
    refine wp_boxO hs fun a0 w' hs => ?_
    refine wp_ldO hs ?_
    refine wp_lt ?_
    refine wp_ldO hs ?_
    refine wp_mid (fun q w' => q = (max s.base s.fin, ()) ∧ Sat w' (pt a0 (.cells [.int .i64 s.base, .int .i64 s.fin, .slice s.x.a s.x.len s.x.cap].toArray T.towpathref06_Segment) :: l)) ?_ ?_
    · refine wp_if (fun h => ?_) fun h => ?_
      · refine wp_ldO hs ?_
        refine wp_lt ?_
        exact wp_lv ⟨by rw [Int.max_def, if_pos (by omega)], hs⟩
      · have e : max s.base s.fin = s.base := by omega
        exact wp_lv ⟨by rw [e], hs⟩
    clear hs
    rintro _ w2 ⟨rfl, hs⟩
    refine wp_ldO hs ?_
    refine wp_mid (fun q w' => q = (max (max s.base s.fin) (nextG s.bs), ()) ∧ Sat w' l) ?_ ?_
    rotate_left
    · rintro _ w3 ⟨rfl, hs⟩
      refine wp_lt ?_
      exact ⟨rfl, rfl, hs⟩
    refine wp_if (fun h => ?_) fun h => ?_
    rotate_left
    · have h0 : s.bs = [] := List.length_eq_zero_iff.1 (by omega)
      refine wp_lv ⟨?_, hs.tail⟩
      have := hn0 h0
      rw [h0]
      show (max s.base s.fin, ()) = (max (max s.base s.fin) 0, ())
      congr 1; omega
    have hp : 0 < s.bs.length := by omega
    have hil : s.bs.length - 1 < s.bs.length := by omega
    have hnx : nextG s.bs = s.bs[s.bs.length - 1].base + spanB s.bs[s.bs.length - 1] := by
      unfold nextG
      rw [List.getLast?_eq_getElem?, List.getElem?_eq_getElem hil]
    obtain ⟨s1, s2, ⟨-, hba, -⟩, -, s3⟩ := span_le _ (hv _ (List.getElem_mem hil))
    have hR := hbs _ (List.getElem_mem hil)
    refine wp_ldO hs ?_
    refine wp_ldO hs ?_
    rw [w64 (by omega) (by omega)]
    refine wp_ixA hs (xs := s.bs) (enc := encB7) (s.bs.length - 1) hil ?_
    generalize s.bs[s.bs.length - 1] = b at *
    refine wp_newO hs fun c w' hs => ?_
    refine wp_stG hs fun w' hs => ?_
    refine wp_tk hs fun w' hs => ?_
    refine wp_hdO hs ?_
    refine wp_ldG hs ?_
    refine wp_call (dspan_c b hs) fun _ w' hs => ?_
    obtain ⟨rfl, hs⟩ := hs
    refine ret_of ?_ (by first | trivial | (repeat (first | exact trivial | exact fun _ => run_ldO hs | exact fun _ => run_ldG hs | refine And.intro ?_ ?_)))
    refine wp_untick ?_
    rw [w64 (by omega) (by omega)]
    refine wp_bind ?_
    refine wp_if (fun h2 => ?_) fun h2 => ?_
    · refine wp_tk hs fun w' hs => ?_
      refine wp_hdO hs ?_
      refine wp_ldG hs ?_
      refine wp_call (dspan_c b hs) fun _ w' hs => ?_
      obtain ⟨rfl, hs⟩ := hs
      refine ret_of ?_ (by first | trivial | (repeat (first | exact trivial | exact fun _ => run_ldO hs | exact fun _ => run_ldG hs | refine And.intro ?_ ?_)))
      rw [w64 (by omega) (by omega)]
      refine wp_lt ?_
      refine wp_untick ?_
      refine wp_go ?_
      refine wp_lv ⟨?_, hs.tail.tail⟩
      rw [hnx, Int.max_def (max s.base s.fin), if_pos (by omega)]
    · refine wp_go ?_
      have e : max (max s.base s.fin) (nextG s.bs) = max s.base s.fin := by omega
      exact wp_lv ⟨by rw [e], hs.tail.tail⟩
/-- What is asked of a document's log. -/
class okR (R : RefM) (l : List HP) : Prop where
  segs : SegsOk 0 R.l
  rd : ∀ b ∈ R.bs, FocR l b.x 4 (b.rs.flatMap encR)
  len : R.SR.length ≤ 1000000
  all : R.bs.length ≤ 1000000
theorem okR.valid {L : List HP} (h : okR R L) : ∀ s ∈ R.SR, SegOk s.p ∧ (∀ b ∈ s.bs, validB b = 0 ∧ FocR L b.x 4 (b.rs.flatMap encR)) ∧ s.bs.length ≤ 1000000 := fun s hs => by
  have h1 := (h.segs.mem s.p (List.mem_map.2 ⟨s, hs, rfl⟩)).1
  refine ⟨h1, fun b hb => ⟨(h1.bs.valid b.p (List.mem_map.2 ⟨b, hb, rfl⟩)).1, h.rd b (List.mem_flatMap.2 ⟨s, hs, hb⟩)⟩, ?_⟩
  refine Nat.le_trans ?_ h.all
  obtain ⟨u, v, huv⟩ := List.append_of_mem hs
  unfold RefM.bs
  rw [huv]
  simp only [List.flatMap_append, List.flatMap_cons, List.length_append]
  omega
instance okR.cons {H : HP} {L : List HP} [h : okR R L] : okR R (H :: L) := ⟨h.segs, fun b hb => by have := h.rd b hb; infer_instance, h.len, h.all⟩
theorem rnext_c [hf : Fo l rfP a R r] [hok : okR R r] (hs : Sat w l) : Ret P F.towpathref06_Log_Next #[.pointer (some ⟨a, 0, none⟩)] w fun vs w' => vs = [.int .i64 (nextL R.l)] ∧ Sat w' (rfP a R :: r) :=
  towpathref06_Log_Next_calls _ <| by
    unfold towpathref06_Log_Next
    obtain ⟨z, hs⟩ := rf_open (hs.perm hf.perm)
    have hl := hs.slen z (xs := R.SR) (enc := encSR)
    have hln := hok.len
    refine wp_nn ?_
    refine wp_ldO hs ?_
    refine wp_if (fun h => ?_) fun h => ?_
    · have h0 : R.SR = [] := List.length_eq_zero_iff.1 (by omega)
      refine ⟨rfl, ?_, rf_close R hs⟩
      unfold RefM.l; rw [h0]; rfl
    have hil : R.SR.length - 1 < R.SR.length := by omega
    refine wp_tk hs fun w' hs => ?_
    refine wp_nn ?_
    refine wp_ldO hs ?_
    refine wp_nn ?_
    refine wp_ldO hs ?_
    rw [w64 (by omega) (by omega)]
    refine wp_ixA hs (xs := R.SR) (enc := encSR) (R.SR.length - 1) hil ?_
    obtain ⟨v1, v2, v3⟩ := hok.valid _ (List.getElem_mem hil)
    have hn : nextL R.l = R.SR[R.SR.length - 1].p.reach := by
      unfold nextL RefM.l
      rw [getLast_map, List.getLast?_eq_getElem?, List.getElem?_eq_getElem hil]
      rfl
    rw [hn]
    have hR : FocR (HP.all (R.SR.map rsgP) :: r) R.SR[R.SR.length - 1].x 7 (R.SR[R.SR.length - 1].bs.flatMap encB7) := rsg_rd (List.getElem_mem hil)
    have hb := v1.base
    have hb : 0 ≤ R.SR[R.SR.length - 1].base ∧ R.SR[R.SR.length - 1].base ≤ 1099511627776 := hb
    refine wp_call (rreach_c R.SR[R.SR.length - 1] (fun b hb => (v2 b hb).1) (fun b hb => by have := (v2 b hb).2; infer_instance) (by omega) (by omega) (fun _ => hb.1) hs) fun _ w' hs => ?_
    obtain ⟨rfl, hs⟩ := hs
    refine ret_of ?_
    refine wp_lt ?_
    refine wp_untick ?_
    exact ⟨rfl, rfl, rf_close R hs⟩
theorem rall_c [hf : Fo l rfP a R r] [hok : okR R r] (hs : Sat w l) : Ret P F.towpathref06_Log_All #[.pointer (some ⟨a, 0, none⟩)] w fun vs w' => ∃ y : Sl, vs = [y.v] ∧ Sat w' (slc T.api_Batch 7 y (R.bs.flatMap encB7) :: rfP a R :: r) :=
  towpathref06_Log_All_calls _ <| by
    unfold towpathref06_Log_All
    obtain ⟨z, hs⟩ := rf_open (hs.perm hf.perm)
    have hl := hs.slen z (xs := R.SR) (enc := encSR)
    have hln := hok.len
    refine wp_nn ?_
    refine wp_ldO hs ?_
    refine wp_mid (fun q w' => ∃ y : Sl, q = (y, ()) ∧ Sat w' (slc T.api_Batch 7 y (R.bs.flatMap encB7) :: rfP a R :: r)) ?_ ?_
    rotate_left
    · rintro _ w2 ⟨y, rfl, hs⟩
      exact ⟨rfl, y, rfl, hs⟩
    refine wp_loop (fun m v w => ∃ (i : Nat) (y : Sl), v = (y, ((i : Int), ())) ∧ i ≤ R.SR.length ∧ R.SR.length - i = m ∧ Sat w (slc T.api_Batch 7 y (((R.SR.take i).flatMap SegR.bs).flatMap encB7) :: pt a (.cells #[.int .i64 R.seg, .int .i64 R.gap, .slice z.a z.len z.cap] T.towpathref06_Log) :: slc T.towpathref06_Segment 3 z (R.SR.flatMap encSR) :: HP.all (R.SR.map rsgP) :: r)) R.SR.length ⟨0, ⟨none, 0, 0⟩, rfl, by omega, rfl, hs.slc_nil⟩ ?_
    clear hs
    rintro m _ w ⟨i, y, rfl, hi, hm, hs⟩
    refine wp_on ?_
    refine wp_if (fun hc => ?_) fun hc => ?_
    rotate_left
    · refine wp_pass (wp_lv ⟨y, rfl, ?_⟩)
      rw [List.take_of_length_le (by omega)] at hs
      exact (rf_close R (hs.pick [1, 1, 1])).pick [1]
    have hil : i < R.SR.length := by omega
    refine wp_ixA hs (xs := R.SR) (enc := encSR) i hil ?_
    refine wp_newO hs fun c w' hs => ?_
    refine wp_stG hs fun w' hs => ?_
    refine wp_ldO hs ?_
    have hR : FocR (HP.all (R.SR.map rsgP) :: r) R.SR[i].x 7 (R.SR[i].bs.flatMap encB7) := rsg_rd (List.getElem_mem hil)
    have hbl : ((R.SR.take i).flatMap SegR.bs).length + R.SR[i].bs.length ≤ 1000000 := by
      refine Nat.le_trans ?_ hok.all
      unfold RefM.bs
      have e : R.SR = R.SR.take i ++ R.SR[i] :: R.SR.drop (i + 1) := by rw [← List.drop_eq_getElem_cons hil, List.take_append_drop]
      have := congrArg (fun x : List SegR => (x.flatMap SegR.bs).length) e
      simp only [List.flatMap_append, List.flatMap_cons, List.length_append] at this
      omega
    refine wp_app' (xs := (R.SR.take i).flatMap SegR.bs) (ys := R.SR[i].bs) (enc := encB7) hs fun y' w' hs => ?_
    rw [show IntKind.wrap .i64 ((i : Int) + 1) = ((i + 1 : Nat) : Int) by rw [w64 (by omega) (by omega)]; omega]
    refine wp_lp (R.SR.length - (i + 1)) ⟨i + 1, y', rfl, by omega, rfl, ?_⟩
    have e : (R.SR.take (i + 1)).flatMap SegR.bs = (R.SR.take i).flatMap SegR.bs ++ R.SR[i].bs := by
      rw [List.take_succ_eq_append_getElem hil, List.flatMap_append]; simp
    rw [e]
    exact hs.sub
theorem p_fields {b c : BatM} (h : b.p = c.p) : b.base = c.base ∧ b.pid = c.pid ∧ b.epoch = c.epoch ∧ b.seq = c.seq ∧ b.kind = c.kind ∧ b.time = c.time ∧ b.rs = c.rs := by
  unfold BatM.p at h
  simp only [BatM.mk.injEq] at h
  exact ⟨h.1, h.2.1, h.2.2.1, h.2.2.2.1, h.2.2.2.2.1, h.2.2.2.2.2.1, h.2.2.2.2.2.2.2⟩
theorem dsame_c (b c : BatM) (h : b.p = c.p) [hb : FocR l b.x 4 (b.rs.flatMap encR)] [hc : FocR l c.x 4 (c.rs.flatMap encR)] (hlen : b.rs.length ≤ 1000000000) (hs : Sat w l) : Ret P F.towpathref03_Same #[.agg (encB7 b).toArray, .agg (encB7 c).toArray] w fun vs w' => vs = [.bool true] ∧ Sat w' l :=
  towpathref03_Same_calls b.base b.pid b.epoch b.seq b.kind b.time b.x c.base c.pid c.epoch c.seq c.kind c.time c.x <| by
    unfold towpathref03_Same
    obtain ⟨e1, e2, e3, e4, e5, e6, e7⟩ := p_fields h
    have hl1 := hs.slen b.x (xs := b.rs) (enc := encR)
    have hl2 := hs.slen c.x (xs := c.rs) (enc := encR)
    rw [← e7] at hl2
    rw [← e1, ← e2, ← e3, ← e4, ← e5, ← e6]
    have hc : FocR l c.x 4 (b.rs.flatMap encR) := by rw [e7]; exact hc
    refine wp_boxO hs fun a0 w' hs => ?_
    refine wp_boxO hs fun a1 w' hs => ?_
    refine wp_ldO hs ?_
    refine wp_ldO hs ?_
    refine wp_ifF ?_ (by omega)
    refine wp_ldO hs ?_
    refine wp_mid (fun _ w' => Sat w' (pt a1 (.cells [.int .i64 b.base, .int .i64 b.pid, .int .i64 b.epoch, .int .i64 b.seq, .int .i64 b.kind, .int .i64 b.time, .slice c.x.a c.x.len c.x.cap].toArray T.api_Batch) :: pt a0 (.cells [.int .i64 b.base, .int .i64 b.pid, .int .i64 b.epoch, .int .i64 b.seq, .int .i64 b.kind, .int .i64 b.time, .slice b.x.a b.x.len b.x.cap].toArray T.api_Batch) :: l)) ?_ ?_
    · refine wp_loop (fun m v w => ∃ i : Nat, v = ((i : Int), ()) ∧ i ≤ b.rs.length ∧ b.rs.length - i = m ∧ Sat w (pt a1 (.cells [.int .i64 b.base, .int .i64 b.pid, .int .i64 b.epoch, .int .i64 b.seq, .int .i64 b.kind, .int .i64 b.time, .slice c.x.a c.x.len c.x.cap].toArray T.api_Batch) :: pt a0 (.cells [.int .i64 b.base, .int .i64 b.pid, .int .i64 b.epoch, .int .i64 b.seq, .int .i64 b.kind, .int .i64 b.time, .slice b.x.a b.x.len b.x.cap].toArray T.api_Batch) :: l)) b.rs.length ⟨0, rfl, by omega, rfl, hs⟩ ?_
      clear hs
      rintro m _ w ⟨i, rfl, hi, hm, hs⟩
      refine wp_on ?_
      refine wp_if (fun hcc => ?_) fun hcc => ?_
      rotate_left
      · exact wp_pass (wp_lv hs)
      have hil : i < b.rs.length := by omega
      refine wp_lt ?_
      refine wp_tk hs fun w' hs => ?_
      refine wp_ldO hs ?_
      refine wp_ixA hs (xs := b.rs) (enc := encR) i hil ?_
      refine wp_ldO hs ?_
      refine wp_ixA hs (xs := b.rs) (enc := encR) i hil ?_
      refine wp_untick ?_
      refine wp_ifF ?_ (by simp [beq_bytes])
      rw [show IntKind.wrap .i64 ((i : Int) + 1) = ((i + 1 : Nat) : Int) by rw [w64 (by omega) (by omega)]; omega]
      exact wp_lp (b.rs.length - (i + 1)) ⟨i + 1, rfl, by omega, rfl, hs⟩
    clear hs
    rintro _ w hs
    refine wp_on ?_
    refine wp_ldO hs ?_
    refine wp_ldO hs ?_
    refine wp_ldO hs ?_
    refine wp_ldO hs ?_
    refine wp_ldO hs ?_
    refine wp_ldO hs ?_
    refine wp_ldO hs ?_
    refine wp_ldO hs ?_
    refine wp_ldO hs ?_
    refine wp_ldO hs ?_
    refine wp_ldO hs ?_
    refine wp_ldO hs ?_
    refine wp_lt ?_
    refine ⟨rfl, ?_, hs.tail.tail⟩
    simp
theorem dsameall_c (x y : Sl) (bs cs : List BatM) (h : bs.map BatM.p = cs.map BatM.p) (hx : FocR l x 7 (bs.flatMap encB7)) (hy : FocR l y 7 (cs.flatMap encB7)) (hb : ∀ b ∈ bs, FocR l b.x 4 (b.rs.flatMap encR)) (hc : ∀ b ∈ cs, FocR l b.x 4 (b.rs.flatMap encR)) (hlen : bs.length ≤ 1000000000) (hrl : ∀ b ∈ bs, b.rs.length ≤ 1000000000) (hs : Sat w l) :
    Ret P F.towpathref03_SameAll #[x.v, y.v] w fun vs w' => vs = [.bool true] ∧ Sat w' l :=
  towpathref03_SameAll_calls x y <| by
    unfold towpathref03_SameAll
    have hl1 := hs.slen x (xs := bs) (enc := encB7)
    have hl2 := hs.slen y (xs := cs) (enc := encB7)
    have hll : bs.length = cs.length := by have := congrArg List.length h; simpa using this
    refine wp_ifF ?_ (by omega)
    refine wp_mid (fun _ w' => Sat w' l) ?_ ?_
    rotate_left
    · rintro _ w2 hs
      exact ⟨rfl, rfl, hs⟩
    refine wp_loop (fun m v w => ∃ i : Nat, v = ((i : Int), ()) ∧ i ≤ bs.length ∧ bs.length - i = m ∧ Sat w l) bs.length ⟨0, rfl, by omega, rfl, hs⟩ ?_
    clear hs
    rintro m _ w ⟨i, rfl, hi, hm, hs⟩
    refine wp_on ?_
    refine wp_if (fun hcc => ?_) fun hcc => ?_
    rotate_left
    · exact wp_pass (wp_lv hs)
    have hil : i < bs.length := by omega
    have hil2 : i < cs.length := by omega
    have hp : bs[i].p = cs[i].p := by
      have := List.getElem_of_eq h (i := i) (by rw [List.length_map]; exact hil)
      simpa using this
    have hr1 := hb _ (List.getElem_mem hil)
    have hr2 := hc _ (List.getElem_mem hil2)
    refine wp_lt ?_
    refine wp_tk hs fun w' hs => ?_
    refine wp_ixA hs (xs := bs) (enc := encB7) i hil ?_
    refine wp_ixA hs (xs := cs) (enc := encB7) i hil2 ?_
    refine wp_call (dsame_c bs[i] cs[i] hp (hrl _ (List.getElem_mem hil)) hs) fun _ w' hs => ?_
    obtain ⟨rfl, hs⟩ := hs
    refine ret_of ?_
    refine wp_untick ?_
    refine wp_ifF ?_ (by simp)
    rw [show IntKind.wrap .i64 ((i : Int) + 1) = ((i + 1 : Nat) : Int) by rw [w64 (by omega) (by omega)]; omega]
    exact wp_lp (bs.length - (i + 1)) ⟨i + 1, rfl, by omega, rfl, hs⟩
end
end Go.Dec
namespace Go.Dec
set_option linter.unusedVariables false
set_option linter.unusedSimpArgs false
section
variable {w : World} {l r : List HP} {lg rr : Nat} {R : RefM} {A : LogA} {D : DiskA}
theorem same_c {r1 r2 : List HP} [hf : Fo l lgP lg A r1] [hf2 : Fo r1 dk A.d D r2] [hf3 : Fo r2 rfP rr R r] [hok : okR R r] (heq : A.l = R.l) (hhas : HasL A.pre A.l D) (hs : Sat w l) :
    Ret P F.towpathlaw06_same #[.pointer (some ⟨lg, 0, none⟩), .pointer (some ⟨rr, 0, none⟩)] w fun vs w' => vs = [.bool true] ∧ Sat w' (lgP lg A :: dk A.d D :: rfP rr R :: r) :=
  towpathlaw06_same_calls _ _ <| by
    unfold towpathlaw06_same
    have hs := hs.perm (hf.perm.trans (.cons _ (hf2.perm.trans (.cons _ hf3.perm))))
    clear hf hf2 hf3
    have hsegs := hok.segs
    rw [← heq] at hsegs
    have hlen : A.l.length ≤ 1000000 := by rw [heq, R_l_len]; exact hok.len
    have hall : (allB A.l).length ≤ 1000000 := by rw [heq, allB_l, List.length_map]; exact hok.all
    have hnx := hsegs.next (Int.le_refl 0)
    refine wp_mid (fun q w' => q = (false, ()) ∧ Sat w' (lgP lg A :: dk A.d D :: rfP rr R :: r)) ?_ ?_
    · refine wp_ifF ?_ (by simp)
      obtain ⟨M, hM, hs⟩ := lgP_open hs
      have hMl : M.l = A.l := congrArg LogA.l hM
      have hll : M.l.length = M.SM.length := List.length_map ..
      refine wp_call (first_c (lg := lg) hs) fun _ w' hs => ?_
      obtain ⟨rfl, hs⟩ := hs
      refine ret_of ?_
      refine wp_call (rfirst_c (a := rr) hs) fun _ w' hs => ?_
      obtain ⟨rfl, hs⟩ := hs
      refine ret_of ?_
      refine wp_ifF ?_ (by rw [hMl, heq]; simp)
      refine wp_call (lnext_c (lg := lg) (by rw [← hll, hMl]; omega) hs) fun _ w' hs => ?_
      obtain ⟨rfl, hs⟩ := hs
      refine ret_of ?_
      refine wp_call (rnext_c (a := rr) hs) fun _ w' hs => ?_
      obtain ⟨rfl, hs⟩ := hs
      refine ret_of ?_
      refine wp_ifF ?_ (by rw [hMl, heq]; simp)
      have hs : Sat w' (lgQ lg M :: dk A.d D :: rfP rr R :: r) := hs.sub
      have hs := lgP_close M hs
      rw [hM] at hs
      refine wp_call (lall_c (lg := lg) (A := A) (D := D) hsegs hhas hlen hall hs) fun _ w' hs => ?_
      obtain ⟨z, outs, rfl, hmap, hs⟩ := hs
      refine ret_of ?_
      refine wp_call (rall_c (a := rr) hs) fun _ w' hs => ?_
      obtain ⟨y, rfl, hs⟩ := hs
      refine ret_of ?_
      have hs : Sat w' (batsP outs :: slc T.api_Batch 7 y (R.bs.flatMap encB7) :: slc T.api_Batch 7 z (outs.flatMap encB7) :: lgP lg A :: dk A.d D :: rfP rr R :: r) := hs.sub
      have hmp : outs.map BatM.p = R.bs.map BatM.p := by rw [hmap, heq, allB_l]
      have hol : outs.length ≤ 1000000 := by
        have := congrArg List.length hmp
        simp only [List.length_map] at this
        rw [this]; exact hok.all
      have hvo : ∀ b ∈ outs, validB b = 0 := fun b hb => by
        have h1 : b.p ∈ allB A.l := by rw [← hmap]; exact List.mem_map.2 ⟨b, hb, rfl⟩
        obtain ⟨s, hs, hbs⟩ := List.mem_flatMap.1 h1
        exact ((hsegs.mem s hs).1.bs.valid _ hbs).1
      refine wp_call (dsameall_c z y outs R.bs hmp inferInstance inferInstance (fun b hb => bats_rd hb) (fun b hb => by have := hok.rd b hb; infer_instance) (by omega) (fun b hb => by have := (valid_recs (hvo b hb)).1; omega) hs) fun _ w' hs => ?_
      obtain ⟨rfl, hs⟩ := hs
      refine ret_of ?_
      exact wp_lv ⟨rfl, hs.sub⟩
    rintro _ w2 ⟨rfl, hs⟩
    refine wp_ifF ?_ (by simp)
    obtain ⟨M, hM, hs⟩ := lgP_open hs
    have hMl : M.l = A.l := congrArg LogA.l hM
    have hll : M.l.length = M.SM.length := List.length_map ..
    refine wp_call (segments_c (lg := lg) (by rw [← hll, hMl]; omega) hs) fun _ w' hs => ?_
    obtain ⟨z, rfl, hs⟩ := hs
    refine ret_of ?_
    obtain ⟨u, hs⟩ := rf_open (hs.pick [3])
    have hls := hs.slen z (xs := M.l.map SegA.base) (enc := encI)
    have hlu := hs.slen u (xs := R.SR) (enc := encSR)
    have hlR : R.l.length = R.SR.length := R_l_len
    rw [List.length_map, hMl, heq, hlR] at hls
    refine wp_nn ?_
    refine wp_ldO hs ?_
    refine wp_ifF ?_ (by omega)
    have hfin : ∀ {w : World}, Sat w (pt rr (.cells #[.int .i64 R.seg, .int .i64 R.gap, .slice u.a u.len u.cap] T.towpathref06_Log) :: slc T.towpathref06_Segment 3 u (R.SR.flatMap encSR) :: HP.all (R.SR.map rsgP) :: slc T.int64 1 z ((M.l.map SegA.base).flatMap encI) :: lgQ lg M :: dk A.d D :: r) → Sat w (lgP lg A :: dk A.d D :: rfP rr R :: r) := fun hs => by
      have hs := rf_close R hs
      have hs : Sat _ (lgQ lg M :: dk A.d D :: rfP rr R :: r) := hs.sub
      have hs := lgP_close M hs
      rw [hM] at hs
      exact hs
    refine wp_mid (fun _ w' => Sat w' (lgP lg A :: dk A.d D :: rfP rr R :: r)) ?_ ?_
    rotate_left
    · rintro _ w3 hs
      exact ⟨rfl, rfl, hs⟩
    refine wp_loop (fun m v w => ∃ i : Nat, v = ((i : Int), ()) ∧ i ≤ R.SR.length ∧ R.SR.length - i = m ∧ Sat w (pt rr (.cells #[.int .i64 R.seg, .int .i64 R.gap, .slice u.a u.len u.cap] T.towpathref06_Log) :: slc T.towpathref06_Segment 3 u (R.SR.flatMap encSR) :: HP.all (R.SR.map rsgP) :: slc T.int64 1 z ((M.l.map SegA.base).flatMap encI) :: lgQ lg M :: dk A.d D :: r)) R.SR.length ⟨0, rfl, by omega, rfl, hs⟩ ?_
    clear hs
    rintro m _ w ⟨i, rfl, hi, hm, hs⟩
    refine wp_on ?_
    refine wp_if (fun hcc => ?_) fun hcc => ?_
    rotate_left
    · exact wp_pass (wp_lv (hfin hs))
    have hln := hok.len
    have hil : i < R.SR.length := by omega
    have hil2 : i < (M.l.map SegA.base).length := by rw [List.length_map, hMl, heq, hlR]; exact hil
    have hbase : (M.l.map SegA.base)[i] = R.SR[i].base := by
      have e : M.l = R.l := hMl.trans heq
      simp only [e, RefM.l, List.map_map, List.getElem_map]
      rfl
    refine wp_lt ?_
    refine wp_tk hs fun w' hs => ?_
    refine wp_ix1 hs (xs := M.l.map SegA.base) (enc := encI) i hil2 ?_
    refine wp_nn ?_
    refine wp_ldO hs ?_
    refine wp_ixF hs (xs := R.SR) (enc := encSR) i hil ?_
    refine wp_untick ?_
    refine wp_ifF ?_ (by rw [hbase]; simp)
    rw [show IntKind.wrap .i64 ((i : Int) + 1) = ((i + 1 : Nat) : Int) by rw [w64 (by omega) (by omega)]; omega]
    exact wp_lp (R.SR.length - (i + 1)) ⟨i + 1, rfl, by omega, rfl, hs⟩
end
end Go.Dec
namespace Go.Dec
set_option linter.unusedVariables false
set_option linter.unusedSimpArgs false
def oneB (key value : ByteArray) (x : Sl) : BatM := ⟨0, 0, 0, 0, 0, 0, x, [⟨key, value, false, 0⟩]⟩
def aP : ByteArray := ByteArray.mk #[112]
def aD0 : DiskA := ⟨1000, -1, false, []⟩
def aB : BatM := oneB (ByteArray.mk #[97]) (ByteArray.mk #[120]) noSl
def aS1 : (Int × Int) × List SegA × DiskA := lappA aP 64 [] aD0 [aB]
def aS2 : (Int × Int) × List SegA × DiskA := lappA aP 64 aS1.2.1 aS1.2.2 [aB]
def aS3 : (Int × Int) × List SegA × DiskA := lappA aP 64 aS2.2.1 aS2.2.2 [aB]
theorem place_p : ∀ (bs : List BatM) (n : Int), (placeL n (bs.map BatM.p)).1 = (placeL n bs).1 ∧ (placeL n (bs.map BatM.p)).2.map BatM.p = (placeL n bs).2.map BatM.p
  | [], n => ⟨rfl, rfl⟩
  | b :: bs, n => by
    rw [List.map_cons]
    unfold placeL
    have e1 : validB (b.p.to n) = validB (b.to n) := rfl
    have e2 : spanB b.p = spanB b := rfl
    obtain ⟨i1, i2⟩ := place_p bs (n + spanB b)
    rw [e1, e2, i1]
    split
    · exact ⟨rfl, rfl⟩
    split
    · exact ⟨rfl, rfl⟩
    · exact ⟨rfl, by rw [List.map_cons, List.map_cons, i2]; rfl⟩
theorem flat_eq_p {a b : List BatM} (h : a.map BatM.p = b.map BatM.p) : a.flatMap frL = b.flatMap frL := by
  rw [← flat_p a, h, flat_p]
theorem add_p {a b : List BatM} (h : a.map BatM.p = b.map BatM.p) (s : SegA) : s.add a = s.add b := by unfold SegA.add; rw [h]
theorem addLast_p {a b : List BatM} (h : a.map BatM.p = b.map BatM.p) (l : List SegA) : addLast l a = addLast l b := by
  unfold addLast
  split
  · rfl
  · rw [add_p h]
/-- What is appended does not hang on where the batches' records stand. -/
theorem lapp_p (pre : ByteArray) (seg : Int) (l : List SegA) (D : DiskA) (bs : List BatM) : lappA pre seg l D (bs.map BatM.p) = lappA pre seg l D bs := by
  obtain ⟨h1, h2⟩ := place_p bs (nextL l)
  unfold lappA
  rw [h1, flat_eq_p h2, addLast_p h2, add_p h2]
  by_cases hb : bs = []
  · subst hb; rfl
  · rw [if_neg hb, if_neg (by intro h; exact hb (List.map_eq_nil_iff.1 h))]
theorem aw_open : lopenA aP aD0 = (0, [], aD0) := by kernel_rfl
theorem aw_1 : aS1.1 = (0, 0) := by kernel_rfl
theorem aw_2 : aS2.1 = (1, 0) := by kernel_rfl
theorem aw_3 : aS3.1 = (2, 0) := by kernel_rfl
theorem aw_segs : aS3.2.1.map SegA.base = [0, 2] := by kernel_rfl
theorem aw_l1 : aS1.2.1.length = 1 ∧ aS1.2.1.map (fun s => s.file.length) = [32] := by constructor <;> kernel_rfl
theorem aw_l2 : aS2.2.1.length = 1 ∧ aS2.2.1.map (fun s => s.file.length) = [53] := by constructor <;> kernel_rfl
theorem aw_l3 : aS3.2.1.length = 2 := by kernel_rfl
theorem aw_file : (fileD aS3.2.2.fs (ByteArray.mk #[112, 45, 48, 48, 48, 48, 48, 48, 48, 48, 48, 48, 48, 46, 108, 111, 103])).map (fun p => (p.1.length, p.1[0]?, p.1[4]?)) = some (53, some 3, some 83) := by kernel_rfl
end Go.Dec
namespace Go.Dec
set_option linter.unusedVariables false
set_option linter.unusedSimpArgs false
section
variable {w : World} {l r : List HP} {lg d : Nat} {D : DiskA} {A : LogA}
theorem one_c (k v : ByteArray) (hs : Sat w l) : Ret P F.towpathlaw06_one #[.string k, .string v] w fun vs w' => ∃ x : Sl, vs = [.agg (encB7 (oneB k v x)).toArray] ∧ Sat w' (slc T.api_Record 4 x ((oneB k v x).rs.flatMap encR) :: l) :=
  towpathlaw06_one_calls k v <| by
    unfold towpathlaw06_one
    refine wp_newO hs fun a0 w' hs => ?_
    refine wp_lits hs (enc := encR) [(⟨k, v, false, 0⟩ : RecM)] fun x w' hs => ?_
    refine wp_stG hs fun w' hs => ?_
    refine wp_ldG hs ?_
    refine ⟨rfl, x, rfl, ?_⟩
    have hs : Sat w' (pt a0 _ :: slc T.api_Record 4 x ((oneB k v x).rs.flatMap encR) :: l) := hs
    exact hs.tail
/-- A log's Append of one batch. -/
theorem app1_c (b : BatM) (x : Sl) {r1 : List HP} [hf : Fo l lgP lg A r1] [hf2 : Fo r1 dk A.d D r] (hlen : A.l.length ≤ 1000000) (hok : SegsOk 0 A.l) (hfl : ∀ s ∈ A.l, s.file.length ≤ 500000000)
    (hx : FocR r x 7 ([b].flatMap encB7)) (hb : FocR r b.x 4 (b.rs.flatMap encR)) (hs : Sat w l) :
    Ret P F.seglog_Log_Append #[.pointer (some ⟨lg, 0, none⟩), x.v] w fun vs w' => vs = [.int .i64 (lappA A.pre A.seg A.l D [b]).1.1, .int .i64 (lappA A.pre A.seg A.l D [b]).1.2] ∧
      Sat w' (lgP lg (A.set (lappA A.pre A.seg A.l D [b]).2.1) :: dk A.d (lappA A.pre A.seg A.l D [b]).2.2 :: r) :=
  lappend_c x [b] hlen hok hfl (by show 1 ≤ 900; omega) hx (fun c hc => by
    simp only [List.mem_cons, List.not_mem_nil, or_false] at hc
    subst hc
    exact hb) hs
theorem files_le {l : List SegA} {n : Nat} {ns : List Nat} (h : l.map (fun s => s.file.length) = ns) (hn : ∀ x ∈ ns, x ≤ n) : ∀ s ∈ l, s.file.length ≤ n := fun s hs => hn _ (by rw [← h]; exact List.mem_map.2 ⟨s, hs, rfl⟩)
set_option maxHeartbeats 1000000 in
theorem awake6_c (hs : Sat w l) : Ret P F.towpathlaw06_awake #[] w fun vs w' => vs = [.bool true] ∧ Sat w' l :=
  towpathlaw06_awake_calls <| by
    unfold towpathlaw06_awake
    refine wp_call (new_ok 1000 (by omega) hs) fun _ w' hs => ?_
    obtain ⟨d, rfl, hs⟩ := hs
    refine ⟨(some ⟨d, 0, none⟩, 0, ()), rfl, trivial, wp_u2 _ _ ?_⟩
    refine wp_lt ?_
    have hs : Sat w' (dk d aD0 :: l) := hs
    refine wp_call (lopen_c (d := d) (D := aD0) aP 64 1 (by kernel_rfl) ⟨by decide, by decide⟩ rfl hs) fun _ w' hs => ?_
    rw [aw_open] at hs
    rcases hs with ⟨he, -, -⟩ | ⟨-, lg, rfl, hs⟩
    · exact absurd rfl he
    refine ⟨(some ⟨lg, 0, none⟩, 0, ()), rfl, trivial, wp_u2 _ _ ?_⟩
    refine wp_lt ?_
    refine wp_ifF ?_ (by simp)
    have hs : Sat w' (lgP lg ⟨d, aP, 64, 1, []⟩ :: dk d aD0 :: l) := hs
    have step : ∀ {w : World} {L : List SegA} {DD : DiskA} {X : List HP} (y x : Sl), Sat w (slc T.api_Batch 7 x ([oneB (ByteArray.mk #[97]) (ByteArray.mk #[120]) y].flatMap encB7) :: slc T.api_Record 4 y ((oneB (ByteArray.mk #[97]) (ByteArray.mk #[120]) y).rs.flatMap encR) :: lgP lg ⟨d, aP, 64, 1, L⟩ :: dk d DD :: l) → L.length ≤ 1000000 → SegsOk 0 L → (∀ s ∈ L, s.file.length ≤ 500000000) →
        Ret P F.seglog_Log_Append #[.pointer (some ⟨lg, 0, none⟩), x.v] w fun vs w' => vs = [.int .i64 (lappA aP 64 L DD [aB]).1.1, .int .i64 (lappA aP 64 L DD [aB]).1.2] ∧ Sat w' (lgP lg ⟨d, aP, 64, 1, (lappA aP 64 L DD [aB]).2.1⟩ :: dk d (lappA aP 64 L DD [aB]).2.2 :: l) := by
      intro w L DD X y x hs h1 h2 h3
      have h := app1_c (lg := lg) (A := ⟨d, aP, 64, 1, L⟩) (D := DD) (oneB (ByteArray.mk #[97]) (ByteArray.mk #[120]) y) x h1 h2 h3 inferInstance (FocR.tail (h := FocR.head) : FocR (slc T.api_Batch 7 x ([oneB (ByteArray.mk #[97]) (ByteArray.mk #[120]) y].flatMap encB7) :: slc T.api_Record 4 y ((oneB (ByteArray.mk #[97]) (ByteArray.mk #[120]) y).rs.flatMap encR) :: l) y 4 ((oneB (ByteArray.mk #[97]) (ByteArray.mk #[120]) y).rs.flatMap encR)) hs
      have e : lappA aP 64 L DD [oneB (ByteArray.mk #[97]) (ByteArray.mk #[120]) y] = lappA aP 64 L DD [aB] := by
        rw [← lapp_p, ← lapp_p aP 64 L DD [aB]]
        rfl
      refine h.mono fun vs w' ⟨hv, hs⟩ => ⟨?_, ?_⟩
      · rw [hv]
        show [Value.int .i64 (lappA aP 64 L DD [oneB (ByteArray.mk #[97]) (ByteArray.mk #[120]) y]).1.1, Value.int .i64 (lappA aP 64 L DD [oneB (ByteArray.mk #[97]) (ByteArray.mk #[120]) y]).1.2] = _
        rw [e]
      · have hs : Sat w' (lgP lg ⟨d, aP, 64, 1, (lappA aP 64 L DD [oneB (ByteArray.mk #[97]) (ByteArray.mk #[120]) y]).2.1⟩ :: dk d (lappA aP 64 L DD [oneB (ByteArray.mk #[97]) (ByteArray.mk #[120]) y]).2.2 :: slc T.api_Batch 7 x ([oneB (ByteArray.mk #[97]) (ByteArray.mk #[120]) y].flatMap encB7) :: slc T.api_Record 4 y ((oneB (ByteArray.mk #[97]) (ByteArray.mk #[120]) y).rs.flatMap encR) :: l) := hs
        rw [e] at hs
        exact hs.sub
    -- the first
    refine wp_call (one_c _ _ hs) fun _ w' hs => ?_
    obtain ⟨y1, rfl, hs⟩ := hs
    refine ⟨(0, 0, 0, 0, 0, 0, y1, ()), rfl, trivial, wp_u7 _ _ _ _ _ _ _ ?_⟩
    refine wp_lits hs (enc := encB7) [oneB (ByteArray.mk #[97]) (ByteArray.mk #[120]) y1] fun x1 w' hs => ?_
    refine wp_call (step (X := []) y1 x1 hs (by decide) trivial (fun s hs => by cases hs)) fun _ w' hs => ?_
    obtain ⟨hv, hs⟩ := hs
    have hv : _ = [Value.int .i64 aS1.1.1, Value.int .i64 aS1.1.2] := hv
    have hs : Sat w' (lgP lg ⟨d, aP, 64, 1, aS1.2.1⟩ :: dk d aS1.2.2 :: l) := hs
    have k1 : SegsOk 0 aS1.2.1 := lapp_segs trivial
    rw [aw_1] at hv
    subst hv
    refine ⟨(0, 0, ()), rfl, trivial, wp_u2 _ _ ?_⟩
    refine wp_lt ?_
    refine wp_lt ?_
    -- the second
    refine wp_call (one_c _ _ hs) fun _ w' hs => ?_
    obtain ⟨y2, rfl, hs⟩ := hs
    refine ⟨(0, 0, 0, 0, 0, 0, y2, ()), rfl, trivial, wp_u7 _ _ _ _ _ _ _ ?_⟩
    refine wp_lits hs (enc := encB7) [oneB (ByteArray.mk #[97]) (ByteArray.mk #[120]) y2] fun x2 w' hs => ?_
    refine wp_call (step (X := []) y2 x2 hs (by rw [aw_l1.1]; decide) k1 (files_le aw_l1.2 (by simp))) fun _ w' hs => ?_
    obtain ⟨hv, hs⟩ := hs
    have hv : _ = [Value.int .i64 aS2.1.1, Value.int .i64 aS2.1.2] := hv
    have hs : Sat w' (lgP lg ⟨d, aP, 64, 1, aS2.2.1⟩ :: dk d aS2.2.2 :: l) := hs
    have k2 : SegsOk 0 aS2.2.1 := lapp_segs k1
    rw [aw_2] at hv
    subst hv
    refine ⟨(1, 0, ()), rfl, trivial, wp_u2 _ _ ?_⟩
    refine wp_lt ?_
    refine wp_lt ?_
    -- the third
    refine wp_call (one_c _ _ hs) fun _ w' hs => ?_
    obtain ⟨y3, rfl, hs⟩ := hs
    refine ⟨(0, 0, 0, 0, 0, 0, y3, ()), rfl, trivial, wp_u7 _ _ _ _ _ _ _ ?_⟩
    refine wp_lits hs (enc := encB7) [oneB (ByteArray.mk #[97]) (ByteArray.mk #[120]) y3] fun x3 w' hs => ?_
    refine wp_call (step (X := []) y3 x3 hs (by rw [aw_l2.1]; decide) k2 (files_le aw_l2.2 (by simp))) fun _ w' hs => ?_
    obtain ⟨hv, hs⟩ := hs
    have hv : _ = [Value.int .i64 aS3.1.1, Value.int .i64 aS3.1.2] := hv
    have hs : Sat w' (lgP lg ⟨d, aP, 64, 1, aS3.2.1⟩ :: dk d aS3.2.2 :: l) := hs
    rw [aw_3] at hv
    subst hv
    refine ⟨(2, 0, ()), rfl, trivial, wp_u2 _ _ ?_⟩
    refine wp_lt ?_
    refine wp_lt ?_
    -- the segments, the file
    obtain ⟨M, hM, hs⟩ := lgP_open hs
    have hMl : M.l = aS3.2.1 := congrArg LogA.l hM
    have hMd : M.d = d := congrArg LogA.d hM
    refine wp_call (segments_c (lg := lg) (by have := aw_l3; rw [← hMl] at this; have h2 : M.l.length = M.SM.length := List.length_map ..; omega) hs) fun _ w' hs => ?_
    obtain ⟨z, rfl, hs⟩ := hs
    refine ret_of ?_
    rw [hMl, aw_segs] at hs
    have hlz := hs.slen z (xs := ([0, 2] : List Int)) (enc := encI)
    obtain ⟨p, hp, hpf⟩ : ∃ p, fileD aS3.2.2.fs (ByteArray.mk #[112, 45, 48, 48, 48, 48, 48, 48, 48, 48, 48, 48, 48, 46, 108, 111, 103]) = some p ∧ (p.1.length, p.1[0]?, p.1[4]?) = (53, some 3, some 83) := by
      have := aw_file
      rw [Option.map_eq_some_iff] at this
      exact this
    simp only [Prod.mk.injEq] at hpf
    obtain ⟨q1, q2, q3⟩ := hpf
    refine wp_call (read_f (d := d) (D := aS3.2.2) _ p hp hs) fun _ w' hs => ?_
    obtain ⟨u, rfl, hs⟩ := hs
    refine ⟨(u, 0, ()), rfl, trivial, wp_u2 _ _ ?_⟩
    refine wp_lt ?_
    have hlu := hs.slen u (xs := p.1) (enc := encU)
    have hq2 : (p.1[0]'(by omega)) = 3 := by
      rw [List.getElem?_eq_getElem (by omega)] at q2; exact Option.some.inj q2
    have hq3 : (p.1[4]'(by omega)) = 83 := by
      rw [List.getElem?_eq_getElem (by omega)] at q3; exact Option.some.inj q3
    refine wp_ix1k hs (xs := ([0, 2] : List Int)) (enc := encI) 1 (by decide) ?_
    refine wp_ix1k hs (xs := p.1) (enc := encU) 0 (by omega) ?_ (by omega)
    refine wp_ix1k hs (xs := p.1) (enc := encU) 4 (by omega) ?_
    refine wp_lt ?_
    refine ⟨rfl, ?_, hs.sub⟩
    rw [hq2, hq3, hlz, hlu, q1]
    rfl
theorem nil_append (x : Sl) (hs : Sat w l) : Ret P F.seglog_Log_Append #[.pointer none, x.v] w fun vs w' => vs = [.int .i64 0, .int .i64 1] ∧ Sat w' l :=
  seglog_Log_Append_calls _ x <| by
    unfold seglog_Log_Append
    refine wp_ifT ?_ (by rfl)
    exact ⟨rfl, rfl, hs⟩
end
end Go.Dec
namespace Go.Dec
set_option linter.unusedVariables false
set_option linter.unusedSimpArgs false
theorem lopen_empty (pre : ByteArray) (n : Nat) : lopenA pre ⟨n, -1, false, []⟩ = (0, [], ⟨n, -1, false, []⟩) := rfl
def cut40 (s : ByteArray) : ByteArray := if s.size > 40 then s.extract 0 40 else s
section
variable {w : World} {l r : List HP}
theorem okR_nil {seg gap : Int} {l : List HP} : okR ⟨seg, gap, []⟩ l := ⟨trivial, (fun b hb => by cases hb), by show 0 ≤ 1000000; omega, by show 0 ≤ 1000000; omega⟩
theorem rf_new {a : Nat} {seg gap : Int} (hs : Sat w (pt a (.cells #[.int .i64 seg, .int .i64 gap, .slice none 0 0] T.towpathref06_Log) :: l)) : Sat w (rfP a ⟨seg, gap, []⟩ :: l) := by
  have h1 : Sat w (slc T.towpathref06_Segment 3 ⟨none, 0, 0⟩ (([] : List SegR).flatMap encSR) :: HP.all (([] : List SegR).map rsgP) :: pt a (.cells #[.int .i64 seg, .int .i64 gap, .slice none 0 0] T.towpathref06_Log) :: l) := (Sat.all_nil hs).slc_nil
  exact rf_close ⟨seg, gap, []⟩ (z := ⟨none, 0, 0⟩) (h1.pick [2])
theorem news6_law (pre : ByteArray) (seg gap : Int) (hs : Sat w l) : Ret P F.towpathlaw06_SeglogNews #[.string pre, .int .i64 seg, .int .i64 gap] w fun vs w' => vs = [.bool true] ∧ Sat w' l :=
  towpathlaw06_SeglogNews_calls pre seg gap <| by
    unfold towpathlaw06_SeglogNews
    refine wp_mid (fun q w' => q = (cut40 pre, ()) ∧ Sat w' l) ?_ ?_
    · unfold cut40
      refine wp_if (fun h => ?_) fun h => ?_
      · refine wp_must (by omega) ?_
        refine wp_lt ?_
        exact wp_lv ⟨by rw [if_pos (by omega)], hs⟩
      · exact wp_lv ⟨by rw [if_neg (by omega)], hs⟩
    clear hs
    rintro _ w ⟨rfl, hs⟩
    refine wp_on ?_
    have hsz : (cut40 pre).size ≤ 40 := by
      unfold cut40
      split
      · rw [ByteArray.size_extract]; omega
      · omega
    generalize cut40 pre = s at *
    refine wp_lt ?_
    refine wp_mid (fun q w' => q = (preS s, ()) ∧ Sat w' l) ?_ ?_
    · have hbl := size_bl s
      refine wp_loop (fun m v w => ∃ i : Nat, v = ((decide (1 ≤ s.size ∧ s.size ≤ 8) && ((bl s).take i).all fun c => (97 ≤ c.toNat && c.toNat ≤ 122) || (48 ≤ c.toNat && c.toNat ≤ 57)), ((i : Int), ())) ∧ i ≤ (bl s).length ∧ (bl s).length - i = m ∧ Sat w l) (bl s).length ⟨0, ?_, by omega, rfl, hs⟩ ?_
      · congr 1
        rw [List.take_zero, List.all_nil, Bool.and_true, Bool.eq_iff_iff]
        simp only [Bool.and_eq_true, decide_eq_true_eq]
        omega
      clear hs
      rintro m _ w ⟨i, rfl, hi, hm, hs⟩
      refine wp_on ?_
      refine wp_if (fun hc => ?_) fun hc => ?_
      rotate_left
      · refine wp_pass (wp_lv ⟨?_, hs⟩)
        rw [List.take_of_length_le (by omega)]
        rfl
      have hil : i < (bl s).length := by omega
      refine wp_must (by omega) ?_
      have hbt : bt s (i : Int) = (((bl s)[i].toNat : Nat) : Int) := by
        unfold bt
        rw [Int.toNat_natCast, List.getD_eq_getElem?_getD]
        have : s.data.toList[i]? = some (bl s)[i] := List.getElem?_eq_getElem hil
        rw [this]; rfl
      rw [hbt]
      refine wp_lt ?_
      refine wp_lt ?_
      refine wp_ltx (y := ((i + 1 : Nat) : Int)) ?_ (by rw [w64 (by omega) (by omega)]; omega)
      refine wp_lp ((bl s).length - (i + 1)) ⟨i + 1, ?_, by omega, rfl, hs⟩
      congr 1
      rw [List.take_succ_eq_append_getElem hil, List.all_append, Bool.and_assoc]
      congr 2
      rw [Bool.eq_iff_iff]
      simp only [List.all_cons, List.all_nil, Bool.and_true, Bool.or_eq_true, Bool.and_eq_true, decide_eq_true_eq]
      omega
    clear hs
    rintro _ w ⟨rfl, hs⟩
    refine wp_on ?_
    refine wp_call (prefix_l s hs) fun _ w' hs => ?_
    obtain ⟨rfl, hs⟩ := hs
    refine ret_of ?_
    refine wp_ifF ?_ (by simp)
    refine wp_call (new_ok 1000 (by omega) hs) fun _ w' hs => ?_
    obtain ⟨d, rfl, hs⟩ := hs
    refine ⟨(some ⟨d, 0, none⟩, 0, ()), rfl, trivial, wp_u2 _ _ ?_⟩
    refine wp_lt ?_
    refine wp_lt ?_
    by_cases hmay : preS s = true ∧ okCfg seg gap
    rotate_left
    · refine wp_call (lopen_bad (d := d) s seg gap hmay hs) fun _ w' hs => ?_
      obtain ⟨rfl, hs⟩ := hs
      refine ⟨(none, 2, ()), rfl, trivial, wp_u2 _ _ ?_⟩
      refine wp_lt ?_
      refine wp_ifT ?_ ?_
      rotate_left
      · intro h
        apply hmay
        exact ⟨h.1.1.1.1, ⟨by omega, by omega⟩, by omega, by omega⟩
      refine wp_mid (fun q w' => q = (true, ()) ∧ Sat w' l) ?_ ?_
      · refine wp_ifT ?_ ⟨rfl, rfl⟩
        have hs : Sat w' l := hs.tail
        refine wp_call (awake6_c hs) fun _ _ hs => ?_
        obtain ⟨rfl, hs⟩ := hs
        refine ret_of ?_
        refine wp_lt ?_
        exact wp_lv ⟨rfl, hs⟩
      · rintro _ w2 ⟨rfl, hs⟩
        exact ⟨rfl, rfl, hs⟩
    obtain ⟨hp, hc⟩ := hmay
    refine wp_call (lopen_c (d := d) (D := ⟨1000, -1, false, []⟩) s seg gap hp hc rfl hs) fun _ w' hs => ?_
    rw [lopen_empty] at hs
    rcases hs with ⟨he, -, -⟩ | ⟨-, lg, rfl, hs⟩
    · exact absurd rfl he
    have hs : Sat w' (lgP lg ⟨d, s, seg, gap, []⟩ :: dk d ⟨1000, -1, false, []⟩ :: l) := hs
    refine ⟨(some ⟨lg, 0, none⟩, 0, ()), rfl, trivial, wp_u2 _ _ ?_⟩
    refine wp_lt ?_
    refine wp_ifF ?_ ?_
    rotate_left
    · intro h
      apply h
      have h1 := hc.1
      have h2 := hc.2
      exact ⟨⟨⟨⟨hp, by omega⟩, by omega⟩, by omega⟩, by omega⟩
    refine wp_mid (fun q w' => q = (false, ()) ∧ Sat w' (dk d ⟨1000, -1, false, []⟩ :: l)) ?_ ?_
    · refine wp_ifF ?_ (by simp)
      refine wp_boxO hs fun rr w' hs => ?_
      have hs := rf_new hs
      have hok : okR ⟨seg, gap, []⟩ l := okR_nil
      refine wp_call (same_c (lg := lg) (rr := rr) (R := ⟨seg, gap, []⟩) (A := ⟨d, s, seg, gap, []⟩) (D := ⟨1000, -1, false, []⟩) rfl (fun s hs => by cases hs) hs) fun _ w' hs => ?_
      obtain ⟨rfl, hs⟩ := hs
      refine ret_of ?_
      refine wp_ifF ?_ (by simp)
      obtain ⟨M, hM, hs⟩ := lgP_open hs
      have hMl : M.l = [] := congrArg LogA.l hM
      have hMd : M.d = d := congrArg LogA.d hM
      have hll : M.l.length = M.SM.length := List.length_map ..
      have hs : Sat w' (lgQ lg M :: dk M.d ⟨1000, -1, false, []⟩ :: rfP rr ⟨seg, gap, []⟩ :: l) := by rw [hMd]; exact hs
      refine wp_call (lsync_c (lg := lg) (D := ⟨1000, -1, false, []⟩) (by rw [← hll, hMl]; exact Nat.zero_le _) (by rw [hMl]; trivial) hs) fun _ w' hs => ?_
      have e : lsyncA M.pre M.l ⟨1000, -1, false, []⟩ = (0, ⟨1000, -1, false, []⟩) := by rw [hMl]; rfl
      rw [e] at hs
      obtain ⟨rfl, hs⟩ := hs
      refine ret_of ?_
      refine wp_ifF ?_ (by simp)
      have hs := lgP_close M hs
      rw [hM, hMd] at hs
      refine wp_call (lroll_c (lg := lg) (A := ⟨d, s, seg, gap, []⟩) (D := ⟨1000, -1, false, []⟩) (by exact Nat.zero_le _) trivial hs) fun _ w' hs => ?_
      obtain ⟨rfl, hs⟩ := hs
      refine ret_of ?_
      have hs : Sat w' (lgP lg _ :: dk d ⟨1000, -1, false, []⟩ :: rfP rr ⟨seg, gap, []⟩ :: l) := hs
      exact wp_lv ⟨rfl, hs.sub⟩
    rintro _ w2 ⟨rfl, hs⟩
    refine wp_ifF ?_ (by simp)
    refine wp_call (fuse_c (d := d) 0 (by omega) hs) fun _ w' hs => ?_
    obtain ⟨rfl, hs⟩ := hs
    refine ret_of ?_
    refine wp_call (lopen_gone (d := d) (D := fuseA ⟨1000, -1, false, []⟩ 0) s seg gap hp hc rfl hs) fun _ w' hs => ?_
    obtain ⟨rfl, hs⟩ := hs
    refine ret_of ?_
    refine wp_lt ?_
    refine wp_call (lopen_nil s seg gap hs) fun _ w' hs => ?_
    obtain ⟨rfl, hs⟩ := hs
    refine ret_of ?_
    refine wp_lt ?_
    refine wp_mid (fun q w' => q = (true, ()) ∧ Sat w' l) ?_ ?_
    · refine wp_ifT ?_ (by simp)
      have hs : Sat w' l := hs.tail
      refine wp_call (awake6_c hs) fun _ _ hs => ?_
      obtain ⟨rfl, hs⟩ := hs
      refine ret_of ?_
      refine wp_lt ?_
      exact wp_lv ⟨rfl, hs⟩
    · rintro _ w3 ⟨rfl, hs⟩
      exact ⟨rfl, rfl, hs⟩
end
end Go.Dec
