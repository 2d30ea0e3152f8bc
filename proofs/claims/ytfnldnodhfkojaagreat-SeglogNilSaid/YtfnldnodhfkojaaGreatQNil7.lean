/- What the claim of this folder leans on: our own texts, joined, without what it does not use. -/
import Derived.Test.YtfnldnodhfkojaaGreatRows
import Derived.WalkKit
import Derived.ProofKit
import Derived.OpenShut
import Derived.RowKit3
import Derived.OrdersHeld
import Derived.Scope
import Derived.KernelRfl
import Derived.Laws.Sem
import Derived.Laws.StructEq
import Derived.Deep.AppendSrc
import Derived.Laws.BytesArg
import Derived.Laws.RangeString
import Derived.Maps.RangeRun
import Derived.Lib.ConvBytes
import Derived.Lib.SlBytesConst
import Derived.ChangeSlices
import Derived.ChangeMaps5
import Derived.ChangeSame
import Derived.Deep.Slices
import Derived.Deep.Fields
import Derived.Test.YtfnldnodhfkojaaGreatProg
import Derived.Laws.MakeOwn
import Derived.Sort.MapsRangeIn
import Derived.Sort.KeysCollected
import Derived.RangeFuncNested
import Derived.RangeFuncBound
import Derived.RangeFuncCalls
import Derived.RangeFuncLeaves
import Derived.RangeFuncBox
import Derived.OwnWalkIn
import Derived.TacticsInMore
import Derived.RegionIn
import Derived.LoopNIn
import Derived.LoopIn
import Derived.Maps.AppendAt
import Derived.Shelf.Abstract
import Derived.Test.YtfnldnodhfkojaaGreatQNil1
import Derived.Test.YtfnldnodhfkojaaGreatQNil2
import Derived.Test.YtfnldnodhfkojaaGreatQNil3
import Derived.Test.YtfnldnodhfkojaaGreatQNil4
import Derived.Test.YtfnldnodhfkojaaGreatQNil5
import Derived.Test.YtfnldnodhfkojaaGreatQNil6
namespace Go.Dec
set_option linter.unusedVariables false
set_option linter.unusedSimpArgs false
instance (priority := low) AddrIs.adds {a : Addr} {b off n : Nat} [h : AddrIs a b off] : AddrIs (a.add n) b (off + n) := ⟨by rw [h.ok, add_mk]⟩
section
variable {P : Program} {w : World} {Q : Post} {S : World → Prop}
theorem wp_gz {g : Prop} {o : Option Addr} {f : Addr → Prog} (h : (f ⟨0, 0, none⟩).wp P S w Q) (hg : ¬ g) : (Prog.ex [.adr] (c1 fun x => g → o = some x) (u1 f)).wp P S w Q := ⟨(⟨0, 0, none⟩, ()), fun h => absurd h hg, h⟩
theorem wp_gr {g : Prop} {m : Sem Value} {p : Pr} {f : p.D → Prog} (x : p.D) (hg : ¬ g) (h : (f x).wp P S w Q) : (Prog.read g m (.one (.one p)) (u1 f)).wp P S w Q := ⟨(x, ()), fun h => absurd h hg, h⟩
end
def SegA.add (s : SegA) (bs : List BatM) : SegA := ⟨s.base, s.fin, s.bs ++ bs.map BatM.p⟩
theorem add_nil (s : SegA) : s.add [] = s := by unfold SegA.add; simp
theorem add_add (s : SegA) (a b : List BatM) : (s.add a).add b = s.add (a ++ b) := by unfold SegA.add; simp
theorem flat_p (bs : List BatM) : (bs.map BatM.p).flatMap frL = bs.flatMap frL := by
  rw [List.flatMap_map]; rfl
theorem file_add (s : SegA) (bs : List BatM) : (s.add bs).file = s.file ++ bs.flatMap frL := by
  unfold SegA.file SegA.add
  simp only [List.flatMap_append, flat_p, List.append_assoc]
theorem idx_add (gap : Int) (s : SegA) (b : BatM) : (s.add [b]).idx gap = (noteA (s.idx gap) b.base (s.file.length : Nat) (lateB b)).2 := by
  unfold SegA.idx SegA.add
  show idxG (idx0 gap) _ (s.bs ++ [b.p]) = _
  rw [idxG_snoc, file_len]
  rw [show ((((shL s.base s.fin).length + (s.bs.flatMap frL).length : Nat)) : Int) = ((shL s.base s.fin).length : Int) + ((s.bs.flatMap frL).length : Int) by omega]
  rfl
theorem getLast_map {α β : Type} (f : α → β) (l : List α) : (l.map f).getLast? = l.getLast?.map f := by simp
section
variable {w : World} {l r : List HP} {lg : Nat} {M : LogM} {A : LogA} {gap : Int} {a : Nat} {t : SegM}
theorem reach_c [hf : Fo l (segP gap) a t r] (hs : Sat w l) : Ret P F.seglog_segment_reach #[.pointer (some ⟨a, 0, none⟩)] w fun vs w' => vs = [.int .i64 t.s.reach] ∧ Sat w' (segP gap a t :: r) :=
  seglog_segment_reach_calls _ <| by
    unfold seglog_segment_reach
    have hs := seg_open (hs.perm hf.perm)
    refine wp_tk hs fun w' hs => ?_
    refine wp_nn ?_
    refine wp_ldO hs ?_
    refine wp_nn ?_
    refine wp_ldO hs ?_
    refine wp_nn ?_
    refine wp_ldO hs ?_
    refine wp_ltx (y := t.s.reach) ?_ (by unfold SegA.reach; split <;> split <;> omega)
    refine wp_untick ?_
    exact ⟨rfl, rfl, seg_close t hs⟩
theorem newseg_c (base fin : Int) (hb : 0 ≤ base ∧ base < 9223372036854775808) (hf' : 0 ≤ fin ∧ fin < 9223372036854775808) [hf : Fo l lgQ lg M r] (hs : Sat w l) :
    Ret P F.seglog_Log_segment #[.pointer (some ⟨lg, 0, none⟩), .int .i64 base, .int .i64 fin] w fun vs w' => ∃ a ix, vs = [.pointer (some ⟨a, 0, none⟩)] ∧ Sat w' (segP M.gap a ⟨ix, ⟨base, fin, []⟩⟩ :: lgQ lg M :: r) :=
  seglog_Log_segment_calls _ base fin <| by
    unfold seglog_Log_segment
    obtain ⟨hok, hs⟩ := lgQ_open (hs.perm hf.perm)
    refine wp_nn ?_
    refine wp_ldO hs ?_
    refine wp_call (inew_c M.gap hok.gap hs) fun _ w' hs => ?_
    obtain ⟨ix, rfl, hs⟩ := hs
    refine ret_of ?_
    refine wp_lt ?_
    refine wp_call (head_c base fin hb hf' hs) fun _ w' hs => ?_
    obtain ⟨z, rfl, hs⟩ := hs
    refine ret_of ?_
    have hl := hs.slen z (xs := shL base fin) (enc := encU)
    refine wp_boxO hs fun a w' hs => ?_
    refine ⟨rfl, a, ix, rfl, ?_⟩
    have hs : Sat w' (pt a (.cells #[.pointer (some ⟨ix, 0, none⟩), .int .i64 base, .int .i64 fin, .int .i64 (nextG []), .int .i64 (lateG (-1) []), .int .i64 ((SegA.file ⟨base, fin, []⟩).length : Nat)] T.seglog_segment) :: slc T.uint8 1 z ((shL base fin).flatMap encU) :: idxP ix ((SegA.mk base fin []).idx M.gap) :: pt lg (.cells #[.pointer (some ⟨M.d, 0, none⟩), .string M.pre, .int .i64 M.seg, .int .i64 M.gap, .slice M.z.a M.z.len M.z.cap] T.seglog_Log) :: slc T.p_seglog_segment 1 M.z ((M.SM.map Prod.fst).flatMap encP) :: HP.all (M.SM.map fun t => segP M.gap t.1 t.2) :: r) := by
      have e : (SegA.file ⟨base, fin, []⟩).length = z.len := by rw [file_len, hl]; simp
      rw [e]
      exact hs
    have hs := lgQ_close M hok (hs.pick [3, 3, 3])
    exact seg_close ⟨ix, ⟨base, fin, []⟩⟩ (hs.sub)
theorem take_c (b : BatM) (hv : validB b = 0) [hf : Fo l (segP gap) a t r] [hb : FocR r b.x 4 (b.rs.flatMap encR)] (hlen : t.s.file.length + (frL b).length ≤ 1000000000) (hs : Sat w l) :
    Ret P F.seglog_segment_take #[.pointer (some ⟨a, 0, none⟩), .agg (encB7 b).toArray, .int .i64 ((frL b).length : Nat)] w fun vs w' => vs = [] ∧ Sat w' (segP gap a ⟨t.ix, t.s.add [b]⟩ :: r) :=
  seglog_segment_take_calls _ b.base b.pid b.epoch b.seq b.kind b.time b.x _ <| by
    unfold seglog_segment_take
    obtain ⟨h64, -⟩ := valid_recs hv
    obtain ⟨-, -, ⟨-, hba, -⟩, -, -⟩ := span_le b hv
    have hs := seg_open (hs.perm hf.perm)
    refine wp_boxO hs fun a0 w' hs => ?_
    refine wp_ldG hs ?_
    refine wp_call (latest_c b (by omega) hs) fun _ w' hs => ?_
    obtain ⟨rfl, hs⟩ := hs
    refine ret_of ?_
    refine wp_lt ?_
    refine wp_tk hs fun w' hs => ?_
    refine wp_nn ?_
    refine wp_ldO hs ?_
    refine wp_ldO hs ?_
    refine wp_nn ?_
    refine wp_ldO hs ?_
    refine wp_call (note_c (b := t.ix) b.base ((t.s.file.length : Nat) : Int) (lateB b) (by omega) (by omega) hs) fun _ w' hs => ?_
    obtain ⟨rfl, hs⟩ := hs
    refine ret_of ?_
    refine wp_untick ?_
    refine wp_ldG hs ?_
    refine wp_call (next_c_ b hs) fun _ w' hs => ?_
    obtain ⟨rfl, hs⟩ := hs
    refine ret_of ?_
    refine wp_nn ?_
    refine wp_stO hs fun w' hs => ?_
    refine wp_nn ?_
    refine wp_ldO hs ?_
    refine wp_nn ?_
    refine wp_stO hs fun w' hs => ?_
    refine wp_nn ?_
    refine wp_ldO hs ?_
    refine wp_nn ?_
    rw [w64 (by omega) (by omega)]
    refine wp_stO hs fun w' hs => ?_
    refine ⟨rfl, rfl, ?_⟩
    have e1 : nextB b = nextG (t.s.add [b]).bs := by
      show _ = nextG (t.s.bs ++ [b.p])
      rw [nextG_snoc]
      unfold nextB
      rw [if_neg (by rw [hv]; simp)]
      rfl
    have e2 : (if lateB b > lateG (-1) t.s.bs then lateB b else lateG (-1) t.s.bs) = lateG (-1) (t.s.add [b]).bs := by
      show _ = lateG (-1) (t.s.bs ++ [b.p])
      rw [lateG_snoc]
      show _ = max _ (lateB b)
      split <;> omega
    have e3 : ((t.s.file.length : Nat) : Int) + ((frL b).length : Nat) = (((t.s.add [b]).file.length : Nat) : Int) := by
      rw [file_add, List.length_append]; simp
    rw [e1, e2, e3, ← idx_add] at hs
    have hs : Sat w' (pt a (.cells #[.pointer (some ⟨t.ix, 0, none⟩), .int .i64 (t.s.add [b]).base, .int .i64 (t.s.add [b]).fin, .int .i64 (nextG (t.s.add [b]).bs), .int .i64 (lateG (-1) (t.s.add [b]).bs), .int .i64 ((t.s.add [b]).file.length : Nat)] T.seglog_segment) :: _) := hs
    refine seg_close ⟨t.ix, t.s.add [b]⟩ ?_
    exact hs.sub
theorem last_c [hf : Fo l lgQ lg M r] (hlen : M.SM.length ≤ 1000000000) (hs : Sat w l) : Ret P F.seglog_Log_last #[.pointer (some ⟨lg, 0, none⟩)] w fun vs w' => vs = [.pointer (ptrO (M.SM.getLast?.map Prod.fst))] ∧ Sat w' (lgQ lg M :: r) :=
  seglog_Log_last_calls _ <| by
    unfold seglog_Log_last
    obtain ⟨hok, hs⟩ := lgQ_open (hs.perm hf.perm)
    have hl := hs.slen M.z (xs := M.SM.map Prod.fst) (enc := encP)
    rw [List.length_map] at hl
    refine wp_nn ?_
    refine wp_ldO hs ?_
    refine wp_if (fun h => ?_) fun h => ?_
    · have : M.SM = [] := List.length_eq_zero_iff.1 (by omega)
      rw [this]
      rw [this] at hs
      have hs := lgQ_close M hok (by rw [this]; exact hs)
      exact ⟨rfl, rfl, hs⟩
    have h0 : 0 < M.SM.length := by omega
    refine wp_tk hs fun w' hs => ?_
    refine wp_nn ?_
    refine wp_ldO hs ?_
    refine wp_nn ?_
    refine wp_ldO hs ?_
    rw [w64 (by omega) (by omega)]
    refine wp_ix1 hs (xs := M.SM.map Prod.fst) (enc := encP) (M.SM.length - 1) (by rw [List.length_map]; omega) ?_
    refine wp_untick ?_
    refine ⟨rfl, ?_, lgQ_close M hok hs⟩
    have e : M.SM.getLast?.map Prod.fst = some ((M.SM.map Prod.fst)[M.SM.length - 1]'(by rw [List.length_map]; omega)) := by
      rw [List.getLast?_eq_getElem?, List.getElem?_eq_getElem (by omega)]
      simp
    rw [e]
    rfl
/-- One segment's parts. -/
theorem seg_at {SM : List (Nat × SegM)} (hs : Sat w (HP.all (SM.map fun t => segP gap t.1 t.2) :: l)) {i : Nat} (hi : i < SM.length) :
    Sat w (segP gap SM[i].1 SM[i].2 :: HP.all ((SM.eraseIdx i).map fun t => segP gap t.1 t.2) :: l) := by
  exact ((hs.all_perm ((perm_eraseIdx hi).map _))).all_cons
theorem seg_back {SM : List (Nat × SegM)} {i : Nat} (hi : i < SM.length) (hs : Sat w (segP gap SM[i].1 SM[i].2 :: HP.all ((SM.eraseIdx i).map fun t => segP gap t.1 t.2) :: l)) :
    Sat w (HP.all (SM.map fun t => segP gap t.1 t.2) :: l) := by
  have h1 : Sat w (HP.all ((SM[i] :: SM.eraseIdx i).map fun t => segP gap t.1 t.2) :: l) := hs.all_put
  exact h1.all_perm ((perm_eraseIdx hi).symm.map _)
theorem lnext_c [hf : Fo l lgQ lg M r] (hlen : M.SM.length ≤ 1000000000) (hs : Sat w l) : Ret P F.seglog_Log_Next #[.pointer (some ⟨lg, 0, none⟩)] w fun vs w' => vs = [.int .i64 (nextL M.l)] ∧ Sat w' (lgQ lg M :: r) :=
  seglog_Log_Next_calls _ <| by
    unfold seglog_Log_Next
    obtain ⟨hok, hs⟩ := lgQ_open (hs.perm hf.perm)
    have hl := hs.slen M.z (xs := M.SM.map Prod.fst) (enc := encP)
    rw [List.length_map] at hl
    refine wp_nng ?_
    refine wp_ldO hs ?_
    refine wp_if (fun h => ?_) fun h => ?_
    · have h : M.SM = [] := by
        rcases h with h | h
        · cases h
        · exact List.length_eq_zero_iff.1 (by omega)
      have e : nextL M.l = 0 := by unfold LogM.l; rw [h]; rfl
      rw [e]
      exact ⟨rfl, rfl, lgQ_close M hok hs⟩
    have h0 : 0 < M.SM.length := by
      apply Nat.pos_of_ne_zero
      intro h1
      exact h (.inr (by omega))
    have hs := lgQ_close M hok hs
    refine wp_call (last_c (lg := lg) hlen hs) fun _ w' hs => ?_
    obtain ⟨rfl, hs⟩ := hs
    refine ret_of ?_
    have e1 : M.SM.getLast? = some (M.SM[M.SM.length - 1]'(by omega)) := by
      rw [List.getLast?_eq_getElem?, List.getElem?_eq_getElem (by omega)]
    rw [e1]
    obtain ⟨-, hs⟩ := lgQ_open hs
    have hs := seg_at (hs.pick [2]) (show M.SM.length - 1 < M.SM.length by omega)
    refine wp_call (reach_c (gap := M.gap) (a := M.SM[M.SM.length - 1].1) hs) fun _ w' hs => ?_
    obtain ⟨rfl, hs⟩ := hs
    refine ret_of ?_
    refine wp_lt ?_
    have e : nextL M.l = (M.SM[M.SM.length - 1]'(by omega)).2.s.reach := by
      unfold LogM.l nextL
      rw [getLast_map, e1]
      rfl
    rw [e]
    have hs := seg_back (show M.SM.length - 1 < M.SM.length by omega) hs
    exact ⟨rfl, rfl, lgQ_close M hok (hs.pick [1, 1])⟩
/-- Is there room for so many bytes in the last segment? -/
def roomy (seg : Int) (l : List SegA) (n : Nat) : Bool := match l.getLast? with
  | none => false
  | some s => decide (nextG s.bs = 0) || decide (((s.file.length + n : Nat) : Int) ≤ seg)
theorem fits_l (n : Nat) (hn : n ≤ 1000000000) [hf : Fo l lgQ lg M r] (hlen : M.SM.length ≤ 1000000000) (hfl : ∀ s ∈ M.l, s.file.length ≤ 1000000000) (hs : Sat w l) : Ret P F.seglog_Log_fits #[.pointer (some ⟨lg, 0, none⟩), .int .i64 (n : Int)] w fun vs w' => vs = [.bool (roomy M.seg M.l n)] ∧ Sat w' (lgQ lg M :: r) :=
  seglog_Log_fits_calls _ _ <| by
    unfold seglog_Log_fits
    refine wp_call (last_c (lg := lg) hlen hs) fun _ w' hs => ?_
    obtain ⟨rfl, hs⟩ := hs
    refine ret_of ?_
    refine wp_tk hs fun w' hs => ?_
    by_cases h0 : M.SM = []
    · have e : roomy M.seg M.l n = false := by unfold LogM.l roomy; rw [h0]; rfl
      rw [e, h0]
      refine wp_gz ?_ (fun h => by cases h)
      refine wp_gr (0 : Int) (fun h => by cases h) ?_
      refine wp_gz ?_ (fun h => by cases h.1)
      refine wp_gr (0 : Int) (fun h => by cases h.1) ?_
      refine wp_gz ?_ (fun h => by cases h.1)
      refine wp_gr (0 : Int) (fun h => by cases h.1) ?_
      refine wp_lt ?_
      refine wp_untick ?_
      exact ⟨rfl, rfl, hs⟩
    have hp := List.length_pos_iff.2 h0
    have e1 : M.SM.getLast? = some (M.SM[M.SM.length - 1]'(by omega)) := by
      rw [List.getLast?_eq_getElem?, List.getElem?_eq_getElem (by omega)]
    have e : roomy M.seg M.l n = (decide (nextG (M.SM[M.SM.length - 1]'(by omega)).2.s.bs = 0) || decide ((((M.SM[M.SM.length - 1]'(by omega)).2.s.file.length + n : Nat) : Int) ≤ M.seg)) := by
      unfold LogM.l roomy
      rw [getLast_map, e1]
      rfl
    have hfl' := hfl _ (List.mem_map.2 ⟨_, List.getElem_mem (show M.SM.length - 1 < M.SM.length by omega), rfl⟩)
    rw [e, e1]
    obtain ⟨hok, hs⟩ := lgQ_open hs
    have hs := seg_open (seg_at (hs.pick [2]) (show M.SM.length - 1 < M.SM.length by omega))
    refine wp_nng ?_
    refine wp_ldO hs ?_
    refine wp_nng ?_
    refine wp_ldO hs ?_
    refine wp_nng ?_
    refine wp_ldO hs ?_
    rw [w64 (by omega) (by omega)]
    refine wp_lt ?_
    refine wp_untick ?_
    have hs := seg_back (show M.SM.length - 1 < M.SM.length by omega) (seg_close (M.SM[M.SM.length - 1]'(by omega)).2 hs)
    refine ⟨rfl, ?_, lgQ_close M hok (hs.pick [1, 1])⟩
    rfl
theorem put_c (a : Nat) (t : SegM) {r0 : List HP} [hf : Fo l lgQ lg M r0] [hf2 : Fo r0 (segP M.gap) a t r] (hlen : M.SM.length ≤ 1000000000) (hs : Sat w l) :
    Ret P F.seglog_Log_put #[.pointer (some ⟨lg, 0, none⟩), .pointer (some ⟨a, 0, none⟩)] w fun vs w' => ∃ z : Sl, vs = [] ∧ Sat w' (lgQ lg { M with z := z, SM := M.SM ++ [(a, t)] } :: r) :=
  seglog_Log_put_calls _ _ <| by
    unfold seglog_Log_put
    obtain ⟨hok, hs⟩ := lgQ_open (hs.perm (hf.perm.trans (.cons _ hf2.perm)))
    have hl := hs.slen M.z (xs := M.SM.map Prod.fst) (enc := encP)
    refine wp_nn ?_
    refine wp_ldO hs ?_
    refine wp_ap0 (xs := M.SM.map Prod.fst) (enc := encP) (y := a) hs (fun z w' hs => ?_) rfl (by rw [List.length_map]; omega)
    refine wp_nn ?_
    refine wp_stO hs fun w' hs => ?_
    refine ⟨rfl, z, rfl, ?_⟩
    have hs : Sat w' (pt lg (.cells #[.pointer (some ⟨M.d, 0, none⟩), .string M.pre, .int .i64 M.seg, .int .i64 M.gap, .slice z.a z.len z.cap] T.seglog_Log) :: slc T.p_seglog_segment 1 z ((M.SM.map Prod.fst ++ [a]).flatMap encP) :: HP.all (M.SM.map fun t => segP M.gap t.1 t.2) :: segP M.gap a t :: r) := hs
    have h1 : Sat w' (HP.all (((a, t) :: M.SM).map fun t => segP M.gap t.1 t.2) :: pt lg (.cells #[.pointer (some ⟨M.d, 0, none⟩), .string M.pre, .int .i64 M.seg, .int .i64 M.gap, .slice z.a z.len z.cap] T.seglog_Log) :: slc T.p_seglog_segment 1 z ((M.SM.map Prod.fst ++ [a]).flatMap encP) :: r) := (hs.pick [3, 2]).all_put
    have h2 := h1.all_perm ((List.perm_append_comm (l₁ := [(a, t)]) (l₂ := M.SM)).map fun t => segP M.gap t.1 t.2)
    refine lgQ_close { M with z := z, SM := M.SM ++ [(a, t)] } hok ?_
    have e : (M.SM ++ [(a, t)]).map Prod.fst = M.SM.map Prod.fst ++ [a] := by simp
    show Sat w' (pt lg _ :: slc T.p_seglog_segment 1 z (((M.SM ++ [(a, t)]).map Prod.fst).flatMap encP) :: HP.all ((M.SM ++ [(a, t)]).map fun t => segP M.gap t.1 t.2) :: r)
    rw [e]
    exact h2.pick [1, 1]
theorem segments_c [hf : Fo l lgQ lg M r] (hlen : M.SM.length ≤ 1000000) (hs : Sat w l) : Ret P F.seglog_Log_Segments #[.pointer (some ⟨lg, 0, none⟩)] w fun vs w' => ∃ z : Sl, vs = [z.v] ∧ Sat w' (slc T.int64 1 z ((M.l.map SegA.base).flatMap encI) :: lgQ lg M :: r) :=
  seglog_Log_Segments_calls _ <| by
    unfold seglog_Log_Segments
    obtain ⟨hok, hs⟩ := lgQ_open (hs.perm hf.perm)
    have hl := hs.slen M.z (xs := M.SM.map Prod.fst) (enc := encP)
    rw [List.length_map] at hl
    have hll : M.l.length = M.SM.length := List.length_map ..
    refine wp_ifF ?_ (by simp)
    refine wp_nn ?_
    refine wp_ldO hs ?_
    refine wp_mid (fun q w' => ∃ z : Sl, q = (z, ()) ∧ Sat w' (slc T.int64 1 z ((M.l.map SegA.base).flatMap encI) :: lgQ lg M :: r)) ?_ ?_
    rotate_left
    · rintro _ w2 ⟨z, rfl, hs⟩
      exact ⟨rfl, z, rfl, hs⟩
    refine wp_loop (fun m v w => ∃ (i : Nat) (z : Sl), v = (z, ((i : Int), ())) ∧ i ≤ M.SM.length ∧ M.SM.length - i = m ∧ Sat w (slc T.int64 1 z (((M.l.take i).map SegA.base).flatMap encI) :: pt lg (.cells #[.pointer (some ⟨M.d, 0, none⟩), .string M.pre, .int .i64 M.seg, .int .i64 M.gap, .slice M.z.a M.z.len M.z.cap] T.seglog_Log) :: slc T.p_seglog_segment 1 M.z ((M.SM.map Prod.fst).flatMap encP) :: HP.all (M.SM.map fun t => segP M.gap t.1 t.2) :: r)) M.SM.length ⟨0, ⟨none, 0, 0⟩, rfl, by omega, rfl, hs.slc_nil⟩ ?_
    clear hs
    rintro m _ w ⟨i, z, rfl, hi, hm, hs⟩
    refine wp_on ?_
    refine wp_if (fun hc => ?_) fun hc => ?_
    rotate_left
    · refine wp_pass (wp_lv ⟨z, rfl, ?_⟩)
      rw [List.take_of_length_le (by omega)] at hs
      exact (lgQ_close M hok (hs.pick [1, 1, 1])).pick [1]
    have hil : i < M.SM.length := by omega
    refine wp_ix1 hs (xs := M.SM.map Prod.fst) (enc := encP) i (by rw [List.length_map]; exact hil) ?_
    have e0 : (M.SM.map Prod.fst)[i]'(by rw [List.length_map]; exact hil) = M.SM[i].1 := by simp
    rw [e0]
    refine wp_nn ?_
    have hs := seg_open (seg_at (hs.pick [3]) hil)
    refine wp_ldO hs ?_
    refine wp_ap0 (xs := (M.l.take i).map SegA.base) (enc := encI) (y := M.SM[i].2.s.base) hs (fun z' w' hs => ?_) rfl (by rw [List.length_map, List.length_take]; omega)
    rw [show IntKind.wrap .i64 ((i : Int) + 1) = ((i + 1 : Nat) : Int) by rw [w64 (by omega) (by omega)]; omega]
    refine wp_lp (M.SM.length - (i + 1)) ⟨i + 1, z', rfl, by omega, rfl, ?_⟩
    have e1 : (M.l.take (i + 1)).map SegA.base = (M.l.take i).map SegA.base ++ [M.SM[i].2.s.base] := by
      rw [List.take_succ_eq_append_getElem (by omega), List.map_append]
      unfold LogM.l
      simp
    rw [e1]
    have hs : Sat w' (slc T.int64 1 z' (((M.l.take i).map SegA.base ++ [M.SM[i].2.s.base]).flatMap encI) :: pt M.SM[i].1 _ :: idxP _ _ :: HP.all _ :: pt lg _ :: slc T.p_seglog_segment 1 M.z _ :: r) := hs
    have hs := seg_back hil (seg_close M.SM[i].2 (hs.pick [1, 1, 1]))
    exact hs.pick [1, 1, 1]
end
end Go.Dec
namespace Go.Dec
set_option linter.unusedVariables false
set_option linter.unusedSimpArgs false
theorem SegsOk.mem : ∀ {n : Int} {l : List SegA}, SegsOk n l → ∀ s ∈ l, SegOk s ∧ n ≤ s.base
  | _, a :: l, ⟨h1, h2, h3⟩, s, hs => by
    rcases List.mem_cons.1 hs with rfl | hs
    · exact ⟨h2, h1⟩
    · have := h3.mem s hs
      exact ⟨this.1, by omega⟩
def lsyncA (pre : ByteArray) (l : List SegA) (D : DiskA) : Int × DiskA := match l.getLast? with
  | none => (0, D)
  | some s => syncA D [nameS pre s.base logX]
def BatM.to (b : BatM) (n : Int) : BatM := ⟨n, b.pid, b.epoch, b.seq, b.kind, b.time, b.x, b.rs⟩
def placeL : Int → List BatM → Int × List BatM
  | _, [] => (0, [])
  | n, b :: bs => if validB (b.to n) ≠ 0 then (validB (b.to n), []) else if (placeL (n + spanB b) bs).1 ≠ 0 then ((placeL (n + spanB b) bs).1, []) else (0, b.to n :: (placeL (n + spanB b) bs).2)
def frP (p : Sl × List UInt8) : HP := slc T.uint8 1 p.1 (p.2.flatMap encU)
theorem placeL_ok : ∀ {bs : List BatM} {n : Int}, (placeL n bs).1 = 0 → (placeL n bs).2.length = bs.length ∧ (∀ b ∈ (placeL n bs).2, validB b = 0 ∧ ∃ c ∈ bs, b.x = c.x ∧ b.rs = c.rs) ∧ ∀ b, (placeL n bs).2.head? = some b → b.base = n
  | [], n, _ => ⟨rfl, (fun _ h => by cases h), (fun _ h => by cases h)⟩
  | b :: bs, n, h => by
    unfold placeL at h ⊢
    by_cases h1 : validB (b.to n) ≠ 0
    · rw [if_pos h1] at h; exact absurd h h1
    rw [if_neg h1] at h ⊢
    by_cases h2 : (placeL (n + spanB b) bs).1 ≠ 0
    · rw [if_pos h2] at h; exact absurd h h2
    rw [if_neg h2]
    obtain ⟨i1, i2, -⟩ := placeL_ok (Decidable.not_not.1 h2)
    refine ⟨by simp [i1], fun c hc => ?_, fun c hc => ?_⟩
    · rcases List.mem_cons.1 hc with rfl | hc
      · exact ⟨Decidable.not_not.1 h1, b, List.mem_cons_self .., rfl, rfl⟩
      · obtain ⟨v, d, hd, e⟩ := i2 c hc
        exact ⟨v, d, List.mem_cons_of_mem _ hd, e⟩
    · simp at hc; subst hc; rfl
theorem bat_sum : ∀ {bs : List BatM}, (∀ b ∈ bs, validB b = 0) → (bs.flatMap frL).length ≤ bs.length * 262152
  | [], _ => by simp
  | b :: bs, h => by
    have h1 := frL_len (h b (List.mem_cons_self ..))
    have h2 := batL_len (h b (List.mem_cons_self ..))
    have h3 := bat_sum fun x hx => h x (List.mem_cons_of_mem _ hx)
    rw [List.flatMap_cons, List.length_append, List.length_cons]
    omega
section
variable {w : World} {l r : List HP} {lg : Nat} {M : LogM} {D : DiskA} {gap : Int} {a : Nat} {t : SegM}
theorem all_rd {fs : List (Sl × List UInt8)} {p : Sl × List UInt8} (hp : p ∈ fs) [hf : Foc l (HP.all (fs.map frP)) r] : FocR l p.1 1 (p.2.flatMap encU) := ⟨fun w hs => by
  obtain ⟨L, hs⟩ := (hs.perm hf.perm).all_mem hp
  exact Sat.rd hs⟩
theorem rdAll_of : ∀ {fs gs : List (Sl × List UInt8)}, (∀ p ∈ gs, FocR l p.1 1 (p.2.flatMap encU)) → RdAll l (gs.map Prod.fst) (gs.map Prod.snd)
  | _, [], _ => trivial
  | fs, p :: gs, h => ⟨(h p (List.mem_cons_self ..)).rd, rdAll_of (fs := fs) fun q hq => h q (List.mem_cons_of_mem _ hq)⟩
theorem lsync_c {r1 : List HP} [hf : Fo l lgQ lg M r1] [hf2 : Fo r1 dk M.d D r] (hlen : M.SM.length ≤ 1000000000) (hok : SegsOk 0 M.l) (hs : Sat w l) :
    Ret P F.seglog_Log_Sync #[.pointer (some ⟨lg, 0, none⟩)] w fun vs w' => vs = [.int .i64 (lsyncA M.pre M.l D).1] ∧ Sat w' (lgQ lg M :: dk M.d (lsyncA M.pre M.l D).2 :: r) :=
  seglog_Log_Sync_calls _ <| by
    unfold seglog_Log_Sync
    have hs := hs.perm (hf.perm.trans (.cons _ hf2.perm))
    refine wp_ifF ?_ (by simp)
    refine wp_call (last_c (lg := lg) hlen hs) fun _ w' hs => ?_
    obtain ⟨rfl, hs⟩ := hs
    refine ret_of ?_
    by_cases h0 : M.SM = []
    · have e : lsyncA M.pre M.l D = (0, D) := by unfold LogM.l lsyncA; rw [h0]; rfl
      rw [e, h0]
      refine wp_ifF ?_ (by simp [ptrO])
      exact ⟨rfl, rfl, hs⟩
    have hp := List.length_pos_iff.2 h0
    have hsz : M.SM.length - 1 < M.SM.length := by omega
    have e1 : M.SM.getLast? = some (M.SM[M.SM.length - 1]'hsz) := by
      rw [List.getLast?_eq_getElem?, List.getElem?_eq_getElem (by omega)]
    have e : lsyncA M.pre M.l D = syncA D [nameS M.pre (M.SM[M.SM.length - 1]'hsz).2.s.base logX] := by
      unfold LogM.l lsyncA
      rw [getLast_map, e1]
      rfl
    have hmem : (M.SM[M.SM.length - 1]'hsz).2.s ∈ M.l := List.mem_map.2 ⟨_, List.getElem_mem hsz, rfl⟩
    have hbase := (hok.mem _ hmem).1.base
    rw [e, e1]
    obtain ⟨hokm, hs⟩ := lgQ_open hs
    have hpre : M.pre.size ≤ 100 := by
      have := hokm.pre
      unfold preS at this
      rw [Bool.and_eq_true, decide_eq_true_eq] at this
      omega
    refine wp_ifT ?_ (by simp [ptrO])
    have hs := seg_open (seg_at (hs.pick [2]) hsz)
    refine wp_mid (fun q w' => q = ((syncA D [nameS M.pre (M.SM[M.SM.length - 1]'hsz).2.s.base logX]).1, ()) ∧ Sat w' (lgQ lg M :: dk M.d (syncA D [nameS M.pre (M.SM[M.SM.length - 1]'hsz).2.s.base logX]).2 :: r)) ?_ ?_
    rotate_left
    · rintro _ w2 ⟨rfl, hs⟩
      exact ⟨rfl, rfl, hs⟩
    refine wp_tk hs fun w' hs => ?_
    refine wp_nn ?_
    refine wp_hdO hs ?_
    refine wp_nn ?_
    refine wp_ldO hs ?_
    refine wp_call (name_c0 (lg := lg) _ (by omega) (ByteArray.mk #[46, 108, 111, 103]) (by decide) M.pre hpre hs) fun _ w' hs => ?_
    obtain ⟨rfl, hs⟩ := hs
    refine ret_of ?_ (by first | trivial | (repeat (first | exact trivial | exact fun _ => run_ldO hs | exact fun _ => run_ldG hs | refine And.intro ?_ ?_)))
    refine wp_litS hs (enc := encT) [nameS M.pre (M.SM[M.SM.length - 1]'hsz).2.s.base logX] fun y w' hs => ⟨(by first | trivial | (repeat (first | exact trivial | exact fun _ => run_ldO hs | exact fun _ => run_ldG hs | refine And.intro ?_ ?_))), ?_⟩
    refine wp_untick ?_
    refine wp_call (sync_c (d := M.d) y [nameS M.pre (M.SM[M.SM.length - 1]'hsz).2.s.base logX] (by show 1 ≤ 100000; omega) hs) fun _ w' hs => ?_
    obtain ⟨rfl, hs⟩ := hs
    refine ret_of ?_
    refine wp_lt ?_
    refine wp_untick ?_
    refine wp_lv ⟨rfl, ?_⟩
    replace hs : Sat _ (segP M.gap _ _ :: _) := seg_close (M.SM[M.SM.length - 1]'hsz).2 (hs.pick [2, 2])
    have hs := seg_back hsz (hs.pick [0, 2])
    exact (lgQ_close M hokm (hs.pick [3, 3])).sub
theorem placed_c (x : Sl) (bs : List BatM) [hf : Fo l lgQ lg M r] (hlen : M.SM.length ≤ 1000000000) (hbl : bs.length ≤ 100000) (hx : FocR r x 7 (bs.flatMap encB7)) (hbs : ∀ b ∈ bs, FocR r b.x 4 (b.rs.flatMap encR)) (hs : Sat w l) :
    Ret P F.seglog_Log_placed #[.pointer (some ⟨lg, 0, none⟩), x.v] w fun vs w' =>
      ((placeL (nextL M.l) bs).1 ≠ 0 ∧ vs = [.slice none 0 0, .slice none 0 0, .int .i64 (placeL (nextL M.l) bs).1] ∧ Sat w' (lgQ lg M :: r)) ∨
      ((placeL (nextL M.l) bs).1 = 0 ∧ ∃ (z1 z2 : Sl) (fs : List (Sl × List UInt8)), vs = [z1.v, z2.v, .int .i64 0] ∧ fs.map Prod.snd = (placeL (nextL M.l) bs).2.map frL ∧
        Sat w' (slc T.api_Batch 7 z1 ((placeL (nextL M.l) bs).2.flatMap encB7) :: slc T.s_uint8 1 z2 ((fs.map Prod.fst).flatMap encSl) :: HP.all (fs.map frP) :: lgQ lg M :: r)) :=
  seglog_Log_placed_calls _ x <| by
    unfold seglog_Log_placed
    have hs := hs.perm hf.perm
    have hl := hs.slen x (xs := bs) (enc := encB7)
    refine wp_call (lnext_c (lg := lg) hlen hs) fun _ w' hs => ?_
    obtain ⟨rfl, hs⟩ := hs
    refine ret_of ?_
    refine wp_lt ?_
    generalize nextL M.l = n0
    refine wp_mid (fun q w' => ∃ (z1 z2 : Sl) (fs : List (Sl × List UInt8)), (placeL n0 bs).1 = 0 ∧ q = (z1, z2, ()) ∧ fs.map Prod.snd = (placeL n0 bs).2.map frL ∧
        Sat w' (slc T.api_Batch 7 z1 ((placeL n0 bs).2.flatMap encB7) :: slc T.s_uint8 1 z2 ((fs.map Prod.fst).flatMap encSl) :: HP.all (fs.map frP) :: lgQ lg M :: r)) ?_ ?_
    rotate_left
    · rintro _ w2 ⟨z1, z2, fs, h1, rfl, h2, hs⟩
      exact ⟨rfl, .inr ⟨h1, z1, z2, fs, rfl, h2, hs⟩⟩
    have h0 : Sat w' (slc T.api_Batch 7 ⟨none, 0, 0⟩ (([] : List BatM).flatMap encB7) :: slc T.s_uint8 1 ⟨none, 0, 0⟩ (((([] : List (Sl × List UInt8))).map Prod.fst).flatMap encSl) :: HP.all ((([] : List (Sl × List UInt8))).map frP) :: lgQ lg M :: r) := (Sat.all_nil hs).slc_nil.slc_nil
    refine wp_loop (fun m v w => ∃ (i : Nat) (n : Int) (done : List BatM) (z1 z2 : Sl) (fs : List (Sl × List UInt8)), v = (n, z1, z2, (i : Int), ()) ∧ i ≤ bs.length ∧ bs.length - i = m ∧ done.length = i ∧ fs.length = i ∧
      placeL n0 bs = (if (placeL n (bs.drop i)).1 ≠ 0 then ((placeL n (bs.drop i)).1, []) else (0, done ++ (placeL n (bs.drop i)).2)) ∧ fs.map Prod.snd = done.map frL ∧
      Sat w (slc T.api_Batch 7 z1 (done.flatMap encB7) :: slc T.s_uint8 1 z2 ((fs.map Prod.fst).flatMap encSl) :: HP.all (fs.map frP) :: lgQ lg M :: r)) bs.length
      ⟨0, n0, [], ⟨none, 0, 0⟩, ⟨none, 0, 0⟩, [], rfl, by omega, rfl, rfl, rfl, ?_, rfl, h0⟩ ?_
    · rw [List.drop_zero, List.nil_append]
      by_cases h : (placeL n0 bs).1 ≠ 0
      · rw [if_pos h]
        have : ∀ {bs : List BatM} {n : Int}, (placeL n bs).1 ≠ 0 → (placeL n bs).2 = [] := by
          intro bs
          induction bs with
          | nil => intro n h; exact absurd rfl h
          | cons b bs ih =>
            intro n h
            unfold placeL at h ⊢
            split
            · rfl
            · split
              · rfl
              · rename_i h1 h2
                rw [if_neg h1, if_neg h2] at h
                exact absurd rfl h
        rw [← this h]
      · rw [if_neg h]
        have h := Decidable.not_not.1 h
        rw [← h]
    clear hs h0
    rintro m _ w ⟨i, n, done, z1, z2, fs, rfl, hi, hm, hdl, hfl, hpl, hfs, hs⟩
    refine wp_on ?_
    refine wp_if (fun hc => ?_) fun hc => ?_
    rotate_left
    · have e : bs.drop i = [] := List.drop_eq_nil_of_le (by omega)
      rw [e] at hpl
      simp only [placeL, List.append_nil] at hpl
      have hpl : placeL n0 bs = (0, done) := by rw [hpl]; rfl
      refine wp_pass (wp_lv ⟨z1, z2, fs, by rw [hpl], rfl, by rw [hpl]; exact hfs, ?_⟩)
      rw [hpl]
      exact hs
    have hil : i < bs.length := by omega
    have hdrop : bs.drop i = bs[i] :: bs.drop (i + 1) := List.drop_eq_getElem_cons hil
    rw [hdrop] at hpl
    have hR := hbs bs[i] (List.getElem_mem hil)
    refine wp_ixA hs (xs := bs) (enc := encB7) i hil ?_
    refine wp_newO hs fun a w' hs => ?_
    refine wp_stG hs fun w' hs => ?_
    refine wp_stO hs fun w' hs => ?_
    refine wp_ldG hs ?_
    have hRt : FocR r (bs[i].to n).x 4 ((bs[i].to n).rs.flatMap encR) := hR
    refine wp_call (encode_c (bs[i].to n) hs) fun _ w' hs => ?_
    have hunf : placeL n (bs[i] :: bs.drop (i + 1)) = if validB (bs[i].to n) ≠ 0 then (validB (bs[i].to n), []) else if (placeL (n + spanB bs[i]) (bs.drop (i + 1))).1 ≠ 0 then ((placeL (n + spanB bs[i]) (bs.drop (i + 1))).1, []) else (0, bs[i].to n :: (placeL (n + spanB bs[i]) (bs.drop (i + 1))).2) := rfl
    rcases hs with ⟨hv, rfl, hs⟩ | ⟨hv, y, rfl, hs⟩
    · refine ret_of ?_
      refine wp_lt ?_
      refine wp_ifT ?_ hv
      refine wp_lt ?_
      rw [if_pos hv] at hunf
      have hpl : placeL n0 bs = (validB (bs[i].to n), []) := by rw [hpl, hunf, if_pos hv]
      refine wp_pass (wp_pass ⟨rfl, .inl ⟨by rw [hpl]; exact hv, by rw [hpl], hs.sub⟩⟩)
    · refine ret_of ?_
      refine wp_lt ?_
      refine wp_ifF ?_ (by simp)
      rw [if_neg (by rw [hv]; simp)] at hunf
      have hbl2 := batL_len hv
      have hfrl := frL_len hv
      refine wp_ldG hs ?_
      refine wp_ap0 (xs := done) (enc := encB7) (y := bs[i].to n) hs (fun z1' w' hs => ?_) rfl (by omega)
      refine wp_litx hs (enc := encSl) [y] fun y2 w' hs => ?_
      refine wp_call (fseal1_c y2 y (batL (bs[i].to n)) (by omega) hs) fun _ w' hs => ?_
      obtain ⟨y3, rfl, hs⟩ := hs
      refine ret_of ?_
      refine wp_ap0 (xs := fs.map Prod.fst) (enc := encSl) (y := y3) hs (fun z2' w' hs => ?_) rfl (by rw [List.length_map]; omega)
      refine wp_ldG hs ?_
      refine wp_call (next_c_ (bs[i].to n) hs) fun _ w' hs => ?_
      obtain ⟨rfl, hs⟩ := hs
      refine ret_of ?_
      refine wp_lt ?_
      rw [show IntKind.wrap .i64 ((i : Int) + 1) = ((i + 1 : Nat) : Int) by rw [w64 (by omega) (by omega)]; omega]
      have en : nextB (bs[i].to n) = n + spanB bs[i] := by
        unfold nextB
        rw [if_neg (by rw [hv]; simp)]
        rfl
      rw [en]
      refine wp_lp (bs.length - (i + 1)) ⟨i + 1, n + spanB bs[i], done ++ [bs[i].to n], z1', z2', fs ++ [(y3, frL (bs[i].to n))], rfl, by omega, rfl, by simp [hdl], by simp [hfl], ?_, by simp [hfs], ?_⟩
      · rw [hpl, hunf]
        by_cases h2 : (placeL (n + spanB bs[i]) (bs.drop (i + 1))).1 ≠ 0
        · rw [if_pos h2, if_pos h2, if_pos h2]
        · rw [if_neg h2, if_neg h2, if_neg (by simp), List.append_assoc]
          rfl
      · have e2 : (fs ++ [(y3, frL (bs[i].to n))]).map Prod.fst = fs.map Prod.fst ++ [y3] := by simp
        rw [e2]
        have hs : Sat w' (slc T.s_uint8 1 z2' ((fs.map Prod.fst ++ [y3]).flatMap encSl) :: slc T.uint8 1 y3 ((frL (bs[i].to n)).flatMap encU) :: slc T.s_uint8 1 y2 (([y] : List Sl).flatMap encSl) :: slc T.api_Batch 7 z1' ((done ++ [bs[i].to n]).flatMap encB7) :: _) := hs
        have hs : Sat w' (frP (y3, frL (bs[i].to n)) :: HP.all (fs.map frP) :: slc T.api_Batch 7 z1' ((done ++ [bs[i].to n]).flatMap encB7) :: slc T.s_uint8 1 z2' ((fs.map Prod.fst ++ [y3]).flatMap encSl) :: lgQ lg M :: r) := by
          have h3 : Sat w' (slc T.uint8 1 y3 ((frL (bs[i].to n)).flatMap encU) :: HP.all (fs.map frP) :: slc T.api_Batch 7 z1' ((done ++ [bs[i].to n]).flatMap encB7) :: slc T.s_uint8 1 z2' ((fs.map Prod.fst ++ [y3]).flatMap encSl) :: lgQ lg M :: r) := hs.sub
          exact h3
        have h4 : Sat w' (HP.all (((y3, frL (bs[i].to n)) :: fs).map frP) :: _) := hs.all_put
        have h5 := h4.all_perm ((List.perm_append_comm (l₁ := [(y3, frL (bs[i].to n))]) (l₂ := fs)).map frP)
        exact h5.pick [1, 1]
end
end Go.Dec
namespace Go.Dec
set_option linter.unusedVariables false
set_option linter.unusedSimpArgs false
def baseL (l : List SegA) : Int := match l.getLast? with
  | none => 0
  | some s => s.base
def addLast (l : List SegA) (bs : List BatM) : List SegA := match l.getLast? with
  | none => l
  | some s => l.dropLast ++ [s.add bs]
def lappA (pre : ByteArray) (seg : Int) (l : List SegA) (D : DiskA) (bs : List BatM) : (Int × Int) × List SegA × DiskA :=
  if bs = [] then ((0, 3), l, D) else
  if (placeL (nextL l) bs).1 ≠ 0 then ((0, (placeL (nextL l) bs).1), l, D) else
  if roomy seg l ((placeL (nextL l) bs).2.flatMap frL).length then
    if (appendA D (nameS pre (baseL l) logX) ((placeL (nextL l) bs).2.flatMap frL)).1 ≠ 0 then ((0, (appendA D (nameS pre (baseL l) logX) ((placeL (nextL l) bs).2.flatMap frL)).1), l, (appendA D (nameS pre (baseL l) logX) ((placeL (nextL l) bs).2.flatMap frL)).2)
    else ((nextL l, 0), addLast l (placeL (nextL l) bs).2, (appendA D (nameS pre (baseL l) logX) ((placeL (nextL l) bs).2.flatMap frL)).2)
  else
    if (lsyncA pre l D).1 ≠ 0 then ((0, (lsyncA pre l D).1), l, (lsyncA pre l D).2) else
    if (appendA (lsyncA pre l D).2 (nameS pre (nextL l) logX) (shL (nextL l) 0 ++ (placeL (nextL l) bs).2.flatMap frL)).1 ≠ 0 then ((0, (appendA (lsyncA pre l D).2 (nameS pre (nextL l) logX) (shL (nextL l) 0 ++ (placeL (nextL l) bs).2.flatMap frL)).1), l, (appendA (lsyncA pre l D).2 (nameS pre (nextL l) logX) (shL (nextL l) 0 ++ (placeL (nextL l) bs).2.flatMap frL)).2)
    else ((nextL l, 0), l ++ [(⟨nextL l, 0, []⟩ : SegA).add (placeL (nextL l) bs).2], (appendA (lsyncA pre l D).2 (nameS pre (nextL l) logX) (shL (nextL l) 0 ++ (placeL (nextL l) bs).2.flatMap frL)).2)
def LogA.set (A : LogA) (l : List SegA) : LogA := ⟨A.d, A.pre, A.seg, A.gap, l⟩
theorem SegsOk.next : ∀ {n : Int} {l : List SegA}, 0 ≤ n → SegsOk n l → 0 ≤ nextL l ∧ nextL l ≤ 1099511627777
  | _, [], _, _ => ⟨by decide, by decide⟩
  | n, [s], hn, ⟨h1, h2, _⟩ => by
    have := reach_le h2
    have := h2.base
    show 0 ≤ s.reach ∧ s.reach ≤ _
    omega
  | n, s :: t :: l, hn, ⟨h1, h2, h3⟩ => by
    have := h2.base
    have := SegsOk.next (by omega) h3
    exact this
instance : EncF encB7 0 (.int .i64) (fun b => b.base) := ⟨fun _ => rfl⟩
section
variable {w : World} {l r : List HP} {lg : Nat} {M : LogM} {A : LogA} {D : DiskA} {gap : Int} {a : Nat} {t : SegM}
theorem lgQ_last_open {SM0 : List (Nat × SegM)} (h : M.SM = SM0 ++ [(a, t)]) (hs : Sat w (lgQ lg M :: l)) : okM M.gap M.seg M.pre ∧
    Sat w (segP M.gap a t :: pt lg (.cells #[.pointer (some ⟨M.d, 0, none⟩), .string M.pre, .int .i64 M.seg, .int .i64 M.gap, .slice M.z.a M.z.len M.z.cap] T.seglog_Log) :: slc T.p_seglog_segment 1 M.z ((SM0.map Prod.fst ++ [a]).flatMap encP) :: HP.all (SM0.map fun t => segP M.gap t.1 t.2) :: l) := by
  obtain ⟨hok, hs⟩ := lgQ_open hs
  rw [h] at hs
  have h1 := (hs.pick [2]).all_perm ((List.perm_append_comm (l₁ := SM0) (l₂ := [(a, t)])).map fun t => segP M.gap t.1 t.2)
  have h2 : Sat w (segP M.gap a t :: HP.all (SM0.map fun t => segP M.gap t.1 t.2) :: _) := h1.all_cons
  rw [List.map_append] at h2
  exact ⟨hok, h2.pick [0, 1, 1]⟩
theorem lgQ_last_close (M : LogM) {SM0 : List (Nat × SegM)} (hok : okM M.gap M.seg M.pre) (hs : Sat w (segP M.gap a t :: pt lg (.cells #[.pointer (some ⟨M.d, 0, none⟩), .string M.pre, .int .i64 M.seg, .int .i64 M.gap, .slice M.z.a M.z.len M.z.cap] T.seglog_Log) :: slc T.p_seglog_segment 1 M.z ((SM0.map Prod.fst ++ [a]).flatMap encP) :: HP.all (SM0.map fun t => segP M.gap t.1 t.2) :: l)) :
    Sat w (lgQ lg { M with SM := SM0 ++ [(a, t)] } :: l) := by
  have h1 : Sat w (HP.all (((a, t) :: SM0).map fun t => segP M.gap t.1 t.2) :: _) := (hs.pick [0, 2]).all_put
  have h2 := h1.all_perm ((List.perm_append_comm (l₁ := [(a, t)]) (l₂ := SM0)).map fun t => segP M.gap t.1 t.2)
  refine lgQ_close { M with SM := SM0 ++ [(a, t)] } hok ?_
  show Sat w (pt lg _ :: slc T.p_seglog_segment 1 M.z (((SM0 ++ [(a, t)]).map Prod.fst).flatMap encP) :: HP.all ((SM0 ++ [(a, t)]).map fun t => segP M.gap t.1 t.2) :: l)
  rw [List.map_append]
  exact h2.pick [1, 1]
theorem snoc_of {α : Type} {l : List α} (h : l ≠ []) : ∃ (l0 : List α) (x : α), l = l0 ++ [x] := ⟨l.dropLast, l.getLast h, (List.dropLast_concat_getLast h).symm⟩
theorem rdAll_fs {fs : List (Sl × List UInt8)} (h : ∀ p ∈ fs, FocR l p.1 1 (p.2.flatMap encU)) : RdAll l (fs.map Prod.fst) (fs.map Prod.snd) := rdAll_of (fs := fs) h
theorem okM.size {g s : Int} {p : ByteArray} (h : okM g s p) : p.size ≤ 100 := by
  have := h.pre
  unfold preS at this
  rw [Bool.and_eq_true, decide_eq_true_eq] at this
  omega
set_option maxHeartbeats 1000000 in
theorem lappend_c (x : Sl) (bs : List BatM) {r1 : List HP} [hf : Fo l lgP lg A r1] [hf2 : Fo r1 dk A.d D r] (hlen : A.l.length ≤ 1000000) (hok : SegsOk 0 A.l) (hfl : ∀ s ∈ A.l, s.file.length ≤ 500000000) (hbl : bs.length ≤ 900)
    (hx : FocR r x 7 (bs.flatMap encB7)) (hbs : ∀ b ∈ bs, FocR r b.x 4 (b.rs.flatMap encR)) (hs : Sat w l) :
    Ret P F.seglog_Log_Append #[.pointer (some ⟨lg, 0, none⟩), x.v] w fun vs w' => vs = [.int .i64 (lappA A.pre A.seg A.l D bs).1.1, .int .i64 (lappA A.pre A.seg A.l D bs).1.2] ∧
      Sat w' (lgP lg (A.set (lappA A.pre A.seg A.l D bs).2.1) :: dk A.d (lappA A.pre A.seg A.l D bs).2.2 :: r) :=
  seglog_Log_Append_calls _ x <| by
    unfold seglog_Log_Append
    have hs := hs.perm (hf.perm.trans (.cons _ hf2.perm))
    clear hf hf2
    obtain ⟨M, rfl, hs⟩ := lgP_open hs
    have hlxs := hs.slen x (xs := bs) (enc := encB7)
    have hMl : M.A.l = M.l := rfl
    have hMpre : M.A.pre = M.pre := rfl
    have hMseg : M.A.seg = M.seg := rfl
    have hMd : M.A.d = M.d := rfl
    rw [hMl] at hlen hok hfl ⊢
    rw [hMpre, hMseg, hMd]
    rw [hMd] at hs
    have hll : M.l.length = M.SM.length := List.length_map ..
    have hnx := hok.next (Int.le_refl 0)
    have hsame : ∀ {w : World} {D' : DiskA}, Sat w (lgQ lg M :: dk M.d D' :: r) → Sat w (lgP lg (M.A.set M.l) :: dk M.d D' :: r) := fun hs => lgP_close M hs
    unfold lappA
    refine wp_ifF ?_ (by simp)
    refine wp_if (fun h => ?_) fun h => ?_
    · have : bs = [] := List.length_eq_zero_iff.1 (by omega)
      rw [if_pos this]
      exact ⟨rfl, rfl, hsame hs⟩
    rw [if_neg (by rintro rfl; simp at hlxs; omega)]
    have hx' : FocR (dk M.d D :: r) x 7 (bs.flatMap encB7) := inferInstance
    refine wp_call (placed_c (lg := lg) x bs (by omega) (by omega) inferInstance (fun b hb => by have := hbs b hb; infer_instance) hs) fun _ w' hs => ?_
    have hplo := placeL_ok (bs := bs) (n := nextL M.l)
    rcases hs with ⟨he, rfl, hs⟩ | ⟨he, z1, z2, fs, rfl, hfs, hs⟩
    · refine ret_of ?_
      refine wp_lt ?_
      refine wp_ifT ?_ he
      refine wp_lt ?_
      rw [if_pos he]
      exact ⟨rfl, rfl, hsame hs⟩
    refine ret_of ?_
    refine wp_lt ?_
    refine wp_ifF ?_ (by simp)
    rw [if_neg (by rw [he]; simp)]
    obtain ⟨hp1, hp2, hp3⟩ := hplo he
    have hbl0 : 0 < bs.length := by
      apply Nat.pos_of_ne_zero
      intro h0
      rw [h0] at hlxs
      omega
    generalize hn0 : nextL M.l = n0 at *
    generalize hPL : placeL n0 bs = PL at *
    obtain ⟨e0, q⟩ := PL
    have he : e0 = 0 := he
    subst he
    dsimp only at hp1 hp2 hp3 hfs hs ⊢
    have hsum := bat_sum fun b hb => (hp2 b hb).1
    have hfsl : fs.length = q.length := by have := congrArg List.length hfs; simpa using this
    have hfl1 := hs.slen z2 (xs := fs.map Prod.fst) (enc := encSl)
    rw [List.length_map] at hfl1
    have hfget : ∀ (i : Nat) (h : i < fs.length), fs[i].2 = frL (q[i]'(by omega)) := fun i h => by
      have := List.getElem_of_eq hfs (i := i) (by rw [List.length_map]; exact h)
      simpa using this
    have hfsum : ∀ i, ((q.take i).flatMap frL).length ≤ (q.flatMap frL).length := fun i => by
      have : (q.flatMap frL) = (q.take i).flatMap frL ++ (q.drop i).flatMap frL := by rw [← List.flatMap_append, List.take_append_drop]
      rw [this, List.length_append]; omega
    -- the frames' bytes
    refine wp_mid (fun v w' => v = (((q.flatMap frL).length : Int), ()) ∧ Sat w' (slc T.api_Batch 7 z1 (q.flatMap encB7) :: slc T.s_uint8 1 z2 ((fs.map Prod.fst).flatMap encSl) :: HP.all (fs.map frP) :: lgQ lg M :: dk M.d D :: r)) ?_ ?_
    · refine wp_loop (fun m v w => ∃ i : Nat, v = ((((q.take i).flatMap frL).length : Int), ((i : Int), ())) ∧ i ≤ q.length ∧ q.length - i = m ∧ Sat w (slc T.api_Batch 7 z1 (q.flatMap encB7) :: slc T.s_uint8 1 z2 ((fs.map Prod.fst).flatMap encSl) :: HP.all (fs.map frP) :: lgQ lg M :: dk M.d D :: r)) q.length ⟨0, rfl, by omega, rfl, hs⟩ ?_
      clear hs
      rintro m _ w ⟨i, rfl, hi, hm, hs⟩
      refine wp_on ?_
      refine wp_if (fun hc => ?_) fun hc => ?_
      rotate_left
      · refine wp_pass (wp_lv ⟨?_, hs⟩)
        rw [List.take_of_length_le (by omega)]
      have hil : i < q.length := by omega
      have hil2 : i < fs.length := by omega
      refine wp_ix1 hs (xs := fs.map Prod.fst) (enc := encSl) i (by rw [List.length_map]; omega) ?_
      have e1 : (fs.map Prod.fst)[i]'(by rw [List.length_map]; omega) = fs[i].1 := by simp
      rw [e1]
      have hR : FocR (HP.all (fs.map frP) :: lgQ lg M :: dk M.d D :: r) fs[i].1 1 (fs[i].2.flatMap encU) := all_rd (List.getElem_mem hil2)
      have hl2 := hs.slen fs[i].1 (xs := fs[i].2) (enc := encU)
      rw [hfget i hil2] at hl2
      have hfi : ((q.take (i + 1)).flatMap frL).length = ((q.take i).flatMap frL).length + (frL q[i]).length := by
        rw [List.take_succ_eq_append_getElem hil, List.flatMap_append, List.length_append]; simp
      have := hfsum (i + 1)
      rw [hl2, w64 (by omega) (by omega)]
      refine wp_lt ?_
      rw [show IntKind.wrap .i64 ((i : Int) + 1) = ((i + 1 : Nat) : Int) by rw [w64 (by omega) (by omega)]; omega]
      have ec : (((q.take i).flatMap frL).length : Int) + ((frL q[i]).length : Nat) = (((q.take (i + 1)).flatMap frL).length : Int) := by rw [hfi]; omega
      rw [ec]
      exact wp_lp (q.length - (i + 1)) ⟨i + 1, rfl, by omega, rfl, hs⟩
    clear hs
    rintro _ w ⟨rfl, hs⟩
    refine wp_on ?_
    refine wp_call (last_c (lg := lg) (by omega) hs) fun _ w' hs => ?_
    obtain ⟨rfl, hs⟩ := hs
    refine ret_of ?_
    refine wp_call (fits_l (lg := lg) (q.flatMap frL).length (by omega) (by omega) (fun s hs' => by have := hfl s hs'; omega) hs) fun _ w' hs => ?_
    obtain ⟨rfl, hs⟩ := hs
    refine ret_of ?_
    generalize hF : q.flatMap frL = Fr at *
    have hbsl : fs.map Prod.snd = q.map frL := hfs
    have hflat : (fs.map Prod.snd).flatten = Fr := by rw [hfs, ← hF, List.flatMap]
    have hlbound : ∀ p ∈ fs, p.2.length ≤ 262152 := fun p hp => by
      obtain ⟨i, hi, rfl⟩ := List.mem_iff_getElem.1 hp
      rw [hfget i hi]
      have := frL_len (hp2 _ (List.getElem_mem (show i < q.length by omega))).1
      have := batL_len (hp2 _ (List.getElem_mem (show i < q.length by omega))).1
      omega
    -- what the disk is told, and the segment that the batches go to
    refine wp_mid (fun v w' => ∃ (M1 : LogM) (SM0 : List (Nat × SegM)) (a : Nat) (t : SegM) (D1 : DiskA), v = (some ⟨a, 0, none⟩, ()) ∧ M1.SM = SM0 ++ [(a, t)] ∧ t.s.file.length ≤ 600000000 ∧
        (if roomy M.seg M.l Fr.length then
          if (appendA D (nameS M.pre (baseL M.l) logX) Fr).1 ≠ 0 then ((0, (appendA D (nameS M.pre (baseL M.l) logX) Fr).1), M.l, (appendA D (nameS M.pre (baseL M.l) logX) Fr).2)
          else ((n0, (0 : Int)), addLast M.l q, (appendA D (nameS M.pre (baseL M.l) logX) Fr).2)
        else
          if (lsyncA M.pre M.l D).1 ≠ 0 then ((0, (lsyncA M.pre M.l D).1), M.l, (lsyncA M.pre M.l D).2) else
          if (appendA (lsyncA M.pre M.l D).2 (nameS M.pre n0 logX) (shL n0 0 ++ Fr)).1 ≠ 0 then ((0, (appendA (lsyncA M.pre M.l D).2 (nameS M.pre n0 logX) (shL n0 0 ++ Fr)).1), M.l, (appendA (lsyncA M.pre M.l D).2 (nameS M.pre n0 logX) (shL n0 0 ++ Fr)).2)
          else ((n0, 0), M.l ++ [(⟨n0, 0, []⟩ : SegA).add q], (appendA (lsyncA M.pre M.l D).2 (nameS M.pre n0 logX) (shL n0 0 ++ Fr)).2)) = ((n0, 0), (SM0.map fun t => t.2.s) ++ [t.s.add q], D1) ∧
        (M1.d = M.d ∧ M1.pre = M.pre ∧ M1.seg = M.seg ∧ M1.gap = M.gap) ∧
        Sat w' (lgQ lg M1 :: dk M.d D1 :: slc T.api_Batch 7 z1 (q.flatMap encB7) :: slc T.s_uint8 1 z2 ((fs.map Prod.fst).flatMap encSl) :: HP.all (fs.map frP) :: r)) ?_ ?_
    · refine wp_if (fun hr => ?_) fun hr => ?_
      · -- a new segment
        have hr : roomy M.seg M.l Fr.length = false := by simpa using hr
        rw [if_neg (by rw [hr]; simp)]
        have hs : Sat w' (lgQ lg M :: slc T.api_Batch 7 z1 (q.flatMap encB7) :: slc T.s_uint8 1 z2 ((fs.map Prod.fst).flatMap encSl) :: HP.all (fs.map frP) :: dk M.d D :: r) := hs
        refine wp_call (lsync_c (lg := lg) (D := D) (by omega) hok hs) fun _ w' hs => ?_
        obtain ⟨rfl, hs⟩ := hs
        refine ret_of ?_
        refine wp_lt ?_
        refine wp_if (fun h2 => ?_) fun h2 => ?_
        · refine wp_lt ?_
          rw [if_pos h2]
          refine wp_pass ⟨rfl, rfl, hsame hs.sub⟩
        rw [if_neg h2]
        generalize (lsyncA M.pre M.l D).2 = D1 at *
        refine wp_call (lnext_c (lg := lg) (by omega) hs) fun _ w' hs => ?_
        obtain ⟨rfl, hs⟩ := hs
        refine ret_of ?_
        rw [hn0]
        refine wp_call (newseg_c (lg := lg) n0 0 (by omega) (by omega) hs) fun _ w' hs => ?_
        obtain ⟨a, ix, rfl, hs⟩ := hs
        refine ret_of ?_
        have hshl := shL_len n0 0
        refine wp_mid (fun v w' => v = ((appendA D1 (nameS M.pre n0 logX) (shL n0 0 ++ Fr)).1, ()) ∧ Sat w' (segP M.gap a ⟨ix, ⟨n0, 0, []⟩⟩ :: lgQ lg M :: dk M.d (appendA D1 (nameS M.pre n0 logX) (shL n0 0 ++ Fr)).2 :: slc T.api_Batch 7 z1 (q.flatMap encB7) :: slc T.s_uint8 1 z2 ((fs.map Prod.fst).flatMap encSl) :: HP.all (fs.map frP) :: r)) ?_ ?_
        · obtain ⟨hokm, hs⟩ := lgQ_open (hs.pick [1])
          have hs := seg_open (hs.pick [3])
          refine wp_tk hs fun w' hs => ?_
          refine wp_nn ?_
          refine wp_hdO hs ?_
          refine wp_nn ?_
          refine wp_ldO hs ?_
          refine wp_nn ?_
          refine wp_hdO hs ?_
          refine wp_call (name_c0 (lg := lg) n0 (by omega) (ByteArray.mk #[46, 108, 111, 103]) (by decide) M.pre hokm.size hs) fun _ w' hs => ?_
          obtain ⟨rfl, hs⟩ := hs
          refine ret_of ?_ (by first | trivial | (repeat (first | exact trivial | exact fun _ => run_ldO hs | exact fun _ => run_ldG hs | refine And.intro ?_ ?_)))
          refine wp_call (head_c n0 0 (by omega) (by omega) hs) fun _ w' hs => ?_
          obtain ⟨y, rfl, hs⟩ := hs
          refine ret_of ?_ (by first | trivial | (repeat (first | exact trivial | exact fun _ => run_ldO hs | exact fun _ => run_ldG hs | refine And.intro ?_ ?_)))
          refine wp_litS hs (enc := encSl) [y] fun y2 w' hs => ⟨(by first | trivial | (repeat (first | exact trivial | exact fun _ => run_ldO hs | exact fun _ => run_ldG hs | refine And.intro ?_ ?_))), ?_⟩
          refine wp_app2 (xs := [y]) (ys := fs.map Prod.fst) (enc := encSl) hs (fun y3 w' hs => ⟨(by first | trivial | (repeat (first | exact trivial | exact fun _ => run_ldO hs | exact fun _ => run_ldG hs | refine And.intro ?_ ?_))), ?_⟩) (by rw [List.length_map]; simp only [List.length_cons, List.length_nil]; omega)
          refine wp_untick ?_
          have hs : Sat w' (dk M.d D1 :: slc T.s_uint8 1 y3 (([y] ++ fs.map Prod.fst).flatMap encSl) :: slc T.uint8 1 y ((shL n0 0).flatMap encU) :: HP.all (fs.map frP) :: pt a (.cells #[.pointer (some ⟨ix, 0, none⟩), .int .i64 n0, .int .i64 0, .int .i64 (nextG []), .int .i64 (lateG (-1) []), .int .i64 ((SegA.file ⟨n0, 0, []⟩).length : Nat)] T.seglog_segment) :: idxP ix ((SegA.mk n0 0 []).idx M.gap) :: pt lg (.cells #[.pointer (some ⟨M.d, 0, none⟩), .string M.pre, .int .i64 M.seg, .int .i64 M.gap, .slice M.z.a M.z.len M.z.cap] T.seglog_Log) :: slc T.p_seglog_segment 1 M.z ((M.SM.map Prod.fst).flatMap encP) :: HP.all (M.SM.map fun t => segP M.gap t.1 t.2) :: slc T.api_Batch 7 z1 (q.flatMap encB7) :: slc T.s_uint8 1 z2 ((fs.map Prod.fst).flatMap encSl) :: r) := hs.sub
          have hall : ∀ p ∈ ((y, shL n0 0) :: fs), FocR (slc T.s_uint8 1 y3 (([y] ++ fs.map Prod.fst).flatMap encSl) :: slc T.uint8 1 y ((shL n0 0).flatMap encU) :: HP.all (fs.map frP) :: pt a (.cells #[.pointer (some ⟨ix, 0, none⟩), .int .i64 n0, .int .i64 0, .int .i64 (nextG []), .int .i64 (lateG (-1) []), .int .i64 ((SegA.file ⟨n0, 0, []⟩).length : Nat)] T.seglog_segment) :: idxP ix ((SegA.mk n0 0 []).idx M.gap) :: pt lg (.cells #[.pointer (some ⟨M.d, 0, none⟩), .string M.pre, .int .i64 M.seg, .int .i64 M.gap, .slice M.z.a M.z.len M.z.cap] T.seglog_Log) :: slc T.p_seglog_segment 1 M.z ((M.SM.map Prod.fst).flatMap encP) :: HP.all (M.SM.map fun t => segP M.gap t.1 t.2) :: slc T.api_Batch 7 z1 (q.flatMap encB7) :: slc T.s_uint8 1 z2 ((fs.map Prod.fst).flatMap encSl) :: r) p.1 1 (p.2.flatMap encU) := fun p hp => by
            rcases List.mem_cons.1 hp with rfl | hp
            · infer_instance
            · have : FocR (HP.all (fs.map frP) :: pt a (.cells #[.pointer (some ⟨ix, 0, none⟩), .int .i64 n0, .int .i64 0, .int .i64 (nextG []), .int .i64 (lateG (-1) []), .int .i64 ((SegA.file ⟨n0, 0, []⟩).length : Nat)] T.seglog_segment) :: idxP ix ((SegA.mk n0 0 []).idx M.gap) :: pt lg (.cells #[.pointer (some ⟨M.d, 0, none⟩), .string M.pre, .int .i64 M.seg, .int .i64 M.gap, .slice M.z.a M.z.len M.z.cap] T.seglog_Log) :: slc T.p_seglog_segment 1 M.z ((M.SM.map Prod.fst).flatMap encP) :: HP.all (M.SM.map fun t => segP M.gap t.1 t.2) :: slc T.api_Batch 7 z1 (q.flatMap encB7) :: slc T.s_uint8 1 z2 ((fs.map Prod.fst).flatMap encSl) :: r) p.1 1 (p.2.flatMap encU) := all_rd hp
              infer_instance
          have hpsF : FocR (slc T.s_uint8 1 y3 (([y] ++ fs.map Prod.fst).flatMap encSl) :: slc T.uint8 1 y ((shL n0 0).flatMap encU) :: HP.all (fs.map frP) :: pt a (.cells #[.pointer (some ⟨ix, 0, none⟩), .int .i64 n0, .int .i64 0, .int .i64 (nextG []), .int .i64 (lateG (-1) []), .int .i64 ((SegA.file ⟨n0, 0, []⟩).length : Nat)] T.seglog_segment) :: idxP ix ((SegA.mk n0 0 []).idx M.gap) :: pt lg (.cells #[.pointer (some ⟨M.d, 0, none⟩), .string M.pre, .int .i64 M.seg, .int .i64 M.gap, .slice M.z.a M.z.len M.z.cap] T.seglog_Log) :: slc T.p_seglog_segment 1 M.z ((M.SM.map Prod.fst).flatMap encP) :: HP.all (M.SM.map fun t => segP M.gap t.1 t.2) :: slc T.api_Batch 7 z1 (q.flatMap encB7) :: slc T.s_uint8 1 z2 ((fs.map Prod.fst).flatMap encSl) :: r) y3 1 ((((y, shL n0 0) :: fs).map Prod.fst).flatMap encL) := (inferInstance : FocR _ y3 1 (([y] ++ fs.map Prod.fst).flatMap encSl))
          refine wp_call (append_c (d := M.d) (A := D1) (nameS M.pre n0 (bl (ByteArray.mk #[46, 108, 111, 103]))) y3 (((y, shL n0 0) :: fs).map Prod.fst) (((y, shL n0 0) :: fs).map Prod.snd) (hps := hpsF) (rdAll_fs hall) (by simp only [List.length_map, List.length_cons]; omega) (fun b hb => ?_) hs) fun _ w' hs => ?_
          · obtain ⟨p, hp, rfl⟩ := List.mem_map.1 hb
            rcases List.mem_cons.1 hp with rfl | hp
            · show (shL n0 0).length ≤ _; omega
            · have := hlbound p hp; omega
          obtain ⟨rfl, hs⟩ := hs
          refine ret_of ?_
          refine wp_lt ?_
          refine wp_untick ?_
          have e2 : (((y, shL n0 0) :: fs).map Prod.snd).flatten = shL n0 0 ++ Fr := by rw [List.map_cons, List.flatten_cons, hflat]
          rw [e2] at hs ⊢
          refine wp_lv ⟨rfl, ?_⟩
          have hs : Sat w' (dk M.d (appendA D1 (nameS M.pre n0 logX) (shL n0 0 ++ Fr)).2 :: slc T.s_uint8 1 y3 _ :: slc T.uint8 1 y _ :: HP.all (fs.map frP) :: pt a _ :: idxP ix _ :: pt lg _ :: slc T.p_seglog_segment 1 M.z _ :: HP.all (M.SM.map fun t => segP M.gap t.1 t.2) :: slc T.api_Batch 7 z1 (q.flatMap encB7) :: slc T.s_uint8 1 z2 ((fs.map Prod.fst).flatMap encSl) :: r) := hs
          have hs := lgQ_close M hokm (hs.pick [6, 6, 6])
          have hs : Sat w' (segP M.gap a ⟨ix, ⟨n0, 0, []⟩⟩ :: lgQ lg M :: dk M.d _ :: slc T.s_uint8 1 y3 _ :: slc T.uint8 1 y _ :: HP.all (fs.map frP) :: slc T.api_Batch 7 z1 (q.flatMap encB7) :: slc T.s_uint8 1 z2 ((fs.map Prod.fst).flatMap encSl) :: r) := seg_close ⟨ix, ⟨n0, 0, []⟩⟩ (hs.pick [5, 5])
          exact hs.sub
        rintro _ w2 ⟨rfl, hs⟩
        refine wp_if (fun h3 => ?_) fun h3 => ?_
        · refine wp_lt ?_
          rw [if_pos h3]
          refine wp_pass ⟨rfl, rfl, hsame hs.sub⟩
        rw [if_neg h3]
        have hs := hs.pick [1]
        refine wp_call (put_c (lg := lg) a ⟨ix, ⟨n0, 0, []⟩⟩ (by omega) hs) fun _ w' hs => ?_
        obtain ⟨z, rfl, hs⟩ := hs
        refine ret_of ?_
        refine wp_lv ⟨{ M with z := z, SM := M.SM ++ [(a, ⟨ix, ⟨n0, 0, []⟩⟩)] }, M.SM, a, ⟨ix, ⟨n0, 0, []⟩⟩, (appendA D1 (nameS M.pre n0 logX) (shL n0 0 ++ Fr)).2, rfl, rfl, ?_, rfl, ⟨rfl, rfl, rfl, rfl⟩, hs⟩
        rw [file_len]
        simp only [List.flatMap_nil, List.length_nil]
        omega
      · -- the last segment
        have hr : roomy M.seg M.l Fr.length = true := by simpa using hr
        rw [if_pos hr]
        have h0 : M.SM ≠ [] := by
          intro h0
          have : M.l = [] := by unfold LogM.l; rw [h0]; rfl
          rw [this] at hr
          cases hr
        obtain ⟨SM0, ⟨a, t⟩, hSM⟩ := snoc_of h0
        have hl1 : M.l = SM0.map (fun t => t.2.s) ++ [t.s] := by unfold LogM.l; rw [hSM]; simp
        have hbase : baseL M.l = t.s.base := by unfold baseL; rw [hl1, getLast_snoc]
        have hadd : addLast M.l q = SM0.map (fun t => t.2.s) ++ [t.s.add q] := by unfold addLast; rw [hl1, getLast_snoc]; simp
        have hlst : M.SM.getLast? = some (a, t) := by rw [hSM, getLast_snoc]
        rw [hlst]
        have htm : t.s ∈ M.l := by rw [hl1]; simp
        have htb := (hok.mem _ htm).1.base
        have htf := hfl _ htm
        refine wp_mid (fun v w' => v = ((appendA D (nameS M.pre (baseL M.l) logX) Fr).1, ()) ∧ Sat w' (lgQ lg M :: dk M.d (appendA D (nameS M.pre (baseL M.l) logX) Fr).2 :: slc T.api_Batch 7 z1 (q.flatMap encB7) :: slc T.s_uint8 1 z2 ((fs.map Prod.fst).flatMap encSl) :: HP.all (fs.map frP) :: r)) ?_ ?_
        · obtain ⟨hokm, hs⟩ := lgQ_last_open hSM hs
          have hs := seg_open hs
          refine wp_tk hs fun w' hs => ?_
          refine wp_nn ?_
          refine wp_hdO hs ?_
          refine wp_nn ?_
          refine wp_ldO hs ?_
          refine wp_call (name_c0 (lg := lg) t.s.base (by omega) (ByteArray.mk #[46, 108, 111, 103]) (by decide) M.pre hokm.size hs) fun _ w' hs => ?_
          obtain ⟨rfl, hs⟩ := hs
          refine ret_of ?_ (by first | trivial | (repeat (first | exact trivial | exact fun _ => run_ldO hs | exact fun _ => run_ldG hs | refine And.intro ?_ ?_)))
          refine wp_untick ?_
          have hs := hs.pick [8]
          have hall : ∀ p ∈ fs, FocR (pt a (.cells #[.pointer (some ⟨t.ix, 0, none⟩), .int .i64 t.s.base, .int .i64 t.s.fin, .int .i64 (nextG t.s.bs), .int .i64 (lateG (-1) t.s.bs), .int .i64 (t.s.file.length : Nat)] T.seglog_segment) :: idxP t.ix (t.s.idx M.gap) :: pt lg (.cells #[.pointer (some ⟨M.d, 0, none⟩), .string M.pre, .int .i64 M.seg, .int .i64 M.gap, .slice M.z.a M.z.len M.z.cap] T.seglog_Log) :: slc T.p_seglog_segment 1 M.z ((SM0.map Prod.fst ++ [a]).flatMap encP) :: HP.all (SM0.map fun t => segP M.gap t.1 t.2) :: slc T.api_Batch 7 z1 (q.flatMap encB7) :: slc T.s_uint8 1 z2 ((fs.map Prod.fst).flatMap encSl) :: HP.all (fs.map frP) :: r) p.1 1 (p.2.flatMap encU) := fun p hp => by
            have : FocR (HP.all (fs.map frP) :: r) p.1 1 (p.2.flatMap encU) := all_rd hp
            infer_instance
          have hpsF : FocR (pt a (.cells #[.pointer (some ⟨t.ix, 0, none⟩), .int .i64 t.s.base, .int .i64 t.s.fin, .int .i64 (nextG t.s.bs), .int .i64 (lateG (-1) t.s.bs), .int .i64 (t.s.file.length : Nat)] T.seglog_segment) :: idxP t.ix (t.s.idx M.gap) :: pt lg (.cells #[.pointer (some ⟨M.d, 0, none⟩), .string M.pre, .int .i64 M.seg, .int .i64 M.gap, .slice M.z.a M.z.len M.z.cap] T.seglog_Log) :: slc T.p_seglog_segment 1 M.z ((SM0.map Prod.fst ++ [a]).flatMap encP) :: HP.all (SM0.map fun t => segP M.gap t.1 t.2) :: slc T.api_Batch 7 z1 (q.flatMap encB7) :: slc T.s_uint8 1 z2 ((fs.map Prod.fst).flatMap encSl) :: HP.all (fs.map frP) :: r) z2 1 ((fs.map Prod.fst).flatMap encL) := (inferInstance : FocR _ z2 1 ((fs.map Prod.fst).flatMap encSl))
          refine wp_call (append_c (d := M.d) (A := D) (nameS M.pre t.s.base (bl (ByteArray.mk #[46, 108, 111, 103]))) z2 (fs.map Prod.fst) (fs.map Prod.snd) (hps := hpsF) (rdAll_fs hall) (by simp only [List.length_map]; omega) (fun b hb => ?_) hs) fun _ w' hs => ?_
          · obtain ⟨p, hp, rfl⟩ := List.mem_map.1 hb
            have := hlbound p hp; omega
          obtain ⟨rfl, hs⟩ := hs
          refine ret_of ?_
          refine wp_lt ?_
          refine wp_untick ?_
          rw [hflat] at hs ⊢
          refine wp_lv ⟨by rw [hbase]; rfl, ?_⟩
          rw [hbase]
          have hs : Sat w' (dk M.d (appendA D (nameS M.pre t.s.base logX) Fr).2 :: pt a _ :: idxP t.ix _ :: pt lg _ :: slc T.p_seglog_segment 1 M.z _ :: HP.all (SM0.map fun t => segP M.gap t.1 t.2) :: slc T.api_Batch 7 z1 (q.flatMap encB7) :: slc T.s_uint8 1 z2 ((fs.map Prod.fst).flatMap encSl) :: HP.all (fs.map frP) :: r) := hs
          have hs := lgQ_last_close M hokm (seg_close t (hs.pick [1, 1]) |>.pick [0, 1, 1, 1])
          have e : { M with SM := SM0 ++ [(a, t)] } = M := by rw [← hSM]
          rw [e] at hs
          exact hs.sub
        rintro _ w2 ⟨rfl, hs⟩
        refine wp_if (fun h3 => ?_) fun h3 => ?_
        · refine wp_lt ?_
          rw [if_pos h3]
          refine wp_pass ⟨rfl, rfl, hsame hs.sub⟩
        rw [if_neg h3]
        refine wp_lv ⟨M, SM0, a, t, (appendA D (nameS M.pre (baseL M.l) logX) Fr).2, rfl, hSM, by omega, by rw [hadd], ⟨rfl, rfl, rfl, rfl⟩, hs⟩
    -- the batches are taken
    rintro _ w2 ⟨M1, SM0, a, t, D1, rfl, hSM, htl, hres, ⟨hd1, hd2, hd3, hd4⟩, hs⟩
    clear hsame
    rw [hres]
    obtain ⟨hokm, hs⟩ := lgQ_last_open hSM hs
    have hF2 : ∀ i, ((q.take i).flatMap frL).length ≤ Fr.length := hfsum
    have hlq := hs.slen z1 (xs := q) (enc := encB7)
    refine wp_mid (fun _ w' => Sat w' (segP M1.gap a ⟨t.ix, t.s.add q⟩ :: pt lg (.cells #[.pointer (some ⟨M1.d, 0, none⟩), .string M1.pre, .int .i64 M1.seg, .int .i64 M1.gap, .slice M1.z.a M1.z.len M1.z.cap] T.seglog_Log) :: slc T.p_seglog_segment 1 M1.z ((SM0.map Prod.fst ++ [a]).flatMap encP) :: HP.all (SM0.map fun t => segP M1.gap t.1 t.2) :: dk M.d D1 :: slc T.api_Batch 7 z1 (q.flatMap encB7) :: slc T.s_uint8 1 z2 ((fs.map Prod.fst).flatMap encSl) :: HP.all (fs.map frP) :: r)) ?_ ?_
    · refine wp_loop (fun m v w => ∃ i : Nat, v = ((i : Int), ()) ∧ i ≤ q.length ∧ q.length - i = m ∧ Sat w (segP M1.gap a ⟨t.ix, t.s.add (q.take i)⟩ :: pt lg (.cells #[.pointer (some ⟨M1.d, 0, none⟩), .string M1.pre, .int .i64 M1.seg, .int .i64 M1.gap, .slice M1.z.a M1.z.len M1.z.cap] T.seglog_Log) :: slc T.p_seglog_segment 1 M1.z ((SM0.map Prod.fst ++ [a]).flatMap encP) :: HP.all (SM0.map fun t => segP M1.gap t.1 t.2) :: dk M.d D1 :: slc T.api_Batch 7 z1 (q.flatMap encB7) :: slc T.s_uint8 1 z2 ((fs.map Prod.fst).flatMap encSl) :: HP.all (fs.map frP) :: r)) q.length ⟨0, rfl, by omega, rfl, by rw [List.take_zero, add_nil]; exact hs⟩ ?_
      clear hs
      rintro m _ w ⟨i, rfl, hi, hm, hs⟩
      refine wp_on ?_
      refine wp_if (fun hc => ?_) fun hc => ?_
      rotate_left
      · refine wp_pass (wp_lv ?_)
        rwa [List.take_of_length_le (by omega)] at hs
      have hil : i < q.length := by omega
      have hil2 : i < fs.length := by omega
      refine wp_ixA hs (xs := q) (enc := encB7) i hil ?_
      refine wp_newO hs fun c w' hs => ?_
      refine wp_lt ?_
      refine wp_stG hs fun w' hs => ?_
      refine wp_tk hs fun w' hs => ?_
      refine wp_ldG hs ?_
      refine wp_ix1 hs (xs := fs.map Prod.fst) (enc := encSl) i (by rw [List.length_map]; omega) ?_
      have e1 : (fs.map Prod.fst)[i]'(by rw [List.length_map]; omega) = fs[i].1 := by simp
      rw [e1]
      have hR : FocR (HP.all (fs.map frP) :: r) fs[i].1 1 (fs[i].2.flatMap encU) := all_rd (List.getElem_mem hil2)
      have hl2 := hs.slen fs[i].1 (xs := fs[i].2) (enc := encU)
      rw [hfget i hil2] at hl2
      rw [hl2]
      obtain ⟨hvq, c0, hc0, hcx, hcr⟩ := hp2 q[i] (List.getElem_mem hil)
      have hRb : FocR r q[i].x 4 (q[i].rs.flatMap encR) := by rw [hcx, hcr]; exact hbs c0 hc0
      have hfi : ((q.take (i + 1)).flatMap frL).length = ((q.take i).flatMap frL).length + (frL q[i]).length := by
        rw [List.take_succ_eq_append_getElem hil, List.flatMap_append, List.length_append]; simp
      have := hF2 (i + 1)
      refine wp_call (take_c (gap := M1.gap) (a := a) q[i] hvq (by show (t.s.add (q.take i)).file.length + _ ≤ _; rw [file_add, List.length_append]; omega) hs) fun _ w' hs => ?_
      obtain ⟨rfl, hs⟩ := hs
      refine ret_of ?_
      refine wp_untick ?_
      rw [show IntKind.wrap .i64 ((i : Int) + 1) = ((i + 1 : Nat) : Int) by rw [w64 (by omega) (by omega)]; omega]
      refine wp_lp (q.length - (i + 1)) ⟨i + 1, rfl, by omega, rfl, ?_⟩
      have e2 : (t.s.add (q.take i)).add [q[i]] = t.s.add (q.take (i + 1)) := by rw [add_add, List.take_succ_eq_append_getElem hil]
      have hs : Sat w' (segP M1.gap a ⟨t.ix, (t.s.add (q.take i)).add [q[i]]⟩ :: _) := hs
      rw [e2] at hs
      exact hs.sub
    clear hs
    rintro _ w3 hs
    refine wp_on ?_
    refine wp_ixF0 hs (xs := q) (enc := encB7) 0 (by omega) ?_
    refine wp_lt ?_
    have hq0 : (q[0]'(by omega)).base = n0 := hp3 _ (by rw [List.head?_eq_getElem?, List.getElem?_eq_getElem])
    rw [hq0]
    refine ⟨rfl, rfl, ?_⟩
    have hs := lgP_close _ (lgQ_last_close M1 hokm hs)
    have eA : LogM.A { M1 with SM := SM0 ++ [(a, (⟨t.ix, t.s.add q⟩ : SegM))] } = M.A.set ((SM0.map fun t => t.2.s) ++ [t.s.add q]) := by
      unfold LogM.A LogM.l LogA.set
      simp only [List.map_append, List.map_cons, List.map_nil, hd1, hd2, hd3, hd4]
    rw [eA] at hs
    exact hs.sub
end
end Go.Dec
namespace Go.Dec
set_option linter.unusedVariables false
set_option linter.unusedSimpArgs false
section
variable {w : World} {l r : List HP} {lg : Nat} {M : LogM} {A : LogA} {D : DiskA} {gap : Int} {a : Nat} {t : SegM}
theorem wp_ix1k {P : Program} {Q : Post} {S : World → Prop} {α : Type} {enc : α → List Value} {xs : List α} {sz m : Nat} {ii : Int} {x : Sl} {T : TypeId} {g g' : Prop} {p : Pr} {dec : α → p.D} {f : p.D → Prog} (hs : Sat w l) [hf : FocR l x sz (xs.flatMap enc)] [hE : EncN enc sz] [hD : Enc1 enc p dec] [hT : One P T]
    (n : Nat) (hn : n < xs.length) (h : (f (dec xs[n])).wp P S w Q) (hm : m = n * sz := by rfl) (hi : ii = n := by rfl) :
    (Prog.ex [.adr] (c1 fun a => g → (0 : Int) ≤ ii ∧ ii < ((x.len : Nat) : Int) ∧ x.a = some a) (u1 fun a => .read g' (ld T (Addr.add a m)) (.one (.one p)) (u1 f))).wp P S w Q := by
  subst hm hi
  have hr := hf.rd w hs
  have hl : x.len = xs.length := hr.len hE.len hE.pos
  obtain ⟨a, ha, he⟩ := hr.el hE.len (by omega)
  refine ⟨(a, ()), fun _ => ⟨by omega, by omega, ha⟩, (dec xs[n], ()), fun _ => ?_, h⟩
  have := he n hn
  rw [hD.ok] at this
  have h2 := At.ld1 (P := P) (T := T) this rfl
  cases p <;> exact h2
end
end Go.Dec
namespace Go.Dec
set_option linter.unusedVariables false
set_option linter.unusedSimpArgs false
theorem BsOk.lt : ∀ {n : Int} {bs : List BatM}, BsOk n bs → ∀ (j i : Nat) (hi : i < bs.length) (hj : j < i), n ≤ (bs[j]'(by omega)).base ∧ (bs[j]'(by omega)).base + spanB (bs[j]'(by omega)) ≤ bs[i].base
  | n, b :: bs, ⟨h1, h2, h3, h4⟩, 0, i + 1, hi, hj => by
    refine ⟨h3, ?_⟩
    simp only [List.getElem_cons_zero, List.getElem_cons_succ]
    have hi : i < bs.length := by simpa using hi
    obtain ⟨s1, -, -, -, -⟩ := span_le b h1
    cases i with
    | zero =>
      cases bs with
      | nil => simp at hi
      | cons c cs => exact h4.2.2.1
    | succ i =>
      have := (h4.lt 0 (i + 1) hi (by omega)).1
      have h5 := (h4.lt 0 (i + 1) hi (by omega)).2
      obtain ⟨s2, -, -, -, -⟩ := span_le _ (h4.valid _ (List.getElem_mem (show 0 < bs.length by omega))).1
      omega
  | n, b :: bs, ⟨h1, h2, h3, h4⟩, j + 1, i + 1, hi, hj => by
    simp only [List.getElem_cons_succ]
    have hi : i < bs.length := by simpa using hi
    have := h4.lt j i hi (by omega)
    obtain ⟨s1, -, -, -, -⟩ := span_le b h1
    exact ⟨by omega, this.2⟩
theorem BsOk.le_next {n : Int} {bs : List BatM} (h : BsOk n bs) {b : BatM} (hb : b ∈ bs) : b.base + spanB b ≤ nextG bs := by
  obtain ⟨j, hj, rfl⟩ := List.mem_iff_getElem.1 hb
  have hne : bs ≠ [] := by rintro rfl; simp at hj
  have e : nextG bs = (bs[bs.length - 1]'(by omega)).base + spanB (bs[bs.length - 1]'(by omega)) := by
    unfold nextG
    rw [List.getLast?_eq_getElem?, List.getElem?_eq_getElem (by omega)]
  rw [e]
  by_cases hjl : j = bs.length - 1
  · subst hjl; exact Int.le_refl _
  · have := (h.lt j (bs.length - 1) (by omega) (by omega)).2
    obtain ⟨s1, -, -, -, -⟩ := span_le _ (h.valid _ (List.getElem_mem (show bs.length - 1 < bs.length by omega))).1
    omega
theorem SegsOk.skip : ∀ {n : Int} {l : List SegA}, SegsOk n l → ∀ (i j : Nat) (hj : j < l.length) (hi : i < j), (l[i]'(by omega)).reach ≤ l[j].base ∧ (l[i]'(by omega)).base < l[j].base
  | n, s :: l, ⟨h1, h2, h3⟩, 0, j + 1, hj, _ => by
    have hj : j < l.length := by simpa using hj
    have := (h3.mem l[j] (List.getElem_mem hj)).2
    simp only [List.getElem_cons_zero, List.getElem_cons_succ]
    omega
  | n, s :: l, ⟨h1, h2, h3⟩, i + 1, j + 1, hj, hi => by
    simp only [List.getElem_cons_succ]
    exact h3.skip i j (by simpa using hj) (by omega)
end Go.Dec
namespace Go.Dec
set_option linter.unusedVariables false
set_option linter.unusedSimpArgs false
def filesL (pre : ByteArray) : List ByteArray → DiskA → Int × List Int × DiskA
  | [], D => (0, [], D)
  | n :: ns, D => if (baseN pre n newX).isSome = true ∧ (remA D n).1 ≠ 0 then ((remA D n).1, [], (remA D n).2) else
    ((filesL pre ns (if (baseN pre n newX).isSome then (remA D n).2 else D)).1, (match baseN pre n logX with | some b => [(b : Int)] | none => []) ++ (filesL pre ns (if (baseN pre n newX).isSome then (remA D n).2 else D)).2.1, (filesL pre ns (if (baseN pre n newX).isSome then (remA D n).2 else D)).2.2)
def dropL (pre : ByteArray) : List Int → DiskA → Int × DiskA
  | [], D => (0, D)
  | b :: bs, D => if (remA D (nameS pre b logX)).1 ≠ 0 then remA D (nameS pre b logX) else dropL pre bs (remA D (nameS pre b logX)).2
def scanA (pre : ByteArray) (l : List SegA) (D : DiskA) (base : Int) : (Bool × Int) × List SegA × DiskA := match fileD D.fs (nameS pre base logX) with
  | none => ((false, 3), l, D)
  | some p => match scanL base p.1 with
    | none => ((false, (remA D (nameS pre base logX)).1), l, (remA D (nameS pre base logX)).2)
    | some q => if q.2 = p.1.length then ((true, 0), l ++ [q.1], D) else ((false, (cutA' D (nameS pre base logX) (q.2 : Nat)).1), l ++ [q.1], (cutA' D (nameS pre base logX) (q.2 : Nat)).2)
def openS (pre : ByteArray) : List Int → List SegA → DiskA → Int × List SegA × DiskA
  | [], l, D => (0, l, D)
  | b :: bs, l, D => if b < nextL l then (if (remA D (nameS pre b logX)).1 ≠ 0 then ((remA D (nameS pre b logX)).1, l, (remA D (nameS pre b logX)).2) else openS pre bs l (remA D (nameS pre b logX)).2) else
    if (scanA pre l D b).1.2 ≠ 0 then ((scanA pre l D b).1.2, (scanA pre l D b).2) else
    if (scanA pre l D b).1.1 = true then openS pre bs (scanA pre l D b).2.1 (scanA pre l D b).2.2 else ((dropL pre bs (scanA pre l D b).2.2).1, (scanA pre l D b).2.1, (dropL pre bs (scanA pre l D b).2.2).2)
def lopenA (pre : ByteArray) (D : DiskA) : Int × List SegA × DiskA :=
  if (filesL pre (namesF (dashN pre) D.fs) D).1 ≠ 0 then ((filesL pre (namesF (dashN pre) D.fs) D).1, [], (filesL pre (namesF (dashN pre) D.fs) D).2.2) else
    openS pre (filesL pre (namesF (dashN pre) D.fs) D).2.1 [] (filesL pre (namesF (dashN pre) D.fs) D).2.2
theorem dash_eq (pre : ByteArray) : pre ++ ByteArray.mk #[45] = dashN pre := by
  apply bl_ext
  rw [bl_dash]
  unfold bl
  simp
theorem baseN_lt {pre n : ByteArray} {x : List UInt8} {v : Nat} (h : baseN pre n x = some v) : v < 17592186044416 := by
  unfold baseN at h
  split at h
  · have := hexV_lt (k := 0) h (by omega)
    have h2 : 16 ^ (0 + (((bl n).drop ((bl pre).length + 1)).take 11).length) ≤ 16 ^ 11 := Nat.pow_le_pow_right (by omega) (by rw [List.length_take]; omega)
    omega
  · cases h
theorem filesL_lt {pre : ByteArray} : ∀ {ns : List ByteArray} {D : DiskA}, ∀ b ∈ (filesL pre ns D).2.1, 0 ≤ b ∧ b < 17592186044416
  | [], D, b, h => by cases h
  | n :: ns, D, b, h => by
    unfold filesL at h
    split at h
    · cases h
    · simp only at h
      rcases List.mem_append.1 h with h | h
      · cases hb : baseN pre n logX with
        | none => rw [hb] at h; cases h
        | some v =>
          rw [hb] at h
          simp only [List.mem_cons, List.not_mem_nil, or_false] at h
          have := baseN_lt hb
          omega
      · exact filesL_lt b h
theorem filesL_len {pre : ByteArray} : ∀ {ns : List ByteArray} {D : DiskA}, (filesL pre ns D).2.1.length ≤ ns.length
  | [], D => Nat.le_refl _
  | n :: ns, D => by
    unfold filesL
    split
    · exact Nat.zero_le _
    · simp only [List.length_append, List.length_cons]
      have := filesL_len (pre := pre) (ns := ns) (D := if (baseN pre n newX).isSome then (remA D n).2 else D)
      split <;> simp <;> omega
section
variable {w : World} {l r : List HP} {lg : Nat} {M : LogM} {A : LogA} {D : DiskA} {gap : Int} {a : Nat} {t : SegM}
/-- The log's own cells and the rest of it. -/
def lgR (M : LogM) : HP := HP.star (slc T.p_seglog_segment 1 M.z ((M.SM.map Prod.fst).flatMap encP)) (HP.all (M.SM.map fun t => segP M.gap t.1 t.2))
theorem lgQ_cell (hs : Sat w (lgQ lg M :: l)) : okM M.gap M.seg M.pre ∧ Sat w (pt lg (.cells #[.pointer (some ⟨M.d, 0, none⟩), .string M.pre, .int .i64 M.seg, .int .i64 M.gap, .slice M.z.a M.z.len M.z.cap] T.seglog_Log) :: lgR M :: l) := by
  obtain ⟨h, hs⟩ := hs.and
  exact ⟨h, hs.star⟩
theorem lgQ_uncell (M : LogM) (h : okM M.gap M.seg M.pre) (hs : Sat w (pt lg (.cells #[.pointer (some ⟨M.d, 0, none⟩), .string M.pre, .int .i64 M.seg, .int .i64 M.gap, .slice M.z.a M.z.len M.z.cap] T.seglog_Log) :: lgR M :: l)) : Sat w (lgQ lg M :: l) := .and_mk h (.star_mk hs)
theorem files_c {r1 : List HP} [hf : Fo l lgQ lg M r1] [hf2 : Fo r1 dk M.d D r] (hs : Sat w l) :
    Ret P F.seglog_Log_files #[.pointer (some ⟨lg, 0, none⟩)] w fun vs w' =>
      ((filesL M.pre (namesF (dashN M.pre) D.fs) D).1 ≠ 0 ∧ vs = [.slice none 0 0, .int .i64 (filesL M.pre (namesF (dashN M.pre) D.fs) D).1] ∧ Sat w' (lgQ lg M :: dk M.d (filesL M.pre (namesF (dashN M.pre) D.fs) D).2.2 :: r)) ∨
      ((filesL M.pre (namesF (dashN M.pre) D.fs) D).1 = 0 ∧ ∃ z : Sl, vs = [z.v, .int .i64 0] ∧ Sat w' (slc T.int64 1 z ((filesL M.pre (namesF (dashN M.pre) D.fs) D).2.1.flatMap encI) :: lgQ lg M :: dk M.d (filesL M.pre (namesF (dashN M.pre) D.fs) D).2.2 :: r)) :=
  seglog_Log_files_calls _ <| by
    unfold seglog_Log_files
    have hs := hs.perm (hf.perm.trans (.cons _ hf2.perm))
    clear hf hf2
    obtain ⟨hokm, hs⟩ := lgQ_cell hs
    have hsz := hokm.size
    refine wp_tk hs fun w' hs => ?_
    refine wp_nn ?_
    refine wp_ldO hs ?_
    refine wp_nn ?_
    refine wp_ldO hs ?_
    refine wp_must (by omega) ?_
    rw [dash_eq]
    obtain ⟨m_, FS_, -, hokD, -⟩ := dk_open (hs.pick [2])
    have hok24 : ∀ n ∈ namesF (dashN M.pre) D.fs, n.size ≤ 24 := fun n hn => by
      unfold namesF at hn
      obtain ⟨f, hf, rfl⟩ := List.mem_map.1 (List.mem_filter.1 hn).1
      exact hokD.names f hf
    have hnl : (namesF (dashN M.pre) D.fs).length ≤ 128 := by
      unfold namesF
      exact Nat.le_trans (List.length_filter_le _ _) (by rw [List.length_map]; exact hokD.many)
    refine wp_call (names_c (d := M.d) (A := D) (dashN M.pre) hs) fun _ w' hs => ?_
    obtain ⟨x, rfl, hs⟩ := hs
    refine ret_of ?_
    refine wp_untick ?_
    generalize namesF (dashN M.pre) D.fs = ns at *
    have hl := hs.slen x (xs := ns) (enc := encT)
    refine wp_mid (fun q w' => ∃ z : Sl, q = (z, ()) ∧ (filesL M.pre ns D).1 = 0 ∧ Sat w' (slc T.int64 1 z ((filesL M.pre ns D).2.1.flatMap encI) :: lgQ lg M :: dk M.d (filesL M.pre ns D).2.2 :: r)) ?_ ?_
    rotate_left
    · rintro _ w2 ⟨z, rfl, h1, hs⟩
      exact ⟨rfl, .inr ⟨h1, z, rfl, hs⟩⟩
    have hs : Sat w' (slc T.int64 1 ⟨none, 0, 0⟩ (([] : List Int).flatMap encI) :: dk M.d D :: pt lg (.cells #[.pointer (some ⟨M.d, 0, none⟩), .string M.pre, .int .i64 M.seg, .int .i64 M.gap, .slice M.z.a M.z.len M.z.cap] T.seglog_Log) :: lgR M :: slc T.string 1 x (ns.flatMap encT) :: r) := by
      have h1 : Sat w' (slc T.int64 1 ⟨none, 0, 0⟩ (([] : List Int).flatMap encI) :: _) := hs.slc_nil
      exact h1.sub
    refine wp_loop (fun m v w => ∃ (i : Nat) (z : Sl) (done : List Int) (D' : DiskA), v = (z, ((i : Int), ())) ∧ i ≤ ns.length ∧ ns.length - i = m ∧ done.length ≤ i ∧
      ((filesL M.pre ns D).1 = (filesL M.pre (ns.drop i) D').1 ∧ (filesL M.pre ns D).2.2 = (filesL M.pre (ns.drop i) D').2.2 ∧ ((filesL M.pre (ns.drop i) D').1 = 0 → (filesL M.pre ns D).2.1 = done ++ (filesL M.pre (ns.drop i) D').2.1)) ∧
      Sat w (slc T.int64 1 z (done.flatMap encI) :: dk M.d D' :: pt lg (.cells #[.pointer (some ⟨M.d, 0, none⟩), .string M.pre, .int .i64 M.seg, .int .i64 M.gap, .slice M.z.a M.z.len M.z.cap] T.seglog_Log) :: lgR M :: slc T.string 1 x (ns.flatMap encT) :: r)) ns.length
      ⟨0, ⟨none, 0, 0⟩, [], D, rfl, by omega, rfl, by simp, ⟨rfl, rfl, fun _ => rfl⟩, hs⟩ ?_
    clear hs
    rintro m _ w ⟨i, z, done, D', rfl, hi, hm, hdl, ⟨hq1, hq2, hq3⟩, hs⟩
    refine wp_on ?_
    refine wp_if (fun hc => ?_) fun hc => ?_
    rotate_left
    · have e : ns.drop i = [] := List.drop_eq_nil_of_le (by omega)
      rw [e] at hq1 hq2 hq3
      have hq3 := hq3 rfl
      have e2 : (filesL M.pre [] D').2.1 = [] := rfl
      rw [e2, List.append_nil] at hq3
      refine wp_pass (wp_lv ⟨z, rfl, hq1, ?_⟩)
      have e3 : (filesL M.pre [] D').2.2 = D' := rfl
      rw [hq2, hq3, e3]
      have hs := lgQ_uncell M hokm (hs.pick [2, 2])
      exact hs.sub
    have hil : i < ns.length := by omega
    have hdrop : ns.drop i = ns[i] :: ns.drop (i + 1) := List.drop_eq_getElem_cons hil
    rw [hdrop] at hq1 hq2 hq3
    have hn24 := hok24 ns[i] (List.getElem_mem hil)
    refine wp_ix1 hs (xs := ns) (enc := encT) i hil ?_
    refine wp_lt ?_
    refine wp_call (base_c0 (lg := lg) ns[i] (ByteArray.mk #[46, 108, 111, 103]) (by omega) (by decide) M.pre hsz hs) fun _ w' hs => ?_
    obtain ⟨rfl, hs⟩ := hs
    refine ret_of ?_
    refine wp_lt ?_
    refine wp_lt ?_
    have eb : baseN M.pre ns[i] (bl (ByteArray.mk #[46, 108, 111, 103])) = baseN M.pre ns[i] logX := rfl
    rw [eb]
    refine wp_mid (fun q w' => ∃ z' : Sl, q = (z', ()) ∧ Sat w' (slc T.int64 1 z' ((done ++ (match baseN M.pre ns[i] logX with | some b => [(b : Int)] | none => [])).flatMap encI) :: dk M.d D' :: pt lg (.cells #[.pointer (some ⟨M.d, 0, none⟩), .string M.pre, .int .i64 M.seg, .int .i64 M.gap, .slice M.z.a M.z.len M.z.cap] T.seglog_Log) :: lgR M :: slc T.string 1 x (ns.flatMap encT) :: r)) ?_ ?_
    · cases hb : baseN M.pre ns[i] logX with
      | none =>
        refine wp_ifF ?_ (by simp)
        refine wp_lv ⟨z, rfl, ?_⟩
        rw [List.append_nil]
        exact hs
      | some b =>
        refine wp_ifT ?_ (by rfl)
        refine wp_ap0 (xs := done) (enc := encI) (y := (b : Int)) hs (fun z' w' hs => ?_) rfl (by omega)
        exact wp_lv ⟨z', rfl, hs⟩
    rintro _ w2 ⟨z', rfl, hs⟩
    have hdl2 : (done ++ (match baseN M.pre ns[i] logX with | some b => [(b : Int)] | none => [])).length ≤ i + 1 := by
      rw [List.length_append]
      split <;> simp <;> omega
    refine wp_call (base_c0 (lg := lg) ns[i] (ByteArray.mk #[46, 110, 101, 119]) (by omega) (by decide) M.pre hsz hs) fun _ w' hs => ?_
    obtain ⟨rfl, hs⟩ := hs
    refine ret_of ?_
    refine wp_lt ?_
    refine wp_lt ?_
    have eb2 : baseN M.pre ns[i] (bl (ByteArray.mk #[46, 110, 101, 119])) = baseN M.pre ns[i] newX := rfl
    rw [eb2]
    have hun : filesL M.pre (ns[i] :: ns.drop (i + 1)) D' = if (baseN M.pre ns[i] newX).isSome = true ∧ (remA D' ns[i]).1 ≠ 0 then ((remA D' ns[i]).1, [], (remA D' ns[i]).2) else
      ((filesL M.pre (ns.drop (i + 1)) (if (baseN M.pre ns[i] newX).isSome then (remA D' ns[i]).2 else D')).1, (match baseN M.pre ns[i] logX with | some b => [(b : Int)] | none => []) ++ (filesL M.pre (ns.drop (i + 1)) (if (baseN M.pre ns[i] newX).isSome then (remA D' ns[i]).2 else D')).2.1, (filesL M.pre (ns.drop (i + 1)) (if (baseN M.pre ns[i] newX).isSome then (remA D' ns[i]).2 else D')).2.2) := rfl
    refine wp_mid (fun q w' => ¬ ((baseN M.pre ns[i] newX).isSome = true ∧ (remA D' ns[i]).1 ≠ 0) ∧ Sat w' (slc T.int64 1 z' ((done ++ (match baseN M.pre ns[i] logX with | some b => [(b : Int)] | none => [])).flatMap encI) :: dk M.d (if (baseN M.pre ns[i] newX).isSome then (remA D' ns[i]).2 else D') :: pt lg (.cells #[.pointer (some ⟨M.d, 0, none⟩), .string M.pre, .int .i64 M.seg, .int .i64 M.gap, .slice M.z.a M.z.len M.z.cap] T.seglog_Log) :: lgR M :: slc T.string 1 x (ns.flatMap encT) :: r)) ?_ ?_
    · refine wp_if (fun h => ?_) fun h => ?_
      rotate_left
      · refine wp_lv ⟨fun hh => h hh.1, ?_⟩
        rw [if_neg h]
        exact hs
      refine wp_nn ?_
      refine wp_ldO hs ?_
      refine wp_call (remove_c (d := M.d) (A := D') ns[i] hs) fun _ w' hs => ?_
      obtain ⟨rfl, hs⟩ := hs
      refine ret_of ?_
      refine wp_lt ?_
      refine wp_if (fun h2 => ?_) fun h2 => ?_
      · refine wp_lt ?_
        rw [if_pos ⟨h, h2⟩] at hun
        rw [hun] at hq1 hq2
        have hs := lgQ_uncell M hokm (hs.pick [2, 2])
        refine wp_pass (wp_pass (wp_pass ⟨rfl, .inl ⟨by rw [hq1]; exact h2, by rw [hq1], ?_⟩⟩))
        rw [hq2]
        exact hs.sub
      · refine wp_lv ⟨fun hh => h2 hh.2, ?_⟩
        rw [if_pos h]
        exact hs.sub
    rintro _ w3 ⟨hno, hs⟩
    rw [if_neg hno] at hun
    rw [hun] at hq1 hq2 hq3
    refine wp_on ?_
    rw [show IntKind.wrap .i64 ((i : Int) + 1) = ((i + 1 : Nat) : Int) by rw [w64 (by omega) (by omega)]; omega]
    refine wp_lp (ns.length - (i + 1)) ⟨i + 1, z', done ++ (match baseN M.pre ns[i] logX with | some b => [(b : Int)] | none => []), _, rfl, by omega, rfl, hdl2, ⟨hq1, hq2, fun h => ?_⟩, hs⟩
    rw [hq3 h, List.append_assoc]
theorem drop_c6 (x : Sl) (bs : List Int) (hb : ∀ b ∈ bs, 0 ≤ b ∧ b < 17592186044416) {r1 : List HP} [hf : Fo l lgQ lg M r1] [hf2 : Fo r1 dk M.d D r] (hx : FocR r x 1 (bs.flatMap encI)) (hlen : bs.length ≤ 1000000) (hs : Sat w l) :
    Ret P F.seglog_Log_drop #[.pointer (some ⟨lg, 0, none⟩), x.v] w fun vs w' => vs = [.int .i64 (dropL M.pre bs D).1] ∧ Sat w' (lgQ lg M :: dk M.d (dropL M.pre bs D).2 :: r) :=
  seglog_Log_drop_calls _ x <| by
    unfold seglog_Log_drop
    have hs := hs.perm (hf.perm.trans (.cons _ hf2.perm))
    clear hf hf2
    obtain ⟨hokm, hs⟩ := lgQ_cell hs
    have hsz := hokm.size
    have hl := hs.slen x (xs := bs) (enc := encI)
    refine wp_mid (fun _ w' => (dropL M.pre bs D).1 = 0 ∧ Sat w' (lgQ lg M :: dk M.d (dropL M.pre bs D).2 :: r)) ?_ ?_
    rotate_left
    · rintro _ w2 ⟨h1, hs⟩
      rw [h1]
      exact ⟨rfl, rfl, hs⟩
    refine wp_loop (fun m v w => ∃ (i : Nat) (D' : DiskA), v = ((i : Int), ()) ∧ i ≤ bs.length ∧ bs.length - i = m ∧ dropL M.pre bs D = dropL M.pre (bs.drop i) D' ∧
      Sat w (pt lg (.cells #[.pointer (some ⟨M.d, 0, none⟩), .string M.pre, .int .i64 M.seg, .int .i64 M.gap, .slice M.z.a M.z.len M.z.cap] T.seglog_Log) :: lgR M :: dk M.d D' :: r)) bs.length ⟨0, D, rfl, by omega, rfl, rfl, hs⟩ ?_
    clear hs
    rintro m _ w ⟨i, D', rfl, hi, hm, hq, hs⟩
    refine wp_on ?_
    refine wp_if (fun hc => ?_) fun hc => ?_
    rotate_left
    · have e : bs.drop i = [] := List.drop_eq_nil_of_le (by omega)
      rw [e] at hq
      refine wp_pass (wp_lv ⟨by rw [hq]; rfl, ?_⟩)
      rw [hq]
      exact lgQ_uncell M hokm hs
    have hil : i < bs.length := by omega
    rw [List.drop_eq_getElem_cons hil] at hq
    have hbb := hb bs[i] (List.getElem_mem hil)
    refine wp_ix1 hs (xs := bs) (enc := encI) i hil ?_
    refine wp_lt ?_
    have hun : dropL M.pre (bs[i] :: bs.drop (i + 1)) D' = if (remA D' (nameS M.pre bs[i] logX)).1 ≠ 0 then remA D' (nameS M.pre bs[i] logX) else dropL M.pre (bs.drop (i + 1)) (remA D' (nameS M.pre bs[i] logX)).2 := rfl
    refine wp_mid (fun v w' => v = ((remA D' (nameS M.pre bs[i] logX)).1, ()) ∧ Sat w' (pt lg (.cells #[.pointer (some ⟨M.d, 0, none⟩), .string M.pre, .int .i64 M.seg, .int .i64 M.gap, .slice M.z.a M.z.len M.z.cap] T.seglog_Log) :: lgR M :: dk M.d (remA D' (nameS M.pre bs[i] logX)).2 :: r)) ?_ ?_
    · refine wp_tk hs fun w' hs => ?_
      refine wp_nn ?_
      refine wp_hdO hs ?_
      refine wp_call (name_c0 (lg := lg) bs[i] hbb (ByteArray.mk #[46, 108, 111, 103]) (by decide) M.pre hsz hs) fun _ w' hs => ?_
      obtain ⟨rfl, hs⟩ := hs
      refine ret_of ?_ (by first | trivial | (repeat (first | exact trivial | exact fun _ => run_ldO hs | exact fun _ => run_ldG hs | refine And.intro ?_ ?_)))
      refine wp_untick ?_
      refine wp_call (remove_c (d := M.d) (A := D') (nameS M.pre bs[i] (bl (ByteArray.mk #[46, 108, 111, 103]))) hs) fun _ w' hs => ?_
      obtain ⟨rfl, hs⟩ := hs
      refine ret_of ?_
      refine wp_lt ?_
      refine wp_untick ?_
      have hs : Sat w' (dk M.d (remA D' (nameS M.pre bs[i] logX)).2 :: _) := hs
      exact wp_lv ⟨rfl, hs.sub⟩
    rintro _ w2 ⟨rfl, hs⟩
    refine wp_if (fun h => ?_) fun h => ?_
    · refine wp_lt ?_
      rw [if_pos h] at hun
      rw [hun] at hq
      rw [hq]
      exact wp_pass (wp_pass ⟨rfl, rfl, lgQ_uncell M hokm hs⟩)
    · rw [if_neg h] at hun
      rw [hun] at hq
      rw [show IntKind.wrap .i64 ((i : Int) + 1) = ((i + 1 : Nat) : Int) by rw [w64 (by omega) (by omega)]; omega]
      exact wp_lp (bs.length - (i + 1)) ⟨i + 1, _, rfl, by omega, rfl, hq, hs⟩
end
end Go.Dec
namespace Go.Dec
set_option linter.unusedVariables false
set_option linter.unusedSimpArgs false
theorem takeF_succ (k : Nat) (n : Int) (raw : List UInt8) : takeF (k + 1) n raw = match firstL raw with
    | none => ([], 0)
    | some (body, m) => match decS body with
      | none => ([], 0)
      | some b => if b.base < n then ([], 0) else (b :: (takeF k (b.base + spanB b) (raw.drop m)).1, m + (takeF k (b.base + spanB b) (raw.drop m)).2) := rfl
section
variable {w : World} {l r : List HP} {lg : Nat} {M : LogM} {A : LogA} {D : DiskA} {gap : Int} {a : Nat} {t : SegM}
theorem take_raw (b : BatM) (z : Sl) (hv : validB b = 0) (hp : b.p = b) [hf : Fo l (segP gap) a t r] [hb : FocR r z 4 (b.rs.flatMap encR)] (hlen : t.s.file.length + (frL b).length ≤ 1000000000) (hs : Sat w l) :
    Ret P F.seglog_segment_take #[.pointer (some ⟨a, 0, none⟩), .agg (encB7 (b.at z)).toArray, .int .i64 ((frL b).length : Nat)] w fun vs w' => vs = [] ∧ Sat w' (segP gap a ⟨t.ix, t.s.add [b]⟩ :: r) := by
  have hb' : FocR r (b.at z).x 4 ((b.at z).rs.flatMap encR) := hb
  have h := take_c (gap := gap) (a := a) (b.at z) hv hlen hs
  have e : t.s.add [b.at z] = t.s.add [b] := by
    unfold SegA.add
    have : (b.at z).p = b.p := rfl
    simp only [List.map_cons, List.map_nil, this]
  rw [e] at h
  exact h
set_option maxHeartbeats 1000000 in
theorem scan_c (base : Int) (hb : 0 ≤ base ∧ base < 17592186044416) {r1 : List HP} [hf : Fo l lgQ lg M r1] [hf2 : Fo r1 dk M.d D r] (hlen : M.SM.length ≤ 1000000) (hs : Sat w l) :
    Ret P F.seglog_Log_scan #[.pointer (some ⟨lg, 0, none⟩), .int .i64 base] w fun vs w' => vs = [.bool (scanA M.pre M.l D base).1.1, .int .i64 (scanA M.pre M.l D base).1.2] ∧
      ∃ M' : LogM, (M'.d = M.d ∧ M'.pre = M.pre ∧ M'.seg = M.seg ∧ M'.gap = M.gap) ∧ M'.l = (scanA M.pre M.l D base).2.1 ∧ M'.SM.length ≤ M.SM.length + 1 ∧ Sat w' (lgQ lg M' :: dk M.d (scanA M.pre M.l D base).2.2 :: r) :=
  seglog_Log_scan_calls _ base <| by
    unfold seglog_Log_scan
    have hs := hs.perm (hf.perm.trans (.cons _ hf2.perm))
    clear hf hf2
    obtain ⟨hokm, hs⟩ := lgQ_cell hs
    have hsz := hokm.size
    obtain ⟨m_, FS_, -, hokD, -⟩ := dk_open (hs.pick [2])
    refine wp_call (name_c0 (lg := lg) base hb (ByteArray.mk #[46, 108, 111, 103]) (by decide) M.pre hsz hs) fun _ w' hs => ?_
    obtain ⟨rfl, hs⟩ := hs
    refine ret_of ?_
    have en : nameS M.pre base (bl (ByteArray.mk #[46, 108, 111, 103])) = nameS M.pre base logX := rfl
    rw [en]
    generalize hnm : nameS M.pre base logX = nm at *
    refine wp_lt ?_
    refine wp_nn ?_
    refine wp_ldO hs ?_
    have hsame : ∀ {w : World} {D' : DiskA}, Sat w (pt lg (.cells #[.pointer (some ⟨M.d, 0, none⟩), .string M.pre, .int .i64 M.seg, .int .i64 M.gap, .slice M.z.a M.z.len M.z.cap] T.seglog_Log) :: lgR M :: dk M.d D' :: r) → ∃ M' : LogM, (M'.d = M.d ∧ M'.pre = M.pre ∧ M'.seg = M.seg ∧ M'.gap = M.gap) ∧ M'.l = M.l ∧ M'.SM.length ≤ M.SM.length + 1 ∧ Sat w (lgQ lg M' :: dk M.d D' :: r) := fun hs => ⟨M, ⟨rfl, rfl, rfl, rfl⟩, rfl, by omega, lgQ_uncell M hokm hs⟩
    unfold scanA
    rw [hnm]
    refine wp_call (read_c (d := M.d) (A := D) nm hs) fun _ w' hs => ?_
    rcases hs with ⟨f, hff, hfn, x, rfl, hs⟩ | ⟨hno, rfl, hs⟩
    rotate_left
    · refine ret_of ?_
      refine wp_lt ?_
      refine wp_ifT ?_ (by decide)
      refine wp_lt ?_
      rw [fileD_none.2 hno]
      exact ⟨rfl, rfl, hsame hs.sub⟩
    refine ret_of ?_
    refine wp_lt ?_
    refine wp_ifF ?_ (by simp)
    have hfd : fileD D.fs nm = some (f.b, f.kept) := by rw [← hfn]; exact fileD_mem (names_nodup hokD.sorted) hff
    have hrl : f.b.length ≤ 4194304 := Nat.le_trans (used_mem hff) hokD.used
    rw [hfd]
    simp only
    generalize f.b = raw at *
    have hl := hs.slen x (xs := raw) (enc := encU)
    have hcap := hs.slc_cap
    refine wp_call (ffirst_c x raw hcap (by omega) hs) fun _ w' hs => ?_
    obtain ⟨y, rfl, hs⟩ := hs
    refine ret_of ?_
    refine wp_lt ?_
    refine wp_lt ?_
    refine wp_mid (fun q w' => ∃ v : Int, q = (v, (scanL base raw).isSome, ()) ∧ (∀ s, scanL base raw = some s → v = s.1.fin) ∧ Sat w' (slc T.uint8 1 x (raw.flatMap encU) :: pt lg (.cells #[.pointer (some ⟨M.d, 0, none⟩), .string M.pre, .int .i64 M.seg, .int .i64 M.gap, .slice M.z.a M.z.len M.z.cap] T.seglog_Log) :: lgR M :: dk M.d D :: r)) ?_ ?_
    · cases hfr : firstL raw with
      | none =>
        rw [hfr] at hs
        have e : scanL base raw = none := by unfold scanL; rw [hfr]
        rw [e]
        refine wp_ifF ?_ (by simp)
        exact wp_lv ⟨0, rfl, (fun s h => by cases h), hs.sub⟩
      | some q =>
        obtain ⟨body, m⟩ := q
        rw [hfr] at hs
        have hs : Sat w' (slc T.uint8 1 y (body.flatMap encU) :: _) := hs
        obtain ⟨-, -, hbd, -⟩ := first_inv hfr
        refine wp_ifT ?_ (by rfl)
        refine wp_call (headed_c y body base (by omega) (by omega) hs) fun _ w' hs => ?_
        obtain ⟨v, rfl, hv, hs⟩ := hs
        refine ret_of ?_
        refine wp_lt ?_
        refine wp_lt ?_
        have e : scanL base raw = match headS base body with
            | none => none
            | some fin => some (⟨base, fin, (takeF raw.length base (raw.drop m)).1⟩, m + (takeF raw.length base (raw.drop m)).2) := by simp only [scanL, hfr]; cases headS base body <;> rfl
        rw [e]
        cases hh : headS base body with
        | none => exact wp_lv ⟨v, rfl, (fun s h => by cases h), hs.sub⟩
        | some fin =>
          have := hv fin hh
          subst this
          exact wp_lv ⟨v, rfl, (fun s h => by simp only [Option.some.injEq] at h; subst h; rfl), hs.sub⟩
    rintro _ w2 ⟨v, rfl, hv, hs⟩
    cases hsc : scanL base raw with
    | none =>
      refine wp_ifT ?_ (by simp)
      refine wp_nn ?_
      refine wp_ldO hs ?_
      refine wp_call (remove_c (d := M.d) (A := D) nm hs) fun _ w' hs => ?_
      obtain ⟨rfl, hs⟩ := hs
      refine ret_of ?_
      refine wp_lt ?_
      exact ⟨rfl, rfl, hsame hs.sub⟩
    | some q =>
      obtain ⟨s, mm⟩ := q
      dsimp only
      have hv := hv _ hsc
      have hv : v = s.fin := hv
      subst hv
      obtain ⟨hsok, hsb, hst, hsm, hsml⟩ := scan_inv hsc
      refine wp_ifF ?_ (by simp)
      obtain ⟨m0, hm0, htk⟩ : ∃ m0, ((firstL raw).getD ([], 0)).2 = m0 ∧ m0 ≤ raw.length ∧ m0 = (shL s.base s.fin).length ∧ s.bs = (takeF raw.length base (raw.drop m0)).1 ∧ mm = m0 + (takeF raw.length base (raw.drop m0)).2 := by
        unfold scanL at hsc
        cases hfr : firstL raw with
        | none => rw [hfr] at hsc; cases hsc
        | some q =>
          obtain ⟨body, m⟩ := q
          rw [hfr] at hsc
          simp only at hsc
          cases hh : headS base body with
          | none => rw [hh] at hsc; cases hsc
          | some fin =>
            rw [hh] at hsc
            simp only [Option.some.injEq, Prod.mk.injEq] at hsc
            obtain ⟨e1, e2⟩ := hsc
            obtain ⟨f1, f2, f3, f4⟩ := first_inv hfr
            obtain ⟨-, -, hb3⟩ := headS_inv hh
            refine ⟨m, rfl, f2, ?_, by rw [← e1], e2.symm⟩
            rw [← e1]
            show m = (shL base fin).length
            unfold shL
            rw [seal_len (by have := shB_len base fin; omega), ← hb3, f1]
      obtain ⟨h1, h2, h3, h4⟩ := htk
      rw [hm0]
      have hbase0 := hsok.base
      have hfin0 : 0 ≤ s.fin ∧ s.fin < 9223372036854775808 := by have := hsok.fin; omega
      have hs := lgQ_uncell M hokm (hs.pick [1, 1])
      refine wp_call (newseg_c (lg := lg) base s.fin (by omega) hfin0 hs) fun _ w' hs => ?_
      obtain ⟨a, ix, rfl, hs⟩ := hs
      refine ret_of ?_
      refine wp_lt ?_
      -- the batches
      refine wp_mid (fun q w' => q = ((mm : Int), ()) ∧ Sat w' (segP M.gap a ⟨ix, s⟩ :: lgQ lg M :: slc T.uint8 1 x (raw.flatMap encU) :: dk M.d D :: r)) ?_ ?_
      · refine wp_loop (fun k q w => ∃ (at_ : Nat) (n : Int) (done : List BatM), q = ((at_ : Int), (n, ())) ∧ at_ ≤ raw.length ∧ raw.length - at_ ≤ k ∧
          s.bs = done ++ (takeF k n (raw.drop at_)).1 ∧ mm = at_ + (takeF k n (raw.drop at_)).2 ∧ at_ = ((⟨base, s.fin, []⟩ : SegA).add done).file.length ∧
          Sat w (segP M.gap a ⟨ix, (⟨base, s.fin, []⟩ : SegA).add done⟩ :: lgQ lg M :: slc T.uint8 1 x (raw.flatMap encU) :: dk M.d D :: r)) raw.length
          ⟨m0, base, [], rfl, h1, by omega, by rw [List.nil_append]; exact h3, h4, by rw [add_nil, file_len]; simp only [List.flatMap_nil, List.length_nil]; rw [h2, hsb]; omega, by rw [add_nil]; exact hs⟩ ?_
        clear hs
        rintro k _ w ⟨at_, n, done, rfl, ha1, ha2, ha3, ha4, ha5, hs⟩
        have hend : takeF k n (raw.drop at_) = ([], 0) → ∀ {w : World}, Sat w (segP M.gap a ⟨ix, (⟨base, s.fin, []⟩ : SegA).add done⟩ :: lgQ lg M :: slc T.uint8 1 x (raw.flatMap encU) :: dk M.d D :: r) → at_ = mm ∧ Sat w (segP M.gap a ⟨ix, s⟩ :: lgQ lg M :: slc T.uint8 1 x (raw.flatMap encU) :: dk M.d D :: r) := by
          intro he w hs
          rw [he] at ha3 ha4
          simp only [List.append_nil] at ha3
          have hpp : done.map BatM.p = done := by
            rw [List.map_congr_left (g := id) fun b hb => ((hsok.bs.valid b (by rw [ha3]; exact hb)).2), List.map_id]
          have es : (⟨base, s.fin, []⟩ : SegA).add done = s := by
            unfold SegA.add
            rw [hpp, ← ha3, ← hsb]
            rfl
          rw [es] at hs
          exact ⟨ha4.symm, hs⟩
        refine wp_on ?_
        refine wp_must (by omega) ?_
        rw [Int.toNat_natCast]
        have hxc : FocR (segP M.gap a ⟨ix, (⟨base, s.fin, []⟩ : SegA).add done⟩ :: lgQ lg M :: slc T.uint8 1 x (raw.flatMap encU) :: dk M.d D :: r) ⟨cutA x.a 1 at_ x.cap, x.len - at_, x.cap - at_⟩ 1 ((raw.drop at_).flatMap encU) := FocR.post hcap
        refine wp_call (ffirst_c ⟨cutA x.a 1 at_ x.cap, x.len - at_, x.cap - at_⟩ (raw.drop at_) (by show x.len - at_ ≤ x.cap - at_; omega) (by rw [List.length_drop]; omega) hs) fun _ w' hs => ?_
        obtain ⟨y, rfl, hs⟩ := hs
        refine ret_of ?_
        refine wp_lt ?_
        refine wp_lt ?_
        cases hfr : firstL (raw.drop at_) with
        | none =>
          rw [hfr] at hs
          refine wp_ifT ?_ (by simp)
          have he : takeF k n (raw.drop at_) = ([], 0) := by
            cases k with
            | zero => rfl
            | succ k => rw [takeF_succ, hfr]
          obtain ⟨e1, hs⟩ := hend he hs.tail
          refine wp_pass (wp_lv ⟨by rw [e1], hs⟩)
        | some q =>
          obtain ⟨body, m⟩ := q
          rw [hfr] at hs
          have hs : Sat w' (slc T.uint8 1 y (body.flatMap encU) :: _) := hs
          obtain ⟨f1, f2, hbd, f4⟩ := first_inv hfr
          rw [List.length_drop] at f2
          dsimp only [Option.getD, Option.isSome]
          refine wp_ifF ?_ (by simp)
          obtain ⟨k, rfl⟩ : ∃ k', k = k' + 1 := ⟨k - 1, by omega⟩
          rw [takeF_succ, hfr] at ha3 ha4 hend
          refine wp_call (decode_c y body (by omega) hs) fun _ w' hs => ?_
          rcases hs with ⟨b, z, hdec, rfl, hs⟩ | ⟨hdec, rfl, hs⟩
          rotate_left
          · refine ⟨(0, 0, 0, 0, 0, 0, noSl, 6, ()), rfl, trivial, wp_u8 _ _ _ _ _ _ _ _ ?_⟩
            refine wp_newO hs fun c w' hs => ?_
            refine wp_stG hs fun w' hs => ?_
            refine wp_lt ?_
            refine wp_ldO hs ?_
            refine wp_ifT ?_ (.inl (by decide))
            obtain ⟨e1, hs⟩ := hend (by simp only [hdec]) hs.tail.tail
            exact wp_pass (wp_lv ⟨by show ((at_ : Int), ()) = _; rw [e1], hs⟩)
          · obtain ⟨d1, d2, d3⟩ := decS_inv hdec
            have hfrb : (frL b).length = m := by rw [(frL_len d1).2, d2, f1]
            refine ⟨(b.base, b.pid, b.epoch, b.seq, b.kind, b.time, z, 0, ()), rfl, trivial, wp_u8 _ _ _ _ _ _ _ _ ?_⟩
            refine wp_newO hs fun c w' hs => ?_
            refine wp_stG hs fun w' hs => ?_
            refine wp_lt ?_
            refine wp_ldO hs ?_
            simp only [hdec] at ha3 ha4 hend
            refine wp_if (fun hc => ?_) fun hc => ?_
            · have hc : b.base < n := by
                rcases hc with hc | hc
                · exact absurd rfl hc
                · exact hc
              obtain ⟨e1, hs⟩ := hend (by rw [if_pos hc]) hs.tail.tail.tail
              exact wp_pass (wp_lv ⟨by show ((at_ : Int), ()) = _; rw [e1], hs⟩)
            have hc : ¬ b.base < n := fun h => hc (.inr h)
            rw [if_neg hc] at ha3 ha4
            simp only at ha3 ha4
            refine wp_ldG hs ?_
            have hz : FocR (pt c (.cells #[.int .i64 b.base, .int .i64 b.pid, .int .i64 b.epoch, .int .i64 b.seq, .int .i64 b.kind, .int .i64 b.time, .slice z.a z.len z.cap] T.api_Batch) :: slc T.api_Record 4 z (b.rs.flatMap encR) :: slc T.uint8 1 y (body.flatMap encU) :: lgQ lg M :: slc T.uint8 1 x (raw.flatMap encU) :: dk M.d D :: r) z 4 (b.rs.flatMap encR) := inferInstance
            have hs : Sat w' (pt c (.cells #[.int .i64 b.base, .int .i64 b.pid, .int .i64 b.epoch, .int .i64 b.seq, .int .i64 b.kind, .int .i64 b.time, .slice z.a z.len z.cap] T.api_Batch) :: slc T.api_Record 4 z (b.rs.flatMap encR) :: slc T.uint8 1 y (body.flatMap encU) :: segP M.gap a ⟨ix, (⟨base, s.fin, []⟩ : SegA).add done⟩ :: lgQ lg M :: slc T.uint8 1 x (raw.flatMap encU) :: dk M.d D :: r) := hs
            have hml : ((m : Nat) : Int) = ((frL b).length : Nat) := by rw [hfrb]
            show (Prog.call F.seglog_segment_take [_, .agg _, .int .i64 ((m : Nat) : Int)] _ _).wp P _ _ _
            rw [hml]
            refine wp_call (take_raw (gap := M.gap) (a := a) (t := ⟨ix, (⟨base, s.fin, []⟩ : SegA).add done⟩) b z d1 d3 (by show ((⟨base, s.fin, []⟩ : SegA).add done).file.length + _ ≤ _; rw [← ha5]; omega) hs) fun _ w' hs => ?_
            obtain ⟨rfl, hs⟩ := hs
            refine ret_of ?_
            have e6 : ((⟨base, s.fin, []⟩ : SegA).add done).add [b] = (⟨base, s.fin, []⟩ : SegA).add (done ++ [b]) := add_add _ _ _
            have hs : Sat w' (segP M.gap a ⟨ix, ((⟨base, s.fin, []⟩ : SegA).add done).add [b]⟩ :: _) := hs
            rw [e6] at hs
            have hs := seg_open hs
            refine wp_nn ?_
            refine wp_ldO hs ?_
            refine wp_lt ?_
            rw [w64 (by omega) (by omega)]
            refine wp_lt ?_
            have en2 : nextG ((⟨base, s.fin, []⟩ : SegA).add (done ++ [b])).bs = b.base + spanB b := by
              show nextG ([] ++ (done ++ [b]).map BatM.p) = _
              rw [List.nil_append, List.map_append]
              exact nextG_snoc _ _
            rw [show nextG (SegM.s ⟨ix, (⟨base, s.fin, []⟩ : SegA).add (done ++ [b])⟩).bs = b.base + spanB b from en2]
            have hs := seg_close ⟨ix, (⟨base, s.fin, []⟩ : SegA).add (done ++ [b])⟩ hs
            have ec : (at_ : Int) + ((frL b).length : Nat) = ((at_ + m : Nat) : Int) := by rw [hfrb]; omega
            rw [ec]
            refine wp_lp k ⟨at_ + m, b.base + spanB b, done ++ [b], rfl, by omega, by omega, ?_, ?_, ?_, hs.sub⟩
            · rw [ha3, List.append_assoc, List.drop_drop]; rfl
            · rw [ha4, List.drop_drop]; omega
            · rw [← e6, file_add, List.length_append, ← ha5]
              simp only [List.flatMap_cons, List.flatMap_nil, List.append_nil]
              omega
      clear hs
      rintro _ w3 ⟨rfl, hs⟩
      refine wp_on ?_
      have hs := hs.pick [1]
      refine wp_call (put_c (lg := lg) a ⟨ix, s⟩ (by omega) hs) fun _ w' hs => ?_
      obtain ⟨z, rfl, hs⟩ := hs
      refine ret_of ?_
      have hfin2 : ∀ {w : World} {D' : DiskA}, Sat w (lgQ lg { M with z := z, SM := M.SM ++ [(a, ⟨ix, s⟩)] } :: dk M.d D' :: r) → ∃ M' : LogM, (M'.d = M.d ∧ M'.pre = M.pre ∧ M'.seg = M.seg ∧ M'.gap = M.gap) ∧ M'.l = M.l ++ [s] ∧ M'.SM.length ≤ M.SM.length + 1 ∧ Sat w (lgQ lg M' :: dk M.d D' :: r) := fun hs =>
        ⟨{ M with z := z, SM := M.SM ++ [(a, ⟨ix, s⟩)] }, ⟨rfl, rfl, rfl, rfl⟩, by unfold LogM.l; simp, by simp, hs⟩
      refine wp_if (fun hc => ?_) fun hc => ?_
      · have hc : mm = raw.length := by omega
        rw [if_pos hc]
        exact ⟨rfl, rfl, hfin2 hs.sub⟩
      · rw [if_neg (show ¬ mm = raw.length by omega)]
        refine wp_nn ?_
        obtain ⟨hokm2, hs⟩ := lgQ_cell hs
        refine wp_ldO hs ?_
        refine wp_call (cut_c (d := M.d) (A := D) nm ((mm : Nat) : Int) hs) fun _ w' hs => ?_
        obtain ⟨rfl, hs⟩ := hs
        refine ret_of ?_
        refine wp_lt ?_
        have hs := lgQ_uncell { M with z := z, SM := M.SM ++ [(a, ⟨ix, s⟩)] } hokm2 (hs.pick [1, 1])
        exact ⟨rfl, rfl, hfin2 hs.sub⟩
end
end Go.Dec
namespace Go.Dec
set_option linter.unusedVariables false
set_option linter.unusedSimpArgs false
def okCfg (seg gap : Int) : Prop := (64 ≤ seg ∧ seg ≤ 4194304) ∧ (1 ≤ gap ∧ gap ≤ 4194304)
instance (seg gap : Int) : Decidable (okCfg seg gap) := by unfold okCfg; infer_instance
section
variable {w : World} {l r : List HP} {lg d : Nat} {M : LogM} {A : LogA} {D : DiskA}
set_option maxHeartbeats 1000000 in
theorem lopen_c (pre : ByteArray) (seg gap : Int) (hp : preS pre = true) (hc : okCfg seg gap) (hg : D.gone = false) [hf : Fo l dk d D r] (hs : Sat w l) : Ret P F.seglog_Open #[.pointer (some ⟨d, 0, none⟩), .string pre, .agg #[.int .i64 seg, .int .i64 gap]] w fun vs w' =>
    ((lopenA pre D).1 ≠ 0 ∧ vs = [.pointer none, .int .i64 (lopenA pre D).1] ∧ Sat w' (dk d (lopenA pre D).2.2 :: r)) ∨
    ((lopenA pre D).1 = 0 ∧ ∃ lg, vs = [.pointer (some ⟨lg, 0, none⟩), .int .i64 0] ∧ Sat w' (lgP lg ⟨d, pre, seg, gap, (lopenA pre D).2.1⟩ :: dk d (lopenA pre D).2.2 :: r)) :=
  seglog_Open_calls _ pre seg gap <| by
    unfold seglog_Open
    have hs := hs.perm hf.perm
    obtain ⟨m_, FS_, -, hokD, -⟩ := dk_open hs
    refine wp_boxO hs fun a0 w' hs => ?_
    refine wp_lt ?_
    refine wp_ifF ?_ (by simp)
    refine wp_mid (fun q w' => q = (false, ()) ∧ Sat w' (dk d D :: pt a0 (.cells #[.int .i64 seg, .int .i64 gap] T.seglog_Config) :: r)) ?_ ?_
    · refine wp_call (prefix_l pre hs) fun _ w' hs => ?_
      obtain ⟨rfl, hs⟩ := hs
      refine ret_of ?_
      refine wp_ldG hs ?_
      refine wp_ifF ?_ (by rw [hp]; simp)
      refine wp_call (lmay_c seg gap hs) fun _ w' hs => ?_
      obtain ⟨rfl, hs⟩ := hs
      refine ret_of ?_
      refine wp_lt ?_
      refine wp_lv ⟨?_, hs.sub⟩
      have : ((64 ≤ seg ∧ seg ≤ 4194304) ∧ (1 ≤ gap ∧ gap ≤ 4194304)) := hc
      rw [decide_eq_true this]
      rfl
    rintro _ w2 ⟨rfl, hs⟩
    refine wp_ifF ?_ (by simp)
    refine wp_call (gone_c (d := d) hs) fun _ w' hs => ?_
    obtain ⟨rfl, hs⟩ := hs
    refine ret_of ?_
    refine wp_lt ?_
    refine wp_ifF ?_ (by rw [hg]; simp)
    refine wp_ldG hs ?_
    refine wp_boxO hs fun lg w' hs => ?_
    have hokm : okM gap seg pre := ⟨hc.2, hc.1, hp⟩
    have hs : Sat w' (lgQ lg ⟨d, pre, seg, gap, ⟨none, 0, 0⟩, []⟩ :: dk d D :: r) := by
      refine lgQ_close ⟨d, pre, seg, gap, ⟨none, 0, 0⟩, []⟩ hokm ?_
      have h1 : Sat w' (HP.all (([] : List (Nat × SegM)).map fun t => segP gap t.1 t.2) :: pt lg (.cells #[.pointer (some ⟨d, 0, none⟩), .string pre, .int .i64 seg, .int .i64 gap, .slice none 0 0] T.seglog_Log) :: dk d D :: r) := by
        have hs : Sat w' (pt lg (.cells #[.pointer (some ⟨d, 0, none⟩), .string pre, .int .i64 seg, .int .i64 gap, .slice none 0 0] T.seglog_Log) :: dk d D :: r) := hs.sub
        exact Sat.all_nil hs
      have h2 : Sat w' (slc T.p_seglog_segment 1 ⟨none, 0, 0⟩ (((([] : List (Nat × SegM))).map Prod.fst).flatMap encP) :: _) := h1.slc_nil
      exact h2.pick [2]
    unfold lopenA
    refine wp_call (files_c (lg := lg) (M := ⟨d, pre, seg, gap, ⟨none, 0, 0⟩, []⟩) (D := D) hs) fun _ w' hs => ?_
    have hnl : (filesL pre (namesF (dashN pre) D.fs) D).2.1.length ≤ 128 := by
      refine Nat.le_trans filesL_len ?_
      unfold namesF
      exact Nat.le_trans (List.length_filter_le _ _) (by rw [List.length_map]; exact hokD.many)
    have hlt := filesL_lt (pre := pre) (ns := namesF (dashN pre) D.fs) (D := D)
    rcases hs with ⟨he, rfl, hs⟩ | ⟨he, x, rfl, hs⟩
    · have he : (filesL pre (namesF (dashN pre) D.fs) D).1 ≠ 0 := he
      refine ret_of ?_
      refine wp_lt ?_
      refine wp_ifT ?_ he
      refine wp_lt ?_
      rw [if_pos he]
      exact ⟨rfl, .inl ⟨he, rfl, hs.tail⟩⟩
    have he : (filesL pre (namesF (dashN pre) D.fs) D).1 = 0 := he
    refine ⟨(x, 0, ()), rfl, trivial, wp_u2 _ _ ?_⟩
    refine wp_lt ?_
    refine wp_ifF ?_ (by simp)
    rw [if_neg (by rw [he]; simp)]
    have hs : Sat w' (slc T.int64 1 x ((filesL pre (namesF (dashN pre) D.fs) D).2.1.flatMap encI) :: lgQ lg ⟨d, pre, seg, gap, ⟨none, 0, 0⟩, []⟩ :: dk d (filesL pre (namesF (dashN pre) D.fs) D).2.2 :: r) := hs
    generalize (filesL pre (namesF (dashN pre) D.fs) D).2.2 = D1 at *
    generalize (filesL pre (namesF (dashN pre) D.fs) D).2.1 = bs at *
    have hl := hs.slen x (xs := bs) (enc := encI)
    have hcap := hs.slc_cap
    refine wp_mid (fun q w' => ∃ M : LogM, q = ((openS pre bs [] D1).1, ()) ∧ (M.d = d ∧ M.pre = pre ∧ M.seg = seg ∧ M.gap = gap) ∧ M.l = (openS pre bs [] D1).2.1 ∧ Sat w' (lgQ lg M :: dk d (openS pre bs [] D1).2.2 :: r)) ?_ ?_
    rotate_left
    · rintro _ w3 ⟨M, rfl, ⟨rfl, rfl, rfl, rfl⟩, h2, hs⟩
      refine wp_if (fun h => ?_) fun h => ?_
      · refine wp_lt ?_
        exact ⟨rfl, .inl ⟨h, rfl, hs.tail⟩⟩
      · have h : (openS M.pre bs [] D1).1 = 0 := Decidable.not_not.1 h
        refine ⟨rfl, .inr ⟨h, lg, rfl, ?_⟩⟩
        have := lgP_close M hs
        have e : M.A = ⟨M.d, M.pre, M.seg, M.gap, (openS M.pre bs [] D1).2.1⟩ := by rw [← h2]; rfl
        rw [← e]
        exact this
    refine wp_loop (fun m v w => ∃ (i : Nat) (M : LogM) (D' : DiskA), v = ((0 : Int), ((i : Int), ())) ∧ i ≤ bs.length ∧ bs.length - i = m ∧ M.SM.length ≤ i ∧ openS pre bs [] D1 = openS pre (bs.drop i) M.l D' ∧ (M.d = d ∧ M.pre = pre ∧ M.seg = seg ∧ M.gap = gap) ∧
      Sat w (slc T.int64 1 x (bs.flatMap encI) :: lgQ lg M :: dk d D' :: r)) bs.length ⟨0, ⟨d, pre, seg, gap, ⟨none, 0, 0⟩, []⟩, D1, rfl, by omega, rfl, by simp, rfl, ⟨rfl, rfl, rfl, rfl⟩, hs⟩ ?_
    clear hs
    rintro m _ w ⟨i, M, D', rfl, hi, hm, hsm, hq, ⟨rfl, rfl, rfl, rfl⟩, hsn⟩
    have hs := hsn
    refine wp_on ?_
    refine wp_if (fun hcc => ?_) fun hcc => ?_
    rotate_left
    · have e : bs.drop i = [] := List.drop_eq_nil_of_le (by omega)
      rw [e] at hq
      have hq : openS M.pre bs [] D1 = (0, M.l, D') := hq
      rw [hq]
      exact wp_pass (wp_lv ⟨M, rfl, ⟨rfl, rfl, rfl, rfl⟩, rfl, hs.sub⟩)
    have hil : i < bs.length := by omega
    rw [List.drop_eq_getElem_cons hil] at hq
    have hbb := hlt bs[i] (List.getElem_mem hil)
    have hun : openS M.pre (bs[i] :: bs.drop (i + 1)) M.l D' = if bs[i] < nextL M.l then (if (remA D' (nameS M.pre bs[i] logX)).1 ≠ 0 then ((remA D' (nameS M.pre bs[i] logX)).1, M.l, (remA D' (nameS M.pre bs[i] logX)).2) else openS M.pre (bs.drop (i + 1)) M.l (remA D' (nameS M.pre bs[i] logX)).2) else
      if (scanA M.pre M.l D' bs[i]).1.2 ≠ 0 then ((scanA M.pre M.l D' bs[i]).1.2, (scanA M.pre M.l D' bs[i]).2) else
      if (scanA M.pre M.l D' bs[i]).1.1 = true then openS M.pre (bs.drop (i + 1)) (scanA M.pre M.l D' bs[i]).2.1 (scanA M.pre M.l D' bs[i]).2.2 else ((dropL M.pre (bs.drop (i + 1)) (scanA M.pre M.l D' bs[i]).2.2).1, (scanA M.pre M.l D' bs[i]).2.1, (dropL M.pre (bs.drop (i + 1)) (scanA M.pre M.l D' bs[i]).2.2).2) := rfl
    have ei : IntKind.wrap .i64 ((i : Int) + 1) = ((i + 1 : Nat) : Int) := by rw [w64 (by omega) (by omega)]; omega
    refine wp_mid (fun q w' => ∃ (M2 : LogM) (D2 : DiskA), q = ((0 : Int), ()) ∧ M2.SM.length ≤ i + 1 ∧ openS M.pre bs [] D1 = openS M.pre (bs.drop (i + 1)) M2.l D2 ∧ (M2.d = M.d ∧ M2.pre = M.pre ∧ M2.seg = M.seg ∧ M2.gap = M.gap) ∧
      Sat w' (slc T.int64 1 x (bs.flatMap encI) :: lgQ lg M2 :: dk M.d D2 :: r)) ?_ ?_
    rotate_left
    · rintro _ w3 ⟨M2, D2, rfl, h1, h2, h3, hs⟩
      rw [ei]
      exact wp_lp (bs.length - (i + 1)) ⟨i + 1, M2, D2, rfl, by omega, rfl, h1, h2, h3, hs⟩
    refine wp_ix1 hs (xs := bs) (enc := encI) i hil ?_
    refine wp_lt ?_
    refine wp_lt ?_
    refine wp_call (lnext_c (lg := lg) (by omega) hs) fun _ w' hs => ?_
    obtain ⟨rfl, hs⟩ := hs
    refine ret_of ?_
    refine wp_if (fun h1 => ?_) fun h1 => ?_
    · rw [if_pos h1] at hun
      obtain ⟨hokm, hs⟩ := lgQ_cell hs
      refine wp_call (name_c0 (lg := lg) bs[i] hbb (ByteArray.mk #[46, 108, 111, 103]) (by decide) M.pre hokm.size hs) fun _ w' hs => ?_
      obtain ⟨rfl, hs⟩ := hs
      refine ret_of ?_
      refine wp_call (remove_c (d := M.d) (A := D') (nameS M.pre bs[i] (bl (ByteArray.mk #[46, 108, 111, 103]))) hs) fun _ w' hs => ?_
      obtain ⟨rfl, hs⟩ := hs
      refine ret_of ?_
      refine wp_lt ?_
      have en : nameS M.pre bs[i] (bl (ByteArray.mk #[46, 108, 111, 103])) = nameS M.pre bs[i] logX := rfl
      rw [en] at hs ⊢
      have hs := lgQ_uncell M hokm (hs.pick [1, 1])
      refine wp_if (fun h2 => ?_) fun h2 => ?_
      · rw [if_pos h2] at hun
        rw [hun] at hq
        rw [hq]
        exact wp_pass (wp_pass (wp_lv ⟨M, rfl, ⟨rfl, rfl, rfl, rfl⟩, rfl, hs.sub⟩))
      · rw [if_neg h2] at hun
        rw [hun] at hq
        have h2 := Decidable.not_not.1 h2
        rw [h2]
        exact wp_lv ⟨M, _, rfl, by omega, hq, ⟨rfl, rfl, rfl, rfl⟩, hs.sub⟩
    · rw [if_neg h1] at hun
      refine wp_call (scan_c (lg := lg) (D := D') bs[i] hbb (by omega) hs) fun _ w' hs => ?_
      obtain ⟨rfl, M2, ⟨e1, e2, e3, e4⟩, hMl, hMs, hs⟩ := hs
      refine ret_of ?_
      refine wp_lt ?_
      refine wp_lt ?_
      have hs : Sat w' (lgQ lg M2 :: dk M.d (scanA M.pre M.l D' bs[i]).2.2 :: slc T.int64 1 x (bs.flatMap encI) :: r) := hs
      generalize scanA M.pre M.l D' bs[i] = SC at *
      obtain ⟨⟨b0, e0⟩, l0, D0⟩ := SC
      dsimp only at hun hMl hs ⊢
      refine wp_if (fun h2 => ?_) fun h2 => ?_
      · obtain ⟨h2a, h2b⟩ := h2
        have h2a : e0 = 0 := h2a
        have h2b : b0 = false := by simpa using h2b
        rw [if_neg (by rw [h2a]; simp), if_neg (by rw [h2b]; simp)] at hun
        rw [ei]
        refine wp_must (by omega) ?_
        rw [Int.toNat_natCast]
        rw [← e1] at hs
        have hx : FocR (slc T.int64 1 x (bs.flatMap encI) :: r) ⟨cutA x.a 1 (i + 1) x.cap, x.len - (i + 1), x.cap - (i + 1)⟩ 1 ((bs.drop (i + 1)).flatMap encI) := FocR.post hcap
        refine wp_call (drop_c6 (lg := lg) (M := M2) (D := D0) ⟨cutA x.a 1 (i + 1) x.cap, x.len - (i + 1), x.cap - (i + 1)⟩ (bs.drop (i + 1)) (fun b hb => hlt b (List.mem_of_mem_drop hb)) hx (by rw [List.length_drop]; omega) hs) fun _ w' hs => ?_
        obtain ⟨rfl, hs⟩ := hs
        refine ret_of ?_
        refine wp_lt ?_
        rw [e2, e1] at hs
        rw [e2]
        rw [hun] at hq
        rw [hq]
        refine wp_pass (wp_pass (wp_lv ⟨M2, rfl, ⟨e1, e2, e3, e4⟩, hMl, hs.sub⟩))
      · refine wp_if (fun h3 => ?_) fun h3 => ?_
        · rw [if_pos h3] at hun
          rw [hun] at hq
          rw [hq]
          refine wp_pass (wp_pass (wp_lv ⟨M2, rfl, ⟨e1, e2, e3, e4⟩, hMl, hs.sub⟩))
        · have h3 : e0 = 0 := Decidable.not_not.1 h3
          have h4 : b0 = true := by
            cases hb0 : b0 with
            | true => rfl
            | false => exact absurd ⟨h3, by rw [hb0]; simp⟩ h2
          rw [if_neg (by rw [h3]; simp), if_pos h4, ← hMl] at hun
          rw [hun] at hq
          rw [h3]
          exact wp_lv ⟨M2, D0, rfl, by omega, hq, ⟨e1, e2, e3, e4⟩, hs.sub⟩
end
end Go.Dec
namespace Go.Dec
set_option linter.unusedVariables false
set_option linter.unusedSimpArgs false
theorem placeL_bs : ∀ {bs : List BatM} {n : Int}, 0 ≤ n → (placeL n bs).1 = 0 → BsOk n ((placeL n bs).2.map BatM.p) ∧ (∀ b ∈ (placeL n bs).2, n ≤ b.base)
  | [], n, _, _ => ⟨trivial, fun _ h => by cases h⟩
  | b :: bs, n, hn, h => by
    unfold placeL at h ⊢
    by_cases h1 : validB (b.to n) ≠ 0
    · rw [if_pos h1] at h; exact absurd h h1
    rw [if_neg h1] at h ⊢
    by_cases h2 : (placeL (n + spanB b) bs).1 ≠ 0
    · rw [if_pos h2] at h; exact absurd h h2
    rw [if_neg h2]
    have hv := Decidable.not_not.1 h1
    obtain ⟨s1, -, -, -, -⟩ := span_le _ hv
    have s1 : 1 ≤ spanB b := s1
    obtain ⟨i1, i2⟩ := placeL_bs (n := n + spanB b) (by omega) (Decidable.not_not.1 h2)
    refine ⟨⟨hv, rfl, Int.le_refl _, i1⟩, fun c hc => ?_⟩
    rcases List.mem_cons.1 hc with rfl | hc
    · exact Int.le_refl _
    · have := i2 c hc; omega
theorem BsOk.append : ∀ {n : Int} {cs bs : List BatM}, 0 ≤ n → BsOk n cs → BsOk (max n (nextG cs)) bs → BsOk n (cs ++ bs)
  | n, [], bs, hn, _, h2 => h2.mono (by show n ≤ max n 0; omega)
  | n, a :: cs, bs, hn, ⟨h1, h2, h3, h4⟩, hb => by
    obtain ⟨s1, -, ⟨-, hba, -⟩, -, -⟩ := span_le a h1
    refine ⟨h1, h2, h3, h4.append (by omega) (hb.mono ?_)⟩
    have h5 : a.base + spanB a ≤ nextG (a :: cs) := BsOk.le_next (n := n) (bs := a :: cs) ⟨h1, h2, h3, h4⟩ (List.mem_cons_self ..)
    have h6 : nextG cs ≤ nextG (a :: cs) := by
      cases cs with
      | nil => show (0 : Int) ≤ _; omega
      | cons c ds => exact Int.le_refl _
    omega
theorem SegsOk.mono {m n : Int} {l : List SegA} (h : SegsOk n l) (hm : m ≤ n) : SegsOk m l := by
  cases l with
  | nil => trivial
  | cons s l => exact ⟨by have := h.1; omega, h.2.1, h.2.2⟩
theorem nextL_snoc (l : List SegA) (s : SegA) : nextL (l ++ [s]) = s.reach := by unfold nextL; rw [getLast_snoc]
theorem addLast_snoc (l : List SegA) (s : SegA) (bs : List BatM) : addLast (l ++ [s]) bs = l ++ [s.add bs] := by unfold addLast; rw [getLast_snoc]; simp
/-- A list of segments, one behind the others. -/
theorem SegsOk.snoc : ∀ {n : Int} {l : List SegA} {s : SegA}, SegsOk n l → SegOk s → n ≤ s.base → (∀ t ∈ l, t.reach ≤ s.base ∧ t.base < s.base) → SegsOk n (l ++ [s])
  | n, [], s, _, hs, hn, _ => ⟨hn, hs, trivial⟩
  | n, a :: l, s, ⟨h1, h2, h3⟩, hs, hn, ht => by
    have := ht a (List.mem_cons_self ..)
    exact ⟨h1, h2, h3.snoc hs (by omega) fun t h => ht t (List.mem_cons_of_mem _ h)⟩
theorem SegsOk.front : ∀ {n : Int} {l : List SegA} {s : SegA}, SegsOk n (l ++ [s]) → SegsOk n l ∧ SegOk s ∧ n ≤ s.base ∧ ∀ t ∈ l, t.reach ≤ s.base ∧ t.base < s.base
  | n, [], s, h => ⟨trivial, h.2.1, h.1, fun _ h => by cases h⟩
  | n, a :: l, s, ⟨h1, h2, h3⟩ => by
    obtain ⟨i1, i2, i3, i4⟩ := h3.front
    have := (reach_le h2).1
    refine ⟨⟨h1, h2, i1⟩, i2, by omega, fun t ht => ?_⟩
    rcases List.mem_cons.1 ht with rfl | ht
    · omega
    · exact i4 t ht
theorem add_reach {s : SegA} (hs : SegOk s) {bs : List BatM} {n : Int} (h : (placeL n bs).1 = 0) (hn : n = s.reach) : SegOk (s.add (placeL n bs).2) := by
  have hr := reach_le hs
  have hb := hs.base
  refine ⟨hs.base, hs.fin, ?_⟩
  subst hn
  have hm : max s.base (nextG s.bs) ≤ s.reach := by omega
  exact hs.bs.append hb.1 ((placeL_bs (by omega) h).1.mono hm)
theorem place_valid {bs : List BatM} {n : Int} (h : (placeL n bs).1 = 0) (hb : bs ≠ []) : 0 ≤ n ∧ n ≤ 1099511627776 := by
  cases bs with
  | nil => exact absurd rfl hb
  | cons b bs =>
    unfold placeL at h
    by_cases h1 : validB (b.to n) ≠ 0
    · rw [if_pos h1] at h; exact absurd h h1
    · obtain ⟨-, -, ⟨-, hba, -⟩, -, -⟩ := span_le _ (Decidable.not_not.1 h1)
      exact hba
/-- What a log comes to where batches are appended; no disk. -/
def rappA (seg : Int) (l : List SegA) (bs : List BatM) : (Int × Int) × List SegA :=
  if bs = [] then ((0, 3), l) else if (placeL (nextL l) bs).1 ≠ 0 then ((0, (placeL (nextL l) bs).1), l) else
  ((nextL l, 0), if roomy seg l ((placeL (nextL l) bs).2.flatMap frL).length then addLast l (placeL (nextL l) bs).2 else l ++ [(⟨nextL l, 0, []⟩ : SegA).add (placeL (nextL l) bs).2])
theorem rapp_segs {seg : Int} {l : List SegA} {bs : List BatM} (h : SegsOk 0 l) : SegsOk 0 (rappA seg l bs).2 := by
  unfold rappA
  split
  · exact h
  rename_i hb
  split
  · exact h
  rename_i hp
  have hp := Decidable.not_not.1 hp
  have hv := place_valid hp hb
  simp only
  split
  · rename_i hr
    have hne : l ≠ [] := by rintro rfl; cases hr
    obtain ⟨l0, s, rfl⟩ := snoc_of hne
    rw [addLast_snoc]
    obtain ⟨h1, h2, h3, h4⟩ := h.front
    exact h1.snoc (add_reach h2 hp (nextL_snoc _ _)) h3 h4
  · rename_i hr
    have hs : SegOk ((⟨nextL l, 0, []⟩ : SegA).add (placeL (nextL l) bs).2) := by
      refine ⟨hv, .inl rfl, ?_⟩
      show BsOk _ ([] ++ _)
      rw [List.nil_append]
      exact (placeL_bs hv.1 hp).1
    refine h.snoc hs hv.1 fun t ht => ?_
    show t.reach ≤ nextL l ∧ t.base < nextL l
    have hne : l ≠ [] := List.ne_nil_of_mem ht
    obtain ⟨l0, s, rfl⟩ := snoc_of hne
    obtain ⟨h1, h2, h3, h4⟩ := h.front
    rw [nextL_snoc]
    have hsr := reach_le h2
    -- the last one has a batch
    have hlast : s.base < s.reach := by
      have hr2 : roomy seg (l0 ++ [s]) ((placeL (nextL (l0 ++ [s])) bs).2.flatMap frL).length = false := by simpa using hr
      unfold roomy at hr2
      rw [getLast_snoc] at hr2
      simp only [Bool.or_eq_false_iff, decide_eq_false_iff_not] at hr2
      have hbs : s.bs ≠ [] := by rintro hbs; rw [hbs] at hr2; exact hr2.1 rfl
      have := hsr.2.2.2.2 hbs
      omega
    rcases List.mem_append.1 ht with ht | ht
    · have := h4 t ht; omega
    · simp only [List.mem_cons, List.not_mem_nil, or_false] at ht
      subst ht
      exact ⟨Int.le_refl _, hlast⟩
/-- Append: as without a disk, or it is refused. -/
theorem lapp_cases (pre : ByteArray) (seg : Int) (l : List SegA) (D : DiskA) (bs : List BatM) : ((lappA pre seg l D bs).1 = (rappA seg l bs).1 ∧ (lappA pre seg l D bs).2.1 = (rappA seg l bs).2) ∨ ((lappA pre seg l D bs).1.1 = 0 ∧ (lappA pre seg l D bs).1.2 ≠ 0 ∧ (lappA pre seg l D bs).2.1 = l ∧ (rappA seg l bs).1.2 = 0) := by
  unfold lappA rappA
  split
  · exact .inl ⟨rfl, rfl⟩
  split
  · exact .inl ⟨rfl, rfl⟩
  split
  · split
    · rename_i h; exact .inr ⟨rfl, h, rfl, rfl⟩
    · exact .inl ⟨rfl, rfl⟩
  · split
    · rename_i h; exact .inr ⟨rfl, h, rfl, rfl⟩
    split
    · rename_i h; exact .inr ⟨rfl, h, rfl, rfl⟩
    · exact .inl ⟨rfl, rfl⟩
theorem lapp_segs {pre : ByteArray} {seg : Int} {l : List SegA} {D : DiskA} {bs : List BatM} (h : SegsOk 0 l) : SegsOk 0 (lappA pre seg l D bs).2.1 := by
  rcases lapp_cases pre seg l D bs with ⟨-, h2⟩ | ⟨-, -, h2, -⟩
  · rw [h2]; exact rapp_segs h
  · rw [h2]; exact h
section
variable {w : World} {l r : List HP} {d : Nat} {D : DiskA}
/-- A file that is there, read. -/
theorem read_f (n : ByteArray) (p : List UInt8 × Nat) (hfd : fileD D.fs n = some p) [hf : Fo l dk d D r] (hs : Sat w l) : Ret P F.disk_Disk_Read #[.pointer (some ⟨d, 0, none⟩), .string n] w fun vs w' => ∃ z : Sl, vs = [z.v, .int .i64 0] ∧ Sat w' (slc T.uint8 1 z (p.1.flatMap encU) :: dk d D :: r) := by
  obtain ⟨m_, FS_, -, hokD, -⟩ := dk_open (hs.perm hf.perm)
  refine (read_c (d := d) (A := D) n hs).mono fun vs w' h => ?_
  rcases h with ⟨f, hff, hfn, x, rfl, hs⟩ | ⟨hno, rfl, hs⟩
  · have hfd2 : fileD D.fs f.name = some (f.b, f.kept) := fileD_mem (names_nodup hokD.sorted) hff
    rw [hfn, hfd] at hfd2
    simp only [Option.some.injEq] at hfd2
    rw [hfd2]
    exact ⟨x, rfl, hs⟩
  · rw [fileD_none.2 hno] at hfd; cases hfd
end
end Go.Dec
namespace Go.Dec
set_option linter.unusedVariables false
set_option linter.unusedSimpArgs false
def oneB (key value : ByteArray) (x : Sl) : BatM := ⟨0, 0, 0, 0, 0, 0, x, [⟨key, value, false, 0⟩]⟩
def aP : ByteArray := ByteArray.mk #[112]
def aD0 : DiskA := ⟨1000, -1, false, []⟩
def aB : BatM := oneB (ByteArray.mk #[97]) (ByteArray.mk #[120]) noSl
def aS1 : (Int × Int) × List SegA × DiskA := lappA aP 64 [] aD0 [aB]
def aS2 : (Int × Int) × List SegA × DiskA := lappA aP 64 aS1.2.1 aS1.2.2 [aB]
def aS3 : (Int × Int) × List SegA × DiskA := lappA aP 64 aS2.2.1 aS2.2.2 [aB]
theorem place_p : ∀ (bs : List BatM) (n : Int), (placeL n (bs.map BatM.p)).1 = (placeL n bs).1 ∧ (placeL n (bs.map BatM.p)).2.map BatM.p = (placeL n bs).2.map BatM.p
  | [], n => ⟨rfl, rfl⟩
  | b :: bs, n => by
    rw [List.map_cons]
    unfold placeL
    have e1 : validB (b.p.to n) = validB (b.to n) := rfl
    have e2 : spanB b.p = spanB b := rfl
    obtain ⟨i1, i2⟩ := place_p bs (n + spanB b)
    rw [e1, e2, i1]
    split
    · exact ⟨rfl, rfl⟩
    split
    · exact ⟨rfl, rfl⟩
    · exact ⟨rfl, by rw [List.map_cons, List.map_cons, i2]; rfl⟩
theorem flat_eq_p {a b : List BatM} (h : a.map BatM.p = b.map BatM.p) : a.flatMap frL = b.flatMap frL := by
  rw [← flat_p a, h, flat_p]
theorem add_p {a b : List BatM} (h : a.map BatM.p = b.map BatM.p) (s : SegA) : s.add a = s.add b := by unfold SegA.add; rw [h]
theorem addLast_p {a b : List BatM} (h : a.map BatM.p = b.map BatM.p) (l : List SegA) : addLast l a = addLast l b := by
  unfold addLast
  split
  · rfl
  · rw [add_p h]
/-- What is appended does not hang on where the batches' records stand. -/
theorem lapp_p (pre : ByteArray) (seg : Int) (l : List SegA) (D : DiskA) (bs : List BatM) : lappA pre seg l D (bs.map BatM.p) = lappA pre seg l D bs := by
  obtain ⟨h1, h2⟩ := place_p bs (nextL l)
  unfold lappA
  rw [h1, flat_eq_p h2, addLast_p h2, add_p h2]
  by_cases hb : bs = []
  · subst hb; rfl
  · rw [if_neg hb, if_neg (by intro h; exact hb (List.map_eq_nil_iff.1 h))]
theorem aw_open : lopenA aP aD0 = (0, [], aD0) := by kernel_rfl
theorem aw_1 : aS1.1 = (0, 0) := by kernel_rfl
theorem aw_2 : aS2.1 = (1, 0) := by kernel_rfl
theorem aw_3 : aS3.1 = (2, 0) := by kernel_rfl
theorem aw_segs : aS3.2.1.map SegA.base = [0, 2] := by kernel_rfl
theorem aw_l1 : aS1.2.1.length = 1 ∧ aS1.2.1.map (fun s => s.file.length) = [32] := by constructor <;> kernel_rfl
theorem aw_l2 : aS2.2.1.length = 1 ∧ aS2.2.1.map (fun s => s.file.length) = [53] := by constructor <;> kernel_rfl
theorem aw_l3 : aS3.2.1.length = 2 := by kernel_rfl
theorem aw_file : (fileD aS3.2.2.fs (ByteArray.mk #[112, 45, 48, 48, 48, 48, 48, 48, 48, 48, 48, 48, 48, 46, 108, 111, 103])).map (fun p => (p.1.length, p.1[0]?, p.1[4]?)) = some (53, some 3, some 83) := by kernel_rfl
end Go.Dec
namespace Go.Dec
set_option linter.unusedVariables false
set_option linter.unusedSimpArgs false
section
variable {w : World} {l r : List HP} {lg d : Nat} {D : DiskA} {A : LogA}
theorem one_c (k v : ByteArray) (hs : Sat w l) : Ret P F.towpathlaw06_one #[.string k, .string v] w fun vs w' => ∃ x : Sl, vs = [.agg (encB7 (oneB k v x)).toArray] ∧ Sat w' (slc T.api_Record 4 x ((oneB k v x).rs.flatMap encR) :: l) :=
  towpathlaw06_one_calls k v <| by
    unfold towpathlaw06_one
    refine wp_newO hs fun a0 w' hs => ?_
    refine wp_lits hs (enc := encR) [(⟨k, v, false, 0⟩ : RecM)] fun x w' hs => ?_
    refine wp_stG hs fun w' hs => ?_
    refine wp_ldG hs ?_
    refine ⟨rfl, x, rfl, ?_⟩
    have hs : Sat w' (pt a0 _ :: slc T.api_Record 4 x ((oneB k v x).rs.flatMap encR) :: l) := hs
    exact hs.tail
/-- A log's Append of one batch. -/
theorem app1_c (b : BatM) (x : Sl) {r1 : List HP} [hf : Fo l lgP lg A r1] [hf2 : Fo r1 dk A.d D r] (hlen : A.l.length ≤ 1000000) (hok : SegsOk 0 A.l) (hfl : ∀ s ∈ A.l, s.file.length ≤ 500000000)
    (hx : FocR r x 7 ([b].flatMap encB7)) (hb : FocR r b.x 4 (b.rs.flatMap encR)) (hs : Sat w l) :
    Ret P F.seglog_Log_Append #[.pointer (some ⟨lg, 0, none⟩), x.v] w fun vs w' => vs = [.int .i64 (lappA A.pre A.seg A.l D [b]).1.1, .int .i64 (lappA A.pre A.seg A.l D [b]).1.2] ∧
      Sat w' (lgP lg (A.set (lappA A.pre A.seg A.l D [b]).2.1) :: dk A.d (lappA A.pre A.seg A.l D [b]).2.2 :: r) :=
  lappend_c x [b] hlen hok hfl (by show 1 ≤ 900; omega) hx (fun c hc => by
    simp only [List.mem_cons, List.not_mem_nil, or_false] at hc
    subst hc
    exact hb) hs
theorem files_le {l : List SegA} {n : Nat} {ns : List Nat} (h : l.map (fun s => s.file.length) = ns) (hn : ∀ x ∈ ns, x ≤ n) : ∀ s ∈ l, s.file.length ≤ n := fun s hs => hn _ (by rw [← h]; exact List.mem_map.2 ⟨s, hs, rfl⟩)
set_option maxHeartbeats 1000000 in
theorem awake6_c (hs : Sat w l) : Ret P F.towpathlaw06_awake #[] w fun vs w' => vs = [.bool true] ∧ Sat w' l :=
  towpathlaw06_awake_calls <| by
    unfold towpathlaw06_awake
    refine wp_call (new_ok 1000 (by omega) hs) fun _ w' hs => ?_
    obtain ⟨d, rfl, hs⟩ := hs
    refine ⟨(some ⟨d, 0, none⟩, 0, ()), rfl, trivial, wp_u2 _ _ ?_⟩
    refine wp_lt ?_
    have hs : Sat w' (dk d aD0 :: l) := hs
    refine wp_call (lopen_c (d := d) (D := aD0) aP 64 1 (by kernel_rfl) ⟨by decide, by decide⟩ rfl hs) fun _ w' hs => ?_
    rw [aw_open] at hs
    rcases hs with ⟨he, -, -⟩ | ⟨-, lg, rfl, hs⟩
    · exact absurd rfl he
    refine ⟨(some ⟨lg, 0, none⟩, 0, ()), rfl, trivial, wp_u2 _ _ ?_⟩
    refine wp_lt ?_
    refine wp_ifF ?_ (by simp)
    have hs : Sat w' (lgP lg ⟨d, aP, 64, 1, []⟩ :: dk d aD0 :: l) := hs
    have step : ∀ {w : World} {L : List SegA} {DD : DiskA} {X : List HP} (y x : Sl), Sat w (slc T.api_Batch 7 x ([oneB (ByteArray.mk #[97]) (ByteArray.mk #[120]) y].flatMap encB7) :: slc T.api_Record 4 y ((oneB (ByteArray.mk #[97]) (ByteArray.mk #[120]) y).rs.flatMap encR) :: lgP lg ⟨d, aP, 64, 1, L⟩ :: dk d DD :: l) → L.length ≤ 1000000 → SegsOk 0 L → (∀ s ∈ L, s.file.length ≤ 500000000) →
        Ret P F.seglog_Log_Append #[.pointer (some ⟨lg, 0, none⟩), x.v] w fun vs w' => vs = [.int .i64 (lappA aP 64 L DD [aB]).1.1, .int .i64 (lappA aP 64 L DD [aB]).1.2] ∧ Sat w' (lgP lg ⟨d, aP, 64, 1, (lappA aP 64 L DD [aB]).2.1⟩ :: dk d (lappA aP 64 L DD [aB]).2.2 :: l) := by
      intro w L DD X y x hs h1 h2 h3
      have h := app1_c (lg := lg) (A := ⟨d, aP, 64, 1, L⟩) (D := DD) (oneB (ByteArray.mk #[97]) (ByteArray.mk #[120]) y) x h1 h2 h3 inferInstance (FocR.tail (h := FocR.head) : FocR (slc T.api_Batch 7 x ([oneB (ByteArray.mk #[97]) (ByteArray.mk #[120]) y].flatMap encB7) :: slc T.api_Record 4 y ((oneB (ByteArray.mk #[97]) (ByteArray.mk #[120]) y).rs.flatMap encR) :: l) y 4 ((oneB (ByteArray.mk #[97]) (ByteArray.mk #[120]) y).rs.flatMap encR)) hs
      have e : lappA aP 64 L DD [oneB (ByteArray.mk #[97]) (ByteArray.mk #[120]) y] = lappA aP 64 L DD [aB] := by
        rw [← lapp_p, ← lapp_p aP 64 L DD [aB]]
        rfl
      refine h.mono fun vs w' ⟨hv, hs⟩ => ⟨?_, ?_⟩
      · rw [hv]
        show [Value.int .i64 (lappA aP 64 L DD [oneB (ByteArray.mk #[97]) (ByteArray.mk #[120]) y]).1.1, Value.int .i64 (lappA aP 64 L DD [oneB (ByteArray.mk #[97]) (ByteArray.mk #[120]) y]).1.2] = _
        rw [e]
      · have hs : Sat w' (lgP lg ⟨d, aP, 64, 1, (lappA aP 64 L DD [oneB (ByteArray.mk #[97]) (ByteArray.mk #[120]) y]).2.1⟩ :: dk d (lappA aP 64 L DD [oneB (ByteArray.mk #[97]) (ByteArray.mk #[120]) y]).2.2 :: slc T.api_Batch 7 x ([oneB (ByteArray.mk #[97]) (ByteArray.mk #[120]) y].flatMap encB7) :: slc T.api_Record 4 y ((oneB (ByteArray.mk #[97]) (ByteArray.mk #[120]) y).rs.flatMap encR) :: l) := hs
        rw [e] at hs
        exact hs.sub
    -- the first
    refine wp_call (one_c _ _ hs) fun _ w' hs => ?_
    obtain ⟨y1, rfl, hs⟩ := hs
    refine ⟨(0, 0, 0, 0, 0, 0, y1, ()), rfl, trivial, wp_u7 _ _ _ _ _ _ _ ?_⟩
    refine wp_lits hs (enc := encB7) [oneB (ByteArray.mk #[97]) (ByteArray.mk #[120]) y1] fun x1 w' hs => ?_
    refine wp_call (step (X := []) y1 x1 hs (by decide) trivial (fun s hs => by cases hs)) fun _ w' hs => ?_
    obtain ⟨hv, hs⟩ := hs
    have hv : _ = [Value.int .i64 aS1.1.1, Value.int .i64 aS1.1.2] := hv
    have hs : Sat w' (lgP lg ⟨d, aP, 64, 1, aS1.2.1⟩ :: dk d aS1.2.2 :: l) := hs
    have k1 : SegsOk 0 aS1.2.1 := lapp_segs trivial
    rw [aw_1] at hv
    subst hv
    refine ⟨(0, 0, ()), rfl, trivial, wp_u2 _ _ ?_⟩
    refine wp_lt ?_
    refine wp_lt ?_
    -- the second
    refine wp_call (one_c _ _ hs) fun _ w' hs => ?_
    obtain ⟨y2, rfl, hs⟩ := hs
    refine ⟨(0, 0, 0, 0, 0, 0, y2, ()), rfl, trivial, wp_u7 _ _ _ _ _ _ _ ?_⟩
    refine wp_lits hs (enc := encB7) [oneB (ByteArray.mk #[97]) (ByteArray.mk #[120]) y2] fun x2 w' hs => ?_
    refine wp_call (step (X := []) y2 x2 hs (by rw [aw_l1.1]; decide) k1 (files_le aw_l1.2 (by simp))) fun _ w' hs => ?_
    obtain ⟨hv, hs⟩ := hs
    have hv : _ = [Value.int .i64 aS2.1.1, Value.int .i64 aS2.1.2] := hv
    have hs : Sat w' (lgP lg ⟨d, aP, 64, 1, aS2.2.1⟩ :: dk d aS2.2.2 :: l) := hs
    have k2 : SegsOk 0 aS2.2.1 := lapp_segs k1
    rw [aw_2] at hv
    subst hv
    refine ⟨(1, 0, ()), rfl, trivial, wp_u2 _ _ ?_⟩
    refine wp_lt ?_
    refine wp_lt ?_
    -- the third
    refine wp_call (one_c _ _ hs) fun _ w' hs => ?_
    obtain ⟨y3, rfl, hs⟩ := hs
    refine ⟨(0, 0, 0, 0, 0, 0, y3, ()), rfl, trivial, wp_u7 _ _ _ _ _ _ _ ?_⟩
    refine wp_lits hs (enc := encB7) [oneB (ByteArray.mk #[97]) (ByteArray.mk #[120]) y3] fun x3 w' hs => ?_
    refine wp_call (step (X := []) y3 x3 hs (by rw [aw_l2.1]; decide) k2 (files_le aw_l2.2 (by simp))) fun _ w' hs => ?_
    obtain ⟨hv, hs⟩ := hs
    have hv : _ = [Value.int .i64 aS3.1.1, Value.int .i64 aS3.1.2] := hv
    have hs : Sat w' (lgP lg ⟨d, aP, 64, 1, aS3.2.1⟩ :: dk d aS3.2.2 :: l) := hs
    rw [aw_3] at hv
    subst hv
    refine ⟨(2, 0, ()), rfl, trivial, wp_u2 _ _ ?_⟩
    refine wp_lt ?_
    refine wp_lt ?_
    -- the segments, the file
    obtain ⟨M, hM, hs⟩ := lgP_open hs
    have hMl : M.l = aS3.2.1 := congrArg LogA.l hM
    have hMd : M.d = d := congrArg LogA.d hM
    refine wp_call (segments_c (lg := lg) (by have := aw_l3; rw [← hMl] at this; have h2 : M.l.length = M.SM.length := List.length_map ..; omega) hs) fun _ w' hs => ?_
    obtain ⟨z, rfl, hs⟩ := hs
    refine ret_of ?_
    rw [hMl, aw_segs] at hs
    have hlz := hs.slen z (xs := ([0, 2] : List Int)) (enc := encI)
    obtain ⟨p, hp, hpf⟩ : ∃ p, fileD aS3.2.2.fs (ByteArray.mk #[112, 45, 48, 48, 48, 48, 48, 48, 48, 48, 48, 48, 48, 46, 108, 111, 103]) = some p ∧ (p.1.length, p.1[0]?, p.1[4]?) = (53, some 3, some 83) := by
      have := aw_file
      rw [Option.map_eq_some_iff] at this
      exact this
    simp only [Prod.mk.injEq] at hpf
    obtain ⟨q1, q2, q3⟩ := hpf
    refine wp_call (read_f (d := d) (D := aS3.2.2) _ p hp hs) fun _ w' hs => ?_
    obtain ⟨u, rfl, hs⟩ := hs
    refine ⟨(u, 0, ()), rfl, trivial, wp_u2 _ _ ?_⟩
    refine wp_lt ?_
    have hlu := hs.slen u (xs := p.1) (enc := encU)
    have hq2 : (p.1[0]'(by omega)) = 3 := by
      rw [List.getElem?_eq_getElem (by omega)] at q2; exact Option.some.inj q2
    have hq3 : (p.1[4]'(by omega)) = 83 := by
      rw [List.getElem?_eq_getElem (by omega)] at q3; exact Option.some.inj q3
    refine wp_ix1k hs (xs := ([0, 2] : List Int)) (enc := encI) 1 (by decide) ?_
    refine wp_ix1k hs (xs := p.1) (enc := encU) 0 (by omega) ?_ (by omega)
    refine wp_ix1k hs (xs := p.1) (enc := encU) 4 (by omega) ?_
    refine wp_lt ?_
    refine ⟨rfl, ?_, hs.sub⟩
    rw [hq2, hq3, hlz, hlu, q1]
    rfl
theorem nil_append (x : Sl) (hs : Sat w l) : Ret P F.seglog_Log_Append #[.pointer none, x.v] w fun vs w' => vs = [.int .i64 0, .int .i64 1] ∧ Sat w' l :=
  seglog_Log_Append_calls _ x <| by
    unfold seglog_Log_Append
    refine wp_ifT ?_ (by rfl)
    exact ⟨rfl, rfl, hs⟩
theorem nil_trim (n : Int) (hs : Sat w l) : Ret P F.seglog_Log_Trim #[.pointer none, .int .i64 n] w fun vs w' => vs = [.int .i64 0, .int .i64 1] ∧ Sat w' l :=
  seglog_Log_Trim_calls _ n <| by
    unfold seglog_Log_Trim
    refine wp_ifT ?_ (by rfl)
    exact ⟨rfl, rfl, hs⟩
theorem nil_read (n m : Int) (hs : Sat w l) : Ret P F.seglog_Log_Read #[.pointer none, .int .i64 n, .int .i64 m] w fun vs w' => vs = [.slice none 0 0, .int .i64 1] ∧ Sat w' l :=
  seglog_Log_Read_calls _ n m <| by
    unfold seglog_Log_Read
    refine wp_boxO hs fun a0 w' hs => ?_
    refine wp_boxO hs fun a1 w' hs => ?_
    refine wp_boxO hs fun a2 w' hs => ?_
    refine wp_ldO hs ?_
    refine wp_lt ?_
    refine wp_ifT ?_ (by rfl)
    exact ⟨rfl, rfl, hs.sub⟩
theorem nil_after (n : Int) (hs : Sat w l) : Ret P F.seglog_Log_After #[.pointer none, .int .i64 n] w fun vs w' => vs = [.int .i64 0, .bool false] ∧ Sat w' l :=
  seglog_Log_After_calls _ n <| by
    unfold seglog_Log_After
    refine wp_ifT ?_ (by rfl)
    exact ⟨rfl, rfl, hs⟩
theorem nil_sync (hs : Sat w l) : Ret P F.seglog_Log_Sync #[.pointer none] w fun vs w' => vs = [.int .i64 1] ∧ Sat w' l :=
  seglog_Log_Sync_calls _ <| by
    unfold seglog_Log_Sync
    refine wp_ifT ?_ (by rfl)
    exact ⟨rfl, rfl, hs⟩
theorem nil_roll (hs : Sat w l) : Ret P F.seglog_Log_Roll #[.pointer none] w fun vs w' => vs = [.int .i64 1] ∧ Sat w' l :=
  seglog_Log_Roll_calls _ <| by
    unfold seglog_Log_Roll
    refine wp_ifT ?_ (by rfl)
    exact ⟨rfl, rfl, hs⟩
theorem nil_replace (n : Int) (x : Sl) (hs : Sat w l) : Ret P F.seglog_Log_Replace #[.pointer none, .int .i64 n, x.v] w fun vs w' => vs = [.int .i64 1] ∧ Sat w' l :=
  seglog_Log_Replace_calls _ n x <| by
    unfold seglog_Log_Replace
    refine wp_ifT ?_ (by rfl)
    exact ⟨rfl, rfl, hs⟩
theorem nil_all (hs : Sat w l) : Ret P F.seglog_Log_All #[.pointer none] w fun vs w' => vs = [.slice none 0 0] ∧ Sat w' l :=
  seglog_Log_All_calls _ <| by
    unfold seglog_Log_All
    refine wp_ifT ?_ (by rfl)
    exact ⟨rfl, rfl, hs⟩
theorem nil_first (hs : Sat w l) : Ret P F.seglog_Log_First #[.pointer none] w fun vs w' => vs = [.int .i64 0] ∧ Sat w' l :=
  seglog_Log_First_calls _ <| by
    unfold seglog_Log_First
    refine wp_gz ?_ (fun h => by cases h)
    refine ⟨(⟨none, 0, 0⟩, ()), (fun h => by cases h), ?_⟩
    refine wp_ifT ?_ (.inl rfl)
    exact ⟨rfl, rfl, hs⟩
theorem nil_next (hs : Sat w l) : Ret P F.seglog_Log_Next #[.pointer none] w fun vs w' => vs = [.int .i64 0] ∧ Sat w' l :=
  seglog_Log_Next_calls _ <| by
    unfold seglog_Log_Next
    refine wp_gz ?_ (fun h => by cases h)
    refine ⟨(⟨none, 0, 0⟩, ()), (fun h => by cases h), ?_⟩
    refine wp_ifT ?_ (.inl rfl)
    exact ⟨rfl, rfl, hs⟩
theorem nil_segments (hs : Sat w l) : Ret P F.seglog_Log_Segments #[.pointer none] w fun vs w' => vs = [.slice none 0 0] ∧ Sat w' l :=
  seglog_Log_Segments_calls _ <| by
    unfold seglog_Log_Segments
    refine wp_ifT ?_ (by rfl)
    exact ⟨rfl, rfl, hs⟩
theorem nil6_law (off most : Int) (hs : Sat w l) : Ret P F.towpathlaw06_SeglogNil #[.int .i64 off, .int .i64 most] w fun vs w' => vs = [.bool true] ∧ Sat w' l :=
  towpathlaw06_SeglogNil_calls off most <| by
    unfold towpathlaw06_SeglogNil
    refine wp_call (one_c _ _ hs) fun _ w' hs => ?_
    obtain ⟨y, rfl, hs⟩ := hs
    refine ⟨(0, 0, 0, 0, 0, 0, y, ()), rfl, trivial, wp_u7 _ _ _ _ _ _ _ ?_⟩
    refine wp_lits hs (enc := encB7) [oneB (ByteArray.mk #[97]) (ByteArray.mk #[98]) y] fun x w' hs => ?_
    replace hs : Sat w' l := hs.sub
    refine wp_call (nil_append x hs) fun _ _ hs => ?_
    obtain ⟨rfl, hs⟩ := hs
    refine ret_of ?_
    refine wp_lt ?_
    refine wp_lt ?_
    refine wp_call (nil_trim off hs) fun _ _ hs => ?_
    obtain ⟨rfl, hs⟩ := hs
    refine ret_of ?_
    refine wp_lt ?_
    refine wp_lt ?_
    refine wp_call (nil_read off most hs) fun _ _ hs => ?_
    obtain ⟨rfl, hs⟩ := hs
    refine ret_of ?_
    refine wp_lt ?_
    refine wp_call (nil_after off hs) fun _ _ hs => ?_
    obtain ⟨rfl, hs⟩ := hs
    refine ret_of ?_
    refine wp_lt ?_
    refine wp_lt ?_
    refine wp_mid (fun q w' => q = (true, ()) ∧ Sat w' l) ?_ ?_
    rotate_left
    · rintro _ w2 ⟨rfl, hs⟩
      exact ⟨rfl, rfl, hs⟩
    refine wp_ifT ?_ (by simp)
    refine wp_call (nil_sync hs) fun _ _ hs => ?_
    obtain ⟨rfl, hs⟩ := hs
    refine ret_of ?_
    refine wp_ifT ?_
    refine wp_call (nil_roll hs) fun _ _ hs => ?_
    obtain ⟨rfl, hs⟩ := hs
    refine ret_of ?_
    refine wp_ifT ?_
    refine wp_call (nil_replace off ⟨none, 0, 0⟩ hs) fun _ _ hs => ?_
    obtain ⟨rfl, hs⟩ := hs
    refine ret_of ?_
    refine wp_ifT ?_
    refine wp_call (nil_all hs) fun _ _ hs => ?_
    obtain ⟨rfl, hs⟩ := hs
    refine ret_of ?_
    refine wp_ifT ?_
    refine wp_call (nil_first hs) fun _ _ hs => ?_
    obtain ⟨rfl, hs⟩ := hs
    refine ret_of ?_
    refine wp_ifT ?_
    refine wp_call (nil_next hs) fun _ _ hs => ?_
    obtain ⟨rfl, hs⟩ := hs
    refine ret_of ?_
    refine wp_ifT ?_
    refine wp_call (nil_segments hs) fun _ _ hs => ?_
    obtain ⟨rfl, hs⟩ := hs
    refine ret_of ?_
    refine wp_ifT ?_
    refine wp_call (awake6_c hs) fun _ _ hs => ?_
    obtain ⟨rfl, hs⟩ := hs
    refine ret_of ?_
    refine wp_lt ?_
    exact wp_lv ⟨rfl, hs⟩
end
end Go.Dec
