/- maps.Values' iterator over a map of structs. -/
import Derived.Sort.MapsRangeIn
import Derived.Sort.KeysCollected
import Derived.RangeFuncNested
import Derived.RangeFuncBound
import Derived.RangeFuncCalls
import Derived.RangeFuncLeaves
import Derived.RangeFuncBox
import Derived.WalkKit
import Derived.OwnWalkIn
import Derived.TacticsInMore
import Derived.RegionIn
import Derived.LoopNIn
import Derived.LoopIn
import Derived.Maps.AppendAt
import Derived.Shelf.Abstract
import Derived.Test.YtcpmaccapgpgaaaGreatTypes
import Derived.Test.YtcpmaccapgpgaaaGreatFns0
import Derived.Test.YtcpmaccapgpgaaaGreatOpsZ
import Derived.Test.YtcpmaccapgpgaaaGreatS7
namespace Go.Dec
abbrev evW (t : RowA) : Value := .agg #[.int .i64 t.pid, .int .i64 t.epoch, .int .i64 t.seq, .int .i64 t.count, .int .i64 t.base, .int .i64 t.frm, .int .i64 t.time]
end Go.Dec
namespace Go.Proofs.YtcpmaccapgpgaaaGreat
open Go.RowKit Go.Maps Go.Sort Go.Proofs Go.Dec Go.ChangeMaps
set_option linter.unusedVariables false
set_option linter.unusedSimpArgs false

section
variable {K V : Type} {ek : K → Value} {ev : V → Value} {P : Program} {w : World} {F : Fence} {n : Nat} {ops : Array Oper} {rest : List Oper} {o : Oper} {a : Act} {Q : Exit → Act → World → Prop}
def MapAt (ek : K → Value) (ev : V → Value) (W : World) (b : Nat) (es : List (K × V)) : Prop := ∃ E c, MOk ek ev E c es ∧ W.heap[b]? = some (.map E c)
def ItAt (ek : K → Value) (ev : V → Value) (W : World) (r b : Nat) (es todo : List (K × V)) (last : Option (K × V)) : Prop :=
  ∃ E c since c0 seen, ItOk ek ev E c since c0 seen es todo last ∧ W.heap[r]? = some (.mapIter (some b) since seen c0) ∧ W.heap[b]? = some (.map E c)

theorem MapAt.grown {W W' : World} {b : Nat} {es : List (K × V)} (h : MapAt ek ev W b es) (hb : W'.heap[b]? = W.heap[b]?) : MapAt ek ev W' b es := by
  obtain ⟨E, c, h1, h2⟩ := h
  exact ⟨E, c, h1, hb.trans h2⟩
theorem ItAt.walks {W W' : World} {r b : Nat} {es todo : List (K × V)} {last : Option (K × V)} (h : ItAt ek ev W r b es todo last) (hk : KeepsWalks W W') : ItAt ek ev W' r b es todo last := by
  obtain ⟨E, c, since, c0, seen, h1, h2, h3⟩ := h
  exact ⟨E, c, since, c0, seen, h1, hk.same _ _ h2 rfl, hk.same _ _ h3 rfl⟩

theorem ItAt.left_eq {W : World} {r b : Nat} {es todo : List (K × V)} {last : Option (K × V)} (h : ItAt ek ev W r b es todo last) : W.rangeLeft b r = todo.length := by
  obtain ⟨E, c, since, c0, seen, h1, h2, h3⟩ := h
  simp only [World.rangeLeft, h2, h3]
  obtain ⟨ys, hys, hl⟩ := h1.todo
  rw [← hys.length_eq, ← Array.length_toList]
  simpa using congrArg List.length hl

theorem wpListIn_rangeM (hg : o.guard = none) (m : Operand) (t : TypeId) (hop : o.op = Op.range t m) (k e : TypeId) (ht : P.underlying t = some (.map k e)) (b : Nat) {es : List (K × V)} (hm : a.eval m = .map (some b)) (h : MapAt ek ev w b es)
    (hK : ∀ w', ItAt ek ev w' w.heap.size b es es none → w.grownBy w' none → w'.heap.size = w.heap.size + 1 → wpListIn F n P ops Q rest (a.put o.dst (.pointer (some ⟨w.heap.size, 0, none⟩))) w') :
    wpListIn F n P ops Q (o :: rest) a w := by
  obtain ⟨E, c, hok, hb⟩ := h
  refine wpListIn_plain hg fun K' hK' => ?_
  unfold Oper.wpIn
  refine ⟨by simp [Oper.about, hop], ?_⟩
  rw [Oper.semAt_plain F _ _ (by rw [hop]; intro c hc'; cases hc')]
  simp [execOp, hop, hm, run_range_map w t k e b E c ht hb, Result.andThen]
  refine hK' _ _ (hK _ ?_ ?_ ?_)
  · have hlt : b < w.heap.size := (Array.getElem?_eq_some_iff.1 hb).1
    refine ⟨E, c, c, c, #[], ⟨hok, ?_, Nat.le_refl _, Nat.le_refl _, (fun kv h => by cases h), ?_⟩, World.alloc_heap_new w _, (Below.heap_alloc _ _ _ hlt).trans hb⟩
    · obtain ⟨xs, -, -, -, -, h5⟩ := hok
      exact h5
    · obtain ⟨xs, h1, -, h3, -⟩ := hok
      exact ⟨xs, h1, by rw [leftOf_nil]; exact h3⟩
  · exact World.grownBy_alloc w _ none
  · simp

theorem itok_next {E : Array MapEntry} {c since c0 : Nat} {seen : Array Nat} {es todo : List (K × V)} {last : Option (K × V)} (hok : ItOk ek ev E c since c0 seen es todo last) {e : MapEntry} (he : e ∈ (leftOf E seen).toList) :
    ∃ k v todo', todo.Perm ((k, v) :: todo') ∧ e.key = ek k ∧ e.val = ev v ∧ ItOk ek ev E c since c (seen.push e.born) es todo' (some (k, v)) := by
  obtain ⟨hmok, hold, hlook, hclk, -, ys, hys, hleft⟩ := hok
  obtain ⟨xs, hxs, hnd, hkv, hborn, hlt⟩ := hmok
  have hpush := left_push hborn he
  have hmem : (e.key, e.val) ∈ (leftOf E seen).toList.map fun e => (e.key, e.val) := List.mem_map.2 ⟨e, he, rfl⟩
  have hmap := hpush.map fun e => (e.key, e.val)
  rw [hleft, List.map_cons] at hmap
  obtain ⟨ys', hys', hmap'⟩ : ∃ ys' : List (K × V), ∃ kv : K × V, ys.Perm (kv :: ys') ∧ (e.key, e.val) = (ek kv.1, ev kv.2) ∧ (leftOf E (seen.push e.born)).toList.map (fun e => (e.key, e.val)) = ys'.map fun x => (ek x.1, ev x.2) := by
    rw [hleft] at hmem
    -- where it stands
    obtain ⟨a, b, hab⟩ := List.append_of_mem he
    have h3 : leftOf E seen = ⟨a ++ e :: b⟩ := by
      apply Array.toList_inj.1
      exact hab
    have h4 : (leftOf E (seen.push e.born)).toList = a ++ b := by
      have h5 : (leftOf E (seen.push e.born)).toList = (leftOf E seen).toList.filter fun y => !(y.born == e.born) := by
        unfold leftOf
        rw [Array.toList_filter, Array.toList_filter, List.filter_filter]
        refine List.filter_congr fun y _ => ?_
        simp only [Array.contains_push]
        cases seen.contains y.born <;> cases (y.born == e.born) <;> rfl
      rw [h5, hab, List.filter_append, List.filter_cons_of_neg (by simp)]
      have hpw : (a ++ e :: b).Pairwise fun a b => a.born < b.born := by
        rw [← hab]
        unfold leftOf
        rw [Array.toList_filter]
        exact hborn.filter _
      rw [List.pairwise_append, List.pairwise_cons] at hpw
      congr 1
      · exact List.filter_eq_self.2 fun y hy => by
          have := hpw.2.2 y hy e (List.mem_cons_self ..)
          have : (y.born == e.born) = false := by rw [beq_eq_false_iff_ne]; omega
          rw [this]; rfl
      · exact List.filter_eq_self.2 fun y hy => by
          have := hpw.2.1.1 y hy
          have : (y.born == e.born) = false := by rw [beq_eq_false_iff_ne]; omega
          rw [this]; rfl
    rw [hab, List.map_append, List.map_cons] at hleft
    -- ys is parted alike
    have hl : a.length < ys.length := by
      have := congrArg List.length hleft
      simp at this; omega
    have e1 := List.take_append_drop a.length ys
    have e2 : ys.drop a.length = ys[a.length] :: ys.drop (a.length + 1) := List.drop_eq_getElem_cons hl
    have h6 : (a.map fun e => (e.key, e.val)) ++ ((e.key, e.val) :: b.map fun e => (e.key, e.val)) = (ys.take a.length).map (fun x => (ek x.1, ev x.2)) ++ ((ek ys[a.length].1, ev ys[a.length].2) :: (ys.drop (a.length + 1)).map fun x => (ek x.1, ev x.2)) := by
      rw [hleft]
      conv => lhs; rw [← e1, e2]
      rw [List.map_append, List.map_cons]
    have h7 := List.append_inj h6 (by simp; omega)
    rw [List.cons.injEq] at h7
    refine ⟨ys.take a.length ++ ys.drop (a.length + 1), ys[a.length], ?_, h7.2.1, ?_⟩
    · conv => lhs; rw [← e1, e2]
      exact List.perm_middle
    · rw [h4, List.map_append, List.map_append, h7.1, h7.2.2]
  obtain ⟨hp, hkve, hl'⟩ := hmap'
  simp only [Prod.mk.injEq] at hkve
  have heE : e ∈ E.toList := by
    unfold leftOf at he
    rw [Array.toList_filter] at he
    exact (List.mem_filter.1 he).1
  exact ⟨hys'.1, hys'.2, ys', hys.symm.trans hp, hkve.1, hkve.2, ⟨xs, hxs, hnd, hkv, hborn, hlt⟩, hold, hclk, hclk, (fun kv h => ⟨rfl, e, heE, seen, rfl, by obtain rfl := Option.some.inj h; exact hkve⟩), ys', .refl _, hl'⟩

theorem wpListIn_nextM (hg : o.guard = none) (it : Operand) (hop : o.op = Op.next it false) (b r : Nat) {es todo : List (K × V)} {last : Option (K × V)} (hit : a.eval it = .pointer (some ⟨r, 0, none⟩)) (h : ItAt ek ev w r b es todo last)
    (hDone : todo = [] → wpListIn F n P ops Q rest (a.put o.dst (.tuple #[.bool false])) w)
    (hMore : ∀ k v todo' w', todo.Perm ((k, v) :: todo') → ItAt ek ev w' r b es todo' (some (k, v)) → w.grownBy w' (some r) → w'.heap.size = w.heap.size → (Instr.entry (.pointer (some ⟨r, 0, none⟩))).run P w' = .ok (.tuple #[ek k, ev v]) w' →
      wpListIn F n P ops Q rest (a.put o.dst (.tuple #[.bool true, ek k, ev v])) w') :
    wpListIn F n P ops Q (o :: rest) a w := by
  obtain ⟨E, c, since, c0, seen, hok, hr, hb⟩ := h
  have hne : r ≠ b := fun e => by subst e; rw [hr] at hb; cases hb
  refine wpListIn_plain hg fun K' hK' => ?_
  unfold Oper.wpIn
  refine ⟨by simp [Oper.about, hop], ?_⟩
  rw [Oper.semAt_plain F _ _ (by rw [hop]; intro c hc'; cases hc')]
  rcases run_next_at (P := P) w o.type r b since c0 seen E c hr hb hok.old hok.look with ⟨h0, hrun⟩ | ⟨e, he, w1, hw1, hrun⟩
  · simp [execOp, hop, hit, hrun, Result.andThen]
    refine hK' _ _ (hDone ?_)
    obtain ⟨ys, hys, hleft⟩ := hok.todo
    have h2 : ys.length = 0 := by
      have := congrArg List.length hleft
      rw [List.length_map, List.length_map, Array.length_toList, h0] at this
      exact this.symm
    exact (hys.symm.trans (by rw [List.length_eq_zero_iff.1 h2])).eq_nil
  · obtain ⟨k, v, todo', hp, hk, hv, hok'⟩ := itok_next hok he
    simp [execOp, hop, hit, hrun, Result.andThen]
    rw [hk, hv]
    have hlt : r < w.heap.size := (Array.getElem?_eq_some_iff.1 hr).1
    have hh : w1.heap = w.heap := by rcases hw1 with rfl | rfl <;> rfl
    have hg' : w.grownBy (setBlock w1 r (.mapIter (some b) since (seen.push e.born) c)) (some r) := by
      rcases hw1 with rfl | rfl
      · exact grownBy_putObj' _ _ _
      · have := grownBy_putObj' w r (.mapIter (some b) since (seen.push e.born) c)
        exact ⟨this.os, this.tape, this.output, this.size, this.block⟩
    have hr' : (setBlock w1 r (.mapIter (some b) since (seen.push e.born) c)).heap[r]? = some (.mapIter (some b) since (seen.push e.born) c) := by
      simp [setBlock, hh, hlt]
    have hb' : (setBlock w1 r (.mapIter (some b) since (seen.push e.born) c)).heap[b]? = some (.map E c) := by
      refine (hg'.block b (Array.getElem?_eq_some_iff.1 hb).1 (fun e => hne (Option.some.inj e).symm)).trans hb
    refine hK' _ _ (hMore k v todo' _ hp ⟨E, c, since, c, seen.push e.born, hok', hr', hb'⟩ hg' (by simp [setBlock, hh]) ?_)
    obtain ⟨-, e2, he2, s', hs', h1, h2⟩ := hok'.lst _ rfl
    obtain ⟨xs, -, -, -, hborn, -⟩ := hok'.ok
    have hnd : (E.toList.map (·.born)).Nodup := by
      rw [List.Nodup, List.pairwise_map]
      exact hborn.imp fun {a b} h => by omega
    rw [hs'] at hr' hb'
    have := run_entry_at (P := P) _ r b since s' E c e2 hr' hb' he2 hnd
    rw [hs', this, h1, h2]
end


set_option maxRecDepth 100000 in
set_option maxHeartbeats 1000000 in
theorem values1_in (F : Fence) (n : Nat) (h10 : F.fn 68) (hro : F.round = none) (hn : 1 ≤ n) (l Bm b : Nat) (es : List (Int × RowA)) (J Jx : List RowA → World → Prop)
    (hY : ∀ pre x W, J pre W → pre.length < es.length → YieldAt F (n - 1) Tryz.prog l #[evW x] W fun e W' => (e = .returned (.bool true) ∧ J (pre ++ [x]) W' ∧ KeepsWalks W W') ∨ (e = .returned (.bool false) ∧ Jx (pre ++ [x]) W'))
    (W : World) (hJ : AbidesFrom W.heap.size J) (hm : W.cell? ⟨Bm, 0, none⟩ = some (.map (some b))) (hown : MapAt ekI evW W b es) (h0 : J [] W) :
    CallsIn F n Tryz.prog 68 #[.func (.yield l) #[] #[], .pointer (some ⟨Bm, 0, none⟩)] W fun e W' => (∃ v, e = .returned v) ∧ ((∃ xs : List RowA, xs.Perm (es.map Prod.snd) ∧ J xs W') ∨ (∃ pre, True ∧ Jx pre W')) := by
  refine callsIn_of_wp Tryz.func68 rfl h10 ?_ hro
  simp only [Tryz.ntmps68, List.size_toArray, List.length_cons, List.length_nil, Nat.reduceAdd, Nat.reduceSub, Array.replicate_succ, Array.replicate_zero, List.push_toArray, List.append_toArray, List.nil_append, List.cons_append]
  gi_wp2_with (first
    | (gi_at_range; refine wpListIn_rangeM rfl _ 45 rfl 2 55 Tryz.underlying45 b rfl hown ?_; intro w0 hrg0 hg0 hs0)
    | gi_in)
  go_frame
  gi_loopw [4] (fun _ wr => ∃ (todo : List (Int × RowA)) (pre : List RowA) (last : Option (Int × RowA)), ItAt ekI evW wr W.heap.size b es todo last ∧ (pre ++ todo.map Prod.snd).Perm (es.map Prod.snd) ∧ pre.length + todo.length = es.length ∧ J pre wr)
    (fun _ wr => wr.rangeLeft b W.heap.size)
  case atStart =>
    exact ⟨es, [], _, hrg0, by simp, by simp, hJ [] W w0 none h0 hg0 (fun r e => by cases e)⟩
  case round =>
    obtain ⟨todo, pre, last, hrg, hperm, hlen, hJs⟩ := hrel
    gi_wp2_with (first
      | (gi_at_next; refine wpListIn_nextM rfl _ rfl b W.heap.size rfl hrg ?_ ?_)
      | gi_in)
    · intro hc0
      gi_wp2
      go_end0
      subst hc0
      exact ⟨⟨_, rfl⟩, .inl ⟨pre, by simpa using hperm, hJs⟩⟩
    · intro x c todo' w2 hp2 hrg2 hg2 hs2 hen
      have hJ2 : J pre w2 := hJ pre wr w2 (some W.heap.size) hJs hg2 (fun r e => by cases e; obtain ⟨E, c, since, c0, seen, h1, h2, h3⟩ := hrg; exact ⟨Nat.le_refl _, _, h2, rfl⟩)
      clear hs2
      simp only [evW] at hen
      simp only [evW]
      have hJ3 : J pre (w2.alloc (.cells #[.int .i64 c.pid, .int .i64 c.epoch, .int .i64 c.seq, .int .i64 c.count, .int .i64 c.base, .int .i64 c.frm, .int .i64 c.time] 55)) := hJ pre w2 _ none hJ2 (World.grownBy_alloc _ _ none) (fun r e => by cases e)
      have hrg3 : ItAt ekI evW (w2.alloc (.cells #[.int .i64 c.pid, .int .i64 c.epoch, .int .i64 c.seq, .int .i64 c.count, .int .i64 c.base, .int .i64 c.frm, .int .i64 c.time] 55)) W.heap.size b es todo' (some (x, c)) := hrg2.walks (KeepsWalks.alloc _ _)
      have hl2 := hp2.length_eq
      obtain ⟨fn, tmps, assign, body, hy, hR⟩ := hY pre c _ hJ3 (by simp at hl2; omega)
      simp only [evW] at hy
      gi_wp2
      refine hR.mono ?_
      have hpm : ((pre ++ [c]) ++ todo'.map Prod.snd).Perm (es.map Prod.snd) := by
        rw [List.append_assoc]
        exact (List.Perm.append_left pre (hp2.map Prod.snd).symm).trans hperm
      rintro e W3 (⟨rfl, hJ3, hk3⟩ | ⟨rfl, hJx3⟩)
      · gi_wp2
        have hrg4 := hrg3.walks hk3
        go_roundw
        case rel => exact ⟨todo', pre ++ [c], _, hrg4, hpm, by simp at hl2 ⊢; omega, hJ3⟩
        case measure => rw [hrg4.left_eq, hrg.left_eq, hl2]; simp
      · gi_wp2
        refine bodyPost_ret (results_none rfl _ _ _) rfl ?_
        exact ⟨⟨_, rfl⟩, .inr ⟨pre ++ [c], trivial, hJx3⟩⟩
end Go.Proofs.YtcpmaccapgpgaaaGreat
