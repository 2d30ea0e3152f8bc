/- Disks: Names, part 1: maps.Keys' iterator (turned from the kit's worked contract, keys that are texts), and the prefix of a text. -/
import Derived.Sort.MapsRangeIn
import Derived.Sort.KeysCollected
import Derived.RangeFuncNested
import Derived.RangeFuncBound
import Derived.RangeFuncCalls
import Derived.RangeFuncLeaves
import Derived.RangeFuncBox
import Derived.WalkKit
import Derived.OwnWalkIn
import Derived.TacticsInMore
import Derived.RegionIn
import Derived.LoopNIn
import Derived.LoopIn
import Derived.Maps.AppendAt
import Derived.Shelf.Abstract
import Derived.Test.YtnfaklmndojeaaaFns0
import Derived.Test.YtnfaklmndojeaaaFns1
import Derived.Test.YtnfaklmndojeaaaOpsY
namespace Go.Proofs.Ytnfaklmndojeaaa
open Go.RowKit Go.Maps Go.Sort Go.Proofs
set_option linter.unusedVariables false
set_option linter.unusedSimpArgs false

set_option maxRecDepth 100000 in
set_option maxHeartbeats 1000000 in
theorem keys1_in {H : Type} (F : Fence) (n : Nat) (h10 : F.fn 55) (hro : F.round = none) (hn : 1 ≤ n) (l Bm b nn : Nat) (D0 : DataW H) {R : Value → Option (DataW H × List MemPlace)} (J Jx : List (List UInt8) → World → Prop)
    (hY : ∀ pre x W, J pre W → pre.length < Maps.size D0 → YieldAt F (n - 1) Try.prog l #[encStr x] W fun e W' => (e = .returned (.bool true) ∧ J (pre ++ [x]) W' ∧ KeepsWalks W W') ∨ (e = .returned (.bool false) ∧ Jx (pre ++ [x]) W'))
    (W : World) (hJ : AbidesFrom W.heap.size J) (hm : W.cell? ⟨Bm, 0, none⟩ = some (.map (some b))) (hown : W.ownsMap Try.prog 9 R b nn D0) (h0 : J [] W) :
    CallsIn F n Try.prog 55 #[.func (.yield l) #[] #[], .pointer (some ⟨Bm, 0, none⟩)] W fun e W' => (∃ v, e = .returned v) ∧ ((∃ ss : List (List UInt8), ss.Perm (strKeys D0) ∧ J ss W') ∨ (∃ pre, True ∧ Jx pre W')) := by
  refine callsIn_of_wp Try.func55 rfl h10 ?_ hro
  simp only [Try.ntmps55, List.size_toArray, List.length_cons, List.length_nil, Nat.reduceAdd, Nat.reduceSub, Array.replicate_succ, Array.replicate_zero, List.push_toArray, List.append_toArray, List.nil_append, List.cons_append]
  gi_wp2_with (first
    | (gi_at_range; refine wpListIn_range_own _ rfl _ 66 rfl 9 71 (string_keyed Try.underlying9) Try.underlying66 _ b nn _ rfl hown ?_; intro w0 hrg0 hg0 hs0)
    | gi_in)
  go_frame
  gi_loopw [3] (fun _ wr => ∃ (left : Lit → Bool) (cnt : Nat) (ss : List (List UInt8)), wr.ranges Try.prog 9 R b W.heap.size nn D0 left cnt ∧ ss.length + cnt ≤ Maps.size D0 ∧ Collected D0 left ss ∧ J ss wr)
    (fun _ wr => wr.rangeLeft b W.heap.size)
  case atStart =>
    exact ⟨_, _, [], hrg0, by simp, Collected.start D0, hJ [] W w0 none h0 hg0 (fun r e => by cases e)⟩
  case round =>
    obtain ⟨left, cnt, ss, hrg, hcs, hC, hJs⟩ := hrel
    gi_wp2_with (first
      | (gi_at_next; refine wpListIn_next_ranges _ rfl _ rfl 9 (string_keyed Try.underlying9) R encStr id (fun key kl hk => by obtain ⟨x, hx, _⟩ := Maps.keyOf_str Try.underlying9 hk; exact ⟨x, hx⟩) (fun v _ _ => ⟨v, rfl⟩) b W.heap.size nn _ _ _ rfl hrg ?_ ?_)
      | gi_in)
    · intro hc0 hl0
      gi_wp2
      go_end0
      exact ⟨⟨_, rfl⟩, .inl ⟨ss, hC.perm hown (string_keyed Try.underlying9) Try.underlying9 hl0, hJs⟩⟩
    · intro x c kl yd yp w2 cnt2 hkey hlk hv hat hrg2 hlt hg2 hs2 hen
      obtain ⟨x', ex, rfl, _⟩ := Maps.keyOf_str Try.underlying9 hkey
      obtain rfl : x = x' := encStr_inj ex
      have hJ2 : J ss w2 := hJ ss wr w2 (some W.heap.size) hJs hg2 (fun r e => by cases e; exact ⟨Nat.le_refl _, hrg.iter_walk⟩)
      obtain ⟨fn, tmps, assign, body, hy, hR⟩ := hY ss x w2 hJ2 (by omega)
      clear hs2
      gi_wp2
      refine hR.mono ?_
      rintro e W3 (⟨rfl, hJ3, hk3⟩ | ⟨rfl, hJx3⟩)
      · gi_wp2
        have hrg3 := hrg2.of_walks hk3
        go_roundw
        case rel => exact ⟨_, cnt2, ss ++ [x], hrg3, by simp; omega, hC.step hlk hat, hJ3⟩
        case measure => rw [hrg3.left_eq, hrg.left_eq]; exact hlt
      · gi_wp2
        refine bodyPost_ret (results_none rfl _ _ _) rfl ?_
        exact ⟨⟨_, rfl⟩, .inr ⟨ss ++ [x], trivial, hJx3⟩⟩

/-- maps.Keys: a function value that has caught a box with the map. -/
theorem keys_in (mb : Option Nat) (w : World) :
    Calls Try.prog 42 #[.map mb] w fun e w' => e = .returned (.func (.func 55) #[] #[.pointer (some ⟨w.heap.size, 0, none⟩)]) ∧ w' = w.alloc (.cells #[.map mb] 66) := by
  refine Calls.mono (Dec.maps_Keys_map_string_disk_file_string_disk_file_calls mb (w := w) (R := fun vs w' => vs = [.func (.func 55) #[] #[.pointer (some ⟨w.heap.size, 0, none⟩)]] ∧ w' = w.alloc (.cells #[.map mb] 66)) ?_) fun e w' ⟨vs, he, hv, hw⟩ => ⟨by rw [he, hv]; rfl, hw⟩
  unfold Dec.maps_Keys_map_string_disk_file_string_disk_file
  refine ⟨(⟨w.heap.size, 0, none⟩, ()), w.alloc (.cells #[.map mb] 66), ?_, trivial, ?_⟩
  · simp only [Instr.box, Sem.run_bind, Dec.run_newVar, Result.andThen_ok, Sem.run_pure]; rfl
  · exact ⟨rfl, rfl, rfl⟩

/-- Does a text begin so? -/
def preF (p s : ByteArray) : Bool := p.toList.isPrefixOf s.toList

theorem pre_eq (s p : ByteArray) : (decide (((ByteArray.size s : Nat) : Int) ≥ ((ByteArray.size p : Nat) : Int)) && ByteArray.toList (ByteArray.extract s 0 (Int.toNat (((ByteArray.size p : Nat) : Int)))) == ByteArray.toList p) = preF p s := by
  unfold preF
  rw [Int.toNat_natCast, ByteArray.toList_eq, ByteArray.toList_eq, ByteArray.toList_eq]
  have e1 : (ByteArray.extract s 0 p.size).data.toList = s.data.toList.take p.size := by simp [ByteArray.data_extract]
  have e2 : p.size = p.data.toList.length := by simp
  rw [e1, Bool.eq_iff_iff, Bool.and_eq_true, decide_eq_true_eq, beq_iff_eq, List.isPrefixOf_iff_prefix]
  constructor
  · rintro ⟨-, h⟩
    rw [← h]; exact List.take_prefix _ _
  · intro h
    have hl := h.length_le
    refine ⟨?_, ?_⟩
    · have : s.size = s.data.toList.length := by simp
      omega
    · rw [e2]; exact (List.prefix_iff_eq_take.1 h).symm

theorem prefix_c (s p : ByteArray) (w : World) : Calls Try.prog 43 #[.string s, .string p] w fun e w' => e = .returned (.bool (preF p s)) ∧ w' = w := by
  refine Calls.mono (Dec.strings_HasPrefix_calls s p (w := w) (R := fun vs w' => vs = [.bool (preF p s)] ∧ w' = w) ?_) fun e w' ⟨vs, he, hv, hw⟩ => ⟨by rw [he, hv]; rfl, hw⟩
  unfold Dec.strings_HasPrefix
  refine Dec.wp_callS (preF p s, ()) (Dec.internal_stringslite_HasPrefix_calls s p (R := fun vs w' => vs = [.bool (preF p s)] ∧ w' = w) ?_) rfl fun w' hw => ⟨trivial, ?_⟩
  · unfold Dec.internal_stringslite_HasPrefix
    refine Dec.wp_must (fun h => ?_) (Dec.wp_lt ⟨rfl, by rw [pre_eq], rfl⟩)
    have h := of_decide_eq_true h
    omega
  · exact Dec.wp_lt ⟨rfl, rfl, hw⟩

end Go.Proofs.Ytnfaklmndojeaaa
