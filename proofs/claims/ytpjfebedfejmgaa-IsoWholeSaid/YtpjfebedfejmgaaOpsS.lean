/- Ops, part S: a string's runes, one behind the other. -/
import Derived.Test.YtpjfebedfejmgaaOpsG
import Derived.Laws.RangeString
namespace Go.Dec
set_option linter.unusedVariables false
set_option linter.unusedSimpArgs false

section
variable {P : Program} {w : World} {l r : List HP} {Q : Post} {S : World → Prop} {T ty : TypeId} {s : ByteArray} {b pos : Nat}

theorem wp_rangeS [hT : StT P T] {k : Addr × Unit → Prog} (hs : Sat w l) (h : ∀ b w', Sat w' (pt b (.stringIter s 0) :: l) → S w' ∧ (k (⟨b, 0, none⟩, ())).wp P S w' Q) :
    (Prog.act (Instr.range T (.string s)) sA k).wp P S w Q := by
  have h' := h _ _ (hs.push (o := .stringIter s 0) (w' := w.iter s 0) rfl)
  exact ⟨(⟨w.heap.size, 0, none⟩, ()), _, run_range_string w T s hT.ok, h'.1, h'.2⟩

theorem run_next (hb : w.heap[b]? = some (.stringIter s pos)) (h : pos < s.size) : (Instr.next (.pointer (some ⟨b, 0, none⟩)) true ty).run P w =
    .ok (.tuple #[.bool true, .int .i64 pos, .int .i32 (Utf8.decode s pos).1]) (setB w b (.stringIter s (pos + (Utf8.decode s pos).2))) := by
  have hlt : b < w.heap.size := (Array.getElem?_eq_some_iff.1 hb).1
  simp only [Instr.next, getObj, setObj, Sem.run_bind, Sem.run, hb, Result.andThen, h, if_true]
  simp [goInt, Sem.run, hb, hlt, setB]

theorem wp_nextS {k1 : Int × Int × Unit → Prog} {k0 : Prog} (hs : Sat w l) [hf : FocB l b (.stringIter s pos) r]
    (h1 : pos < s.size → ∀ w', Sat w' (pt b (.stringIter s (pos + (Utf8.decode s pos).2)) :: r) → S w' ∧ (k1 (pos, (Utf8.decode s pos).1, ())).wp P S w' Q)
    (h0 : ¬ pos < s.size → S w ∧ k0.wp P S w Q) :
    (Prog.next (Instr.next (.pointer (some ⟨b, 0, none⟩)) true ty) [.one (.int .i64), .one (.int .i32)] k1 k0).wp P S w Q := by
  have hb := hs.blk b
  by_cases h : pos < s.size
  · have h' := h1 h _ (hs.focB b).set
    exact .inl ⟨(pos, (Utf8.decode s pos).1, ()), _, run_next hb h, h'.1, h'.2⟩
  · refine .inr ⟨w, ?_, (h0 h).1, (h0 h).2⟩
    simp [Instr.next, getObj, Sem.run, hb, h]

theorem decode_lt (h : pos < s.size) (h2 : (s[pos]'h).toNat < 128) : Utf8.decode s pos = ((s[pos]'h).toNat, 1) := decode_ascii s pos h h2

theorem decode_ge (h : pos < s.size) (h2 : ¬ (s[pos]'h).toNat < 128) : 128 ≤ (Utf8.decode s pos).1 := by
  have e : s.get! (pos + 0) = s[pos]'h := by
    show s.get! pos = _
    simp [ByteArray.get!, getElem!_pos, h]
    rfl
  unfold Utf8.decode
  simp only [e, h2, if_false]
  split
  · split
    · rename_i h3; exact h3
    · decide
  · split
    · split
      · rename_i h3
        simp only [Bool.and_eq_true, decide_eq_true_eq] at h3
        have := h3.1
        dsimp only
        omega
      · decide
    · split
      · split
        · rename_i h3
          simp only [Bool.and_eq_true, decide_eq_true_eq] at h3
          have := h3.1
          dsimp only
          omega
        · decide
      · decide

end
end Go.Dec
