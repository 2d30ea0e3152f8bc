/- Disks: DiskApart. -/
import Derived.Test.YtnfaklmndojeaaaE8
namespace Go.Dec
set_option linter.unusedVariables false
set_option linter.unusedSimpArgs false

section
variable {w : World} {l r r1 : List HP} {d q : Nat} {A A' : DiskA} {e : Int}

theorem apart_law (x y z : Sl) (ops on off : List OpM) [hx : FocR l x 6 (ops.flatMap encOp)] [hy : FocR l y 6 (on.flatMap encOp)] [hz : FocR l z 6 (off.flatMap encOp)] (hlen : ops.length ≤ 9223372036854775807)
    (hops : ∀ o ∈ ops, OpIn l o) (hon : ∀ o ∈ on, OpIn l o) (hoff : ∀ o ∈ off, OpIn l o) (hs : Sat w l) :
    Ret P F.towpathlaw04_DiskApart #[x.v, y.v, z.v] w fun vs w' => vs = [.bool true] ∧ Sat w' l :=
  towpathlaw04_DiskApart_calls x y z <| by
    unfold towpathlaw04_DiskApart
    have hyl := hs.slen y (xs := on) (enc := encOp)
    have hzl := hs.slen z (xs := off) (enc := encOp)
    refine wp_call (play_c 4000 x ops 30 hlen hops hs) fun _ _ hs => ?_
    obtain ⟨d, q, A, rfl, hs⟩ := hs
    refine ret_of ?_
    refine wp_lt ?_
    refine wp_ifF ?_ (by simp)
    have hok := ok_of hs
    refine wp_slit1 hs (enc := encI) 3 fun y3 w' hs => ?_
    refine wp_call (crash_c (d := d) y3 [3] (by simp) hs) fun _ _ hs => ?_
    obtain ⟨c, rfl, hs⟩ := hs
    refine ret_of ?_
    refine wp_slit1 hs (enc := encI) 3 fun y4 w' hs => ?_
    refine wp_call (rcrash_c (q := q) y4 [3] (by simp) hok hs) fun _ _ hs => ?_
    obtain ⟨s, rfl, hs⟩ := hs
    refine ret_of ?_
    refine wp_mid (fun v w' => v = (true, ()) ∧ Sat w' l) ?_ ?_
    rotate_left
    · rintro _ w' ⟨rfl, hs⟩
      refine wp_on ?_
      refine wp_mid (fun v w' => v = (true, ()) ∧ Sat w' l) ?_ (by rintro _ w' ⟨rfl, hs⟩; refine wp_on ?_; exact ⟨rfl, rfl, hs⟩)
      refine wp_ifT ?_ trivial
      refine wp_call (awake_c hs) fun _ _ hs => ?_
      obtain ⟨rfl, hs⟩ := hs
      refine ret_of ?_
      refine wp_lt ?_
      exact wp_lv ⟨rfl, hs⟩
    refine wp_loop (fun k v w => ∃ (i d q c s : Nat) (A B : DiskA), v = (some ⟨d, 0, none⟩, some ⟨q, 0, none⟩, true, some ⟨c, 0, none⟩, some ⟨s, 0, none⟩, (i : Int), ()) ∧ i ≤ 30 ∧ 30 - i = k ∧ Sat w (dk d A :: rdk q A :: dk c B :: rdk s B :: l)) 30 ⟨0, d, q, c, s, A, crashA A [3], rfl, by omega, rfl, hs.sub⟩ ?_
    clear hs
    rintro k _ w ⟨i, d, q, c, s, A, B, rfl, hi, hk, hs⟩
    refine wp_on ?_
    refine wp_if (fun hc => ?_) fun hc => ?_
    rotate_left
    · exact wp_pass (wp_lv ⟨rfl, hs.tail.tail.tail.tail⟩)
    refine wp_mid (fun v w' => ∃ d q A, v = (some ⟨d, 0, none⟩, some ⟨q, 0, none⟩, true, ()) ∧ Sat w' (dk d A :: rdk q A :: dk c B :: rdk s B :: l)) ?_ ?_
    · refine wp_if (fun h => ?_) fun h => ?_
      · have hil : i < on.length := by omega
        have hin := hon _ (List.getElem_mem hil)
        refine wp_ixA hs i hil ?_
        refine wp_call (small_c on[i] hin.cap hs) fun _ w' hs => ?_
        obtain ⟨rfl, hs⟩ := hs
        refine ret_of ?_
        have hR : FocR l (cutOp on[i]).px 1 ((cutOp on[i]).ps.flatMap encI) := cut_rd hin (hs.sub (l' := l))
        refine wp_call (step_c (d := d) (q := q) (cutOp on[i]) (ok_cut _ hin.n) hs) fun _ w' hs => ?_
        obtain ⟨d', q', rfl, hs, -⟩ := hs
        refine ret_of ?_
        refine wp_lt ?_
        exact wp_lv ⟨d', q', _, rfl, hs⟩
      · exact wp_lv ⟨d, q, _, rfl, hs⟩
    clear hs
    rintro _ w ⟨d, q, A, rfl, hs⟩
    refine wp_on ?_
    refine wp_mid (fun v w' => ∃ c s B, v = (true, some ⟨c, 0, none⟩, some ⟨s, 0, none⟩, ()) ∧ Sat w' (dk d A :: rdk q A :: dk c B :: rdk s B :: l)) ?_ ?_
    · refine wp_if (fun h => ?_) fun h => ?_
      · have hil : i < off.length := by omega
        have hin := hoff _ (List.getElem_mem hil)
        refine wp_ixA hs i hil ?_
        refine wp_call (small_c off[i] hin.cap hs) fun _ w' hs => ?_
        obtain ⟨rfl, hs⟩ := hs
        refine ret_of ?_
        have hR : FocR l (cutOp off[i]).px 1 ((cutOp off[i]).ps.flatMap encI) := cut_rd hin (hs.sub (l' := l))
        refine wp_call (step_c (d := c) (q := s) (cutOp off[i]) (ok_cut _ hin.n) hs) fun _ w' hs => ?_
        obtain ⟨c', s', rfl, hs, -⟩ := hs
        refine ret_of ?_
        refine wp_lt ?_
        exact wp_lv ⟨c', s', stepA B (cutOp off[i]), rfl, hs.sub⟩
      · exact wp_lv ⟨c, s, _, rfl, hs⟩
    clear hs
    rintro _ w ⟨c, s, B, rfl, hs⟩
    refine wp_on ?_
    refine wp_mid (fun v w' => v = (true, ()) ∧ Sat w' (dk d A :: rdk q A :: dk c B :: rdk s B :: l)) ?_ ?_
    · refine wp_ifT ?_ trivial
      refine wp_call (same_c (d := d) (q := q) hs) fun _ _ hs => ?_
      obtain ⟨rfl, hs⟩ := hs
      refine ret_of ?_
      refine wp_ifT ?_ trivial
      refine wp_call (same_c (d := c) (q := s) hs) fun _ _ hs => ?_
      obtain ⟨rfl, hs⟩ := hs
      refine ret_of ?_
      refine wp_lt ?_
      exact wp_lv ⟨rfl, hs.sub⟩
    clear hs
    rintro _ w ⟨rfl, hs⟩
    refine wp_on ?_
    refine wp_ltx (y := ((i + 1 : Nat) : Int)) ?_
    refine wp_lp (30 - (i + 1)) ?_
    exact ⟨i + 1, d, q, c, s, A, B, rfl, by omega, rfl, hs⟩

end
end Go.Dec
