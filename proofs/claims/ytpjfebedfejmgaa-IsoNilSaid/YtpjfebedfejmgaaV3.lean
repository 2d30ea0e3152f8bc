/- Isolation: Fate, Pick, may, May. -/
import Derived.Test.YtpjfebedfejmgaaV2
namespace Go.Dec
set_option linter.unusedVariables false
set_option linter.unusedSimpArgs false

abbrev lkS : List Sh1 := [.agg [.int .i64, .int .i64, .int .i64, .int .i64], .one .bool]

def fateA (A : ViewA) (b : BatM) : Int := if markB b then 3 else if b.base ≥ stableA A then 0 else if b.kind = 1 ∧ (faF A b.pid b.epoch).isSome = true ∧ b.base ≥ ((faF A b.pid b.epoch).getD ⟨0, 0, 0, 0⟩).first then 2 else 1
def pickA (A : ViewA) (bs : List BatM) : List AtM := bs.flatMap fun b => if fateA A b = 1 then flat1 b else []
def mayA (A : ViewA) (b : BatM) : Int := if (faF A b.pid b.epoch).isSome = true then 20 else if (opF A b.pid).isSome = true ∧ ¬ (((opF A b.pid).getD ⟨0, 0, 0, 0⟩).pid = b.pid ∧ ((opF A b.pid).getD ⟨0, 0, 0, 0⟩).epoch = b.epoch) then 22 else
  if b.kind = 1 ∧ (opF A b.pid).isSome = false ∧ A.op.length ≥ 1024 then 5 else if b.kind = 3 ∧ (opF A b.pid).isSome = true ∧ A.fa.length ≥ 4096 then 5 else 0
def codeA (A : ViewA) (b : BatM) : Int := if validB b ≠ 0 then validB b else if b.base < A.next then 8 else if b.kind ≠ 0 then mayA A b else 0
theorem pickA_len (A : ViewA) {n : Nat} : ∀ (bs : List BatM), (∀ b ∈ bs, b.rs.length ≤ n) → (pickA A bs).length ≤ bs.length * n
  | [], _ => by simp [pickA]
  | b :: r, h => by
    have h1 := pickA_len A r fun c hc => h c (List.mem_cons_of_mem _ hc)
    have h2 := flat1_len b
    have h3 := h b (List.mem_cons_self ..)
    unfold pickA at h1 ⊢
    rw [List.flatMap_cons, List.length_append, List.length_cons, Nat.succ_mul]
    have h4 : (if fateA A b = 1 then flat1 b else []).length ≤ b.rs.length := by
      split
      · exact h2
      · exact Nat.zero_le _
    omega

section
variable {P : Program} {w : World} {l r : List HP} {Q : Post} {S : World → Prop} {T T' : TypeId} {g : Prop} {b off : Nat}
/-- Cells of a block, read as a struct. -/
theorem run_ldP {a : Addr} {vs : List Value} {fr : Nat × Nat} {ps : List Pr} (x : HL ps) {n : Nat} (hs : Sat w l) [ha : AddrIs a b off] [hb : FocB l b (.cells vs.toArray T' fr) r] [hT : Agg P T n] (hx : (vs.drop off).take n = HL.vals ps x) (hn : (HL.vals ps x).length = n) :
    (ld T a).run P w = .ok ((Sh.one (.agg ps)).mk x) w := by
  rw [ha.ok]
  refine At.ldA (P := P) (T := T) (vs := HL.vals ps x) ⟨b, off, vs.toArray, T', fr, rfl, (hs.focB b).get, fun i hi => ?_⟩ hn
  rw [← hx, List.getElem?_take, if_pos (by omega), List.getElem?_drop]
  simp
theorem wp_ldP {a : Addr} {vs : List Value} {fr : Nat × Nat} {ps : List Pr} {k : HL ps → Prog} (hs : Sat w l) (x : HL ps) {n : Nat} [ha : AddrIs a b off] [hb : FocB l b (.cells vs.toArray T' fr) r] [hT : Agg P T n] {p : Prog} [hA : App k x p]
    (h : p.wp P S w Q) (hx : (vs.drop off).take n = HL.vals ps x := by rfl) (hn : (HL.vals ps x).length = n := by rfl) : (Prog.read g (ld T a) (.one (.agg ps)) k).wp P S w Q :=
  ⟨x, fun _ => run_ldP (T := T) x hs hx hn, by rw [hA.ok]; exact h⟩
end

section
variable {w : World} {l r r1 r2 r3 l' : List HP} {v : Nat} {A : ViewA} {b : BatM}

theorem ifate_c (b : BatM) [hf : Fo l vw v A r] (hs : Sat w l) : Ret P F.iso_View_Fate #[.pointer (some ⟨v, 0, none⟩), .agg (encB7 b).toArray] w fun vs w' => vs = [.int .i64 (fateA A b)] ∧ Sat w' (vw v A :: r) :=
  iso_View_Fate_calls _ b.base b.pid b.epoch b.seq b.kind b.time b.x <| by
    unfold iso_View_Fate
    refine wp_boxO (hs.perm hf.perm) fun a0 w' hs => ?_
    refine wp_ifF ?_ (by simp)
    have ho := faF_look A b.pid b.epoch
    refine wp_mid (fun x w' => ∃ c : Nat, x = (⟨c, 0, none⟩, (faF A b.pid b.epoch).isSome, ()) ∧ Sat w' (pt c (.cells #[.int .i64 ((faF A b.pid b.epoch).getD ⟨0, 0, 0, 0⟩).pid, .int .i64 ((faF A b.pid b.epoch).getD ⟨0, 0, 0, 0⟩).epoch, .int .i64 ((faF A b.pid b.epoch).getD ⟨0, 0, 0, 0⟩).first, .int .i64 ((faF A b.pid b.epoch).getD ⟨0, 0, 0, 0⟩).last] T.iso_life) ::
      pt a0 (.cells #[.int .i64 b.base, .int .i64 b.pid, .int .i64 b.epoch, .int .i64 b.seq, .int .i64 b.kind, .int .i64 b.time, .slice b.x.a b.x.len b.x.cap] T.api_Batch) :: vw v A :: r)) ?_ ?_
    · obtain ⟨m1, m2, hok, hs⟩ := vw_open (hs.pick [1])
      refine wp_tk hs fun w' hs => ?_
      refine wp_nn ?_
      refine wp_hdO hs ?_
      refine wp_hdO hs ?_
      refine wp_hdO hs ?_
      refine wp_lookH hs (faF A b.pid b.epoch) ho lookD ?_
      refine wp_u5 _ _ _ _ _ ?_
      refine wp_newO hs (fun c w' hs => ?_) (fun c w' hs => ⟨⟨⟨⟨trivial, fun _ => run_ldO hs⟩, fun _ => run_ldO hs⟩, fun _ => run_ldO hs⟩, fun _ => look_keep (ss := lkS) hs ho lookD⟩)
      refine wp_untick ?_
      refine wp_stG hs fun w' hs => ?_
      refine wp_lt ?_
      refine wp_untick ?_
      refine wp_lv ⟨c, rfl, ?_⟩
      have hs : Sat w' (vw v A :: pt c (.cells #[.int .i64 ((faF A b.pid b.epoch).getD ⟨0, 0, 0, 0⟩).pid, .int .i64 ((faF A b.pid b.epoch).getD ⟨0, 0, 0, 0⟩).epoch, .int .i64 ((faF A b.pid b.epoch).getD ⟨0, 0, 0, 0⟩).first, .int .i64 ((faF A b.pid b.epoch).getD ⟨0, 0, 0, 0⟩).last] T.iso_life) ::
        pt a0 (.cells #[.int .i64 b.base, .int .i64 b.pid, .int .i64 b.epoch, .int .i64 b.seq, .int .i64 b.kind, .int .i64 b.time, .slice b.x.a b.x.len b.x.cap] T.api_Batch) :: r) := vw_close m1 m2 hok hs
      exact hs.pick [1, 1]
    clear hs
    rintro _ w ⟨c, rfl, hs⟩
    refine wp_on ?_
    refine wp_ldG hs ?_
    refine wp_call (imark_c b hs) fun _ _ hs => ?_
    obtain ⟨rfl, hs⟩ := hs
    refine ret_of ?_
    refine wp_lt ?_
    unfold fateA
    refine wp_if (fun h => ?_) fun h => ?_
    · rw [if_pos h]; exact ⟨rfl, rfl, hs.tail.tail⟩
    rw [if_neg h]
    refine wp_tk hs fun w' hs => ?_
    refine wp_hdO hs ?_
    refine wp_call (istable_c (v := v) hs) fun _ w' hs => ?_
    obtain ⟨rfl, hs⟩ := hs
    refine ret_of ?_ ⟨trivial, fun _ => run_ldO hs⟩
    refine wp_lt ?_
    refine wp_untick ?_
    refine wp_if (fun h2 => ?_) fun h2 => ?_
    · rw [if_pos h2]; exact ⟨rfl, rfl, hs.sub⟩
    rw [if_neg h2]
    refine wp_ldO hs ?_
    refine wp_ldO hs ?_
    refine wp_ldO hs ?_
    refine wp_lt ?_
    refine wp_if (fun h3 => ?_) fun h3 => ?_
    · rw [if_pos ⟨h3.1.1, h3.1.2, h3.2⟩]; exact ⟨rfl, rfl, hs.sub⟩
    · rw [if_neg (fun h4 => h3 ⟨⟨h4.1, h4.2.1⟩, h4.2.2⟩)]; exact ⟨rfl, rfl, hs.sub⟩

theorem ipick_c (x : Sl) (bs : List BatM) [hf : Fo l vw v A r] [hx : FocR r x 7 (bs.flatMap encB7)] (hbs : ∀ b ∈ bs, FocR r b.x 4 (b.rs.flatMap encR)) (hn : bs.length ≤ 1000) (hr : ∀ b ∈ bs, b.rs.length ≤ 1000) (hs : Sat w l) :
    Ret P F.iso_View_Pick #[.pointer (some ⟨v, 0, none⟩), x.v] w fun vs w' => ∃ z : Sl, vs = [z.v] ∧ Sat w' (slc T.rec_At 5 z ((pickA A bs).flatMap encAt) :: vw v A :: r) :=
  iso_View_Pick_calls _ x <| by
    unfold iso_View_Pick
    have hs := hs.perm hf.perm
    have hl := hs.slen x (xs := bs) (enc := encB7)
    refine wp_mid (fun u w' => ∃ z : Sl, u = (z, ()) ∧ Sat w' (slc T.rec_At 5 z ((pickA A bs).flatMap encAt) :: vw v A :: r)) ?_ (by rintro _ w' ⟨z, rfl, hs⟩; refine wp_on ?_; exact ⟨rfl, z, rfl, hs⟩)
    refine wp_loop (fun k u w => ∃ (i : Nat) (z : Sl), u = (z, (i : Int), ()) ∧ i ≤ bs.length ∧ bs.length - i = k ∧ Sat w (slc T.rec_At 5 z ((pickA A (bs.take i)).flatMap encAt) :: vw v A :: r)) bs.length ⟨0, ⟨none, 0, 0⟩, rfl, by omega, rfl, hs.slc_nil⟩ ?_
    clear hs
    rintro k _ w ⟨i, z, rfl, hi, hk, hs⟩
    refine wp_on ?_
    refine wp_if (fun hc => ?_) fun hc => ?_
    rotate_left
    · refine wp_pass (wp_lv ⟨z, rfl, ?_⟩)
      rw [List.take_of_length_le (by omega)] at hs
      exact hs
    have hil : i < bs.length := by omega
    have hbx := hbs _ (List.getElem_mem hil)
    have hbr := hr _ (List.getElem_mem hil)
    have hto : pickA A (bs.take (i + 1)) = pickA A (bs.take i) ++ if fateA A bs[i] = 1 then flat1 bs[i] else [] := by
      unfold pickA
      rw [List.take_add_one, List.getElem?_eq_getElem hil, Option.toList_some, List.flatMap_append, List.flatMap_singleton]
    have hzl : (pickA A (bs.take i)).length ≤ 1000000 := by
      have h1 := pickA_len A (n := 1000) (bs.take i) fun b hb => hr b (List.mem_of_mem_take hb)
      have h2 : (bs.take i).length ≤ 1000 := by rw [List.length_take]; omega
      have := Nat.mul_le_mul_right 1000 h2
      omega
    have hfl := flat1_len bs[i]
    refine wp_ixA hs i hil ?_
    refine wp_newO hs fun c w' hs => ?_
    refine wp_stG hs fun w' hs => ?_
    refine wp_ldG hs ?_
    refine wp_call (ifate_c (v := v) bs[i] hs) fun _ _ hs => ?_
    obtain ⟨rfl, hs⟩ := hs
    refine ret_of ?_
    refine wp_mid (fun u w' => ∃ z : Sl, u = (z, ()) ∧ Sat w' (slc T.rec_At 5 z ((pickA A (bs.take (i + 1))).flatMap encAt) :: vw v A :: r)) ?_ ?_
    rotate_left
    · rintro _ w' ⟨z, rfl, hs⟩
      refine wp_on ?_
      refine wp_dn (us' := [z.v, .int .i64 ((i + 1 : Nat) : Int)]) (by (try simp (disch := omega) only [w64]); first | rfl | (congr; omega)) ?_
      refine wp_lp (bs.length - (i + 1)) ?_
      exact ⟨i + 1, z, rfl, by omega, rfl, hs⟩
    rw [hto]
    refine wp_if (fun h1 => ?_) fun h1 => ?_
    · rw [if_pos h1]
      refine wp_ldG hs ?_
      refine wp_slit1 hs (enc := encB7) bs[i] fun y w' hs => ?_
      refine wp_call (flat_c y [bs[i]] (by intro b hb; rw [List.mem_singleton.1 hb]; infer_instance) (by simp) (by intro b hb; rw [List.mem_singleton.1 hb]; exact hbr) hs) fun _ w' h => ?_
      obtain ⟨u, rfl, hs⟩ := h
      refine ret_of ?_
      have e : flatA [bs[i]] = flat1 bs[i] := by simp [flatA]
      rw [e] at hs
      refine wp_app' (xs := pickA A (bs.take i)) (ys := flat1 bs[i]) (enc := encAt) hs (fun z w' hs => ?_) (by omega)
      exact wp_lv ⟨z, rfl, hs.sub⟩
    · rw [if_neg h1, List.append_nil]
      exact wp_lv ⟨z, rfl, hs.sub⟩

theorem imay_c (b : BatM) [hf : Fo l vw v A r] (hs : Sat w l) : Ret P F.iso_View_may #[.pointer (some ⟨v, 0, none⟩), .agg (encB7 b).toArray] w fun vs w' => vs = [.int .i64 (mayA A b)] ∧ Sat w' (vw v A :: r) :=
  iso_View_may_calls _ b.base b.pid b.epoch b.seq b.kind b.time b.x <| by
    unfold iso_View_may mayA
    have ho := faF_look A b.pid b.epoch
    have ho2 := opF_look A b.pid
    obtain ⟨m1, m2, hok, hs⟩ := vw_open (hs.perm hf.perm)
    refine wp_boxO hs fun a0 w' hs => ?_
    refine wp_ldO hs ?_
    refine wp_ldO hs ?_
    refine wp_newO hs fun a3 w' hs => ?_
    refine wp_stG hs fun w' hs => ?_
    refine wp_mid (fun x w' => x = ((faF A b.pid b.epoch).isSome, ()) ∧ Sat w' (pt a3 (.cells #[.int .i64 b.pid, .int .i64 b.epoch] T.iso_key) :: pt a0 (.cells #[.int .i64 b.base, .int .i64 b.pid, .int .i64 b.epoch, .int .i64 b.seq, .int .i64 b.kind, .int .i64 b.time, .slice b.x.a b.x.len b.x.cap] T.api_Batch) ::
      pt v (.cells #[.int .i64 A.next, .map (some m1), .map (some m2)] T.iso_View) :: mapP ekI evX m1 (opK A) :: mapP ekK evX m2 (faK A) :: r)) ?_ ?_
    · refine wp_tk hs fun w' hs => ?_
      refine wp_nn ?_
      refine wp_hdO hs ?_
      refine wp_hdG hs ?_
      refine wp_lookH hs (faF A b.pid b.epoch) ho lookD ?_
      refine wp_u5 _ _ _ _ _ ?_
      refine wp_newO hs (fun c w' hs => ?_) (fun c w' hs => ⟨⟨⟨trivial, fun _ => run_ldO hs⟩, fun _ => run_ldG hs⟩, fun _ => look_keep (ss := lkS) hs ho lookD⟩)
      refine wp_untick ?_
      refine wp_stG hs fun w' hs => ?_
      refine wp_lt ?_
      refine wp_untick ?_
      exact wp_lv ⟨rfl, hs.sub⟩
    clear hs
    rintro _ w ⟨rfl, hs⟩
    refine wp_on ?_
    refine wp_mid (fun x w' => ∃ c : Nat, x = (⟨c, 0, none⟩, (opF A b.pid).isSome, ()) ∧ Sat w' (pt c (.cells #[.int .i64 ((opF A b.pid).getD ⟨0, 0, 0, 0⟩).pid, .int .i64 ((opF A b.pid).getD ⟨0, 0, 0, 0⟩).epoch, .int .i64 ((opF A b.pid).getD ⟨0, 0, 0, 0⟩).first, .int .i64 ((opF A b.pid).getD ⟨0, 0, 0, 0⟩).last] T.iso_life) ::
      pt a3 (.cells #[.int .i64 b.pid, .int .i64 b.epoch] T.iso_key) :: pt a0 (.cells #[.int .i64 b.base, .int .i64 b.pid, .int .i64 b.epoch, .int .i64 b.seq, .int .i64 b.kind, .int .i64 b.time, .slice b.x.a b.x.len b.x.cap] T.api_Batch) ::
      pt v (.cells #[.int .i64 A.next, .map (some m1), .map (some m2)] T.iso_View) :: mapP ekI evX m1 (opK A) :: mapP ekK evX m2 (faK A) :: r)) ?_ ?_
    · refine wp_tk hs fun w' hs => ?_
      refine wp_nn ?_
      refine wp_hdO hs ?_
      refine wp_hdO hs ?_
      refine wp_lookH hs (opF A b.pid) ho2 lookD ?_
      refine wp_u5 _ _ _ _ _ ?_
      refine wp_newO hs (fun c w' hs => ?_) (fun c w' hs => ⟨⟨⟨trivial, fun _ => run_ldO hs⟩, fun _ => run_ldO hs⟩, fun _ => look_keep (ss := lkS) hs ho2 lookD⟩)
      refine wp_untick ?_
      refine wp_stG hs fun w' hs => ?_
      refine wp_lt ?_
      refine wp_untick ?_
      exact wp_lv ⟨c, rfl, hs.sub⟩
    clear hs
    rintro _ w ⟨c, rfl, hs⟩
    refine wp_on ?_
    have hfin : ∀ {w'}, Sat w' (pt c (.cells #[.int .i64 ((opF A b.pid).getD ⟨0, 0, 0, 0⟩).pid, .int .i64 ((opF A b.pid).getD ⟨0, 0, 0, 0⟩).epoch, .int .i64 ((opF A b.pid).getD ⟨0, 0, 0, 0⟩).first, .int .i64 ((opF A b.pid).getD ⟨0, 0, 0, 0⟩).last] T.iso_life) ::
      pt a3 (.cells #[.int .i64 b.pid, .int .i64 b.epoch] T.iso_key) :: pt a0 (.cells #[.int .i64 b.base, .int .i64 b.pid, .int .i64 b.epoch, .int .i64 b.seq, .int .i64 b.kind, .int .i64 b.time, .slice b.x.a b.x.len b.x.cap] T.api_Batch) ::
      pt v (.cells #[.int .i64 A.next, .map (some m1), .map (some m2)] T.iso_View) :: mapP ekI evX m1 (opK A) :: mapP ekK evX m2 (faK A) :: r) → Sat w' (vw v A :: r) := fun hs => vw_close m1 m2 hok hs
    refine wp_lt ?_
    refine wp_if (fun h1 => ?_) fun h1 => ?_
    · rw [if_pos h1]; exact ⟨rfl, rfl, hfin hs⟩
    rw [if_neg h1]
    refine wp_ldP hs (((opF A b.pid).getD ⟨0, 0, 0, 0⟩).pid, ((opF A b.pid).getD ⟨0, 0, 0, 0⟩).epoch, ()) ?_
    refine wp_ldG hs ?_
    refine wp_lt ?_
    refine wp_if (fun h2 => ?_) fun h2 => ?_
    · rw [if_pos]
      · exact ⟨rfl, rfl, hfin hs⟩
      · exact ⟨h2.1, fun h => h2.2 h⟩
    rw [if_neg (fun h => h2 ⟨h.1, fun h' => h.2 h'⟩)]
    refine wp_ldO hs ?_
    refine wp_nng ?_
    refine wp_ldO hs ?_
    refine wp_mlen hs ?_
    refine wp_lt ?_
    have e1 : (opK A).length = A.op.length := by simp [opK]
    have e2 : (faK A).length = A.fa.length := by simp [faK]
    rw [e1]
    refine wp_if (fun h3 => ?_) fun h3 => ?_
    · rw [if_pos]
      · exact ⟨rfl, rfl, hfin hs⟩
      · exact ⟨h3.1.1, by simpa using h3.1.2, by omega⟩
    rw [if_neg (fun h => h3 ⟨⟨h.1, by simp [h.2.1]⟩, by omega⟩)]
    refine wp_ldO hs ?_
    refine wp_nng ?_
    refine wp_ldO hs ?_
    refine wp_mlen hs ?_
    refine wp_lt ?_
    rw [e2]
    refine wp_if (fun h4 => ?_) fun h4 => ?_
    · rw [if_pos]
      · exact ⟨rfl, rfl, hfin hs⟩
      · exact ⟨h4.1.1, h4.1.2, by omega⟩
    · rw [if_neg (fun h => h4 ⟨⟨h.1, h.2.1⟩, by omega⟩)]
      exact ⟨rfl, rfl, hfin hs⟩

theorem iMay_c (b : BatM) [hf : Fo l vw v A r] [hb : FocR r b.x 4 (b.rs.flatMap encR)] (hs : Sat w l) : Ret P F.iso_View_May #[.pointer (some ⟨v, 0, none⟩), .agg (encB7 b).toArray] w fun vs w' => vs = [.int .i64 (codeA A b)] ∧ Sat w' (vw v A :: r) :=
  iso_View_May_calls _ b.base b.pid b.epoch b.seq b.kind b.time b.x <| by
    unfold iso_View_May codeA
    refine wp_boxO (hs.perm hf.perm) fun a0 w' hs => ?_
    refine wp_ifF ?_ (by simp)
    refine wp_ldG hs ?_
    refine wp_call (valid_c b hs) fun _ _ hs => ?_
    obtain ⟨rfl, hs⟩ := hs
    refine ret_of ?_
    refine wp_lt ?_
    refine wp_if (fun h => ?_) fun h => ?_
    · rw [if_pos h]
      refine wp_lt ?_
      exact ⟨rfl, rfl, hs.tail⟩
    rw [if_neg h]
    refine wp_tk hs fun w' hs => ?_
    refine wp_ldO hs ?_
    obtain ⟨m1, m2, hok, hs⟩ := vw_open (hs.pick [1])
    refine wp_nn ?_
    refine wp_ldO hs ?_
    refine wp_lt ?_
    refine wp_untick ?_
    have hs : Sat w' (vw v A :: pt a0 (.cells #[.int .i64 b.base, .int .i64 b.pid, .int .i64 b.epoch, .int .i64 b.seq, .int .i64 b.kind, .int .i64 b.time, .slice b.x.a b.x.len b.x.cap] T.api_Batch) :: r) := vw_close m1 m2 hok hs
    refine wp_if (fun h2 => ?_) fun h2 => ?_
    · rw [if_pos h2]; exact ⟨rfl, rfl, hs.sub⟩
    rw [if_neg h2]
    refine wp_ldO hs ?_
    refine wp_lt ?_
    refine wp_if (fun h3 => ?_) fun h3 => ?_
    · rw [if_pos h3]
      refine wp_ldG hs ?_
      refine wp_call (imay_c (v := v) b hs) fun _ _ hs => ?_
      obtain ⟨rfl, hs⟩ := hs
      refine ret_of ?_
      refine wp_lt ?_
      exact ⟨rfl, rfl, hs.sub⟩
    · rw [if_neg h3]; exact ⟨rfl, rfl, hs.sub⟩

end
end Go.Dec
