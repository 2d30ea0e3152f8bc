/- Isolation: the document's view: lists; Take, Stable, Fate, Pick, Forget. -/
import Derived.Test.YtpjfebedfejmgaaGreatL6
import Derived.Test.YtpjfebedfejmgaaGreatFr3
namespace Go.Dec
set_option linter.unusedVariables false
set_option linter.unusedSimpArgs false

/-! ### Where something stands in a list -/
def idxL (p : TxnA → Bool) : List TxnA → Int
  | [] => -1
  | t :: r => if p t = true then 0 else if idxL p r < 0 then -1 else idxL p r + 1
theorem idxL_find (p : TxnA → Bool) : ∀ ts : List TxnA, (ts.find? p = none ∧ idxL p ts = -1) ∨ ∃ (i : Nat) (h : i < ts.length), ts.find? p = some ts[i] ∧ idxL p ts = (i : Int)
  | [] => .inl ⟨rfl, rfl⟩
  | t :: r => by
    unfold idxL
    by_cases h : p t = true
    · rw [if_pos h]
      exact .inr ⟨0, by simp, by simp [h], rfl⟩
    · rw [if_neg h]
      rcases idxL_find p r with ⟨h1, h2⟩ | ⟨i, hi, h1, h2⟩
      · rw [h2]
        exact .inl ⟨by rw [List.find?_cons_of_neg (by simpa using h), h1], rfl⟩
      · rw [if_neg (by omega)]
        exact .inr ⟨i + 1, by simp; omega, by rw [List.find?_cons_of_neg (by simpa using h), h1]; rfl, by omega⟩
def posL (p : TxnA → Bool) (ts : List TxnA) (i : Nat) : Int := if idxL p (ts.drop i) < 0 then -1 else idxL p (ts.drop i) + i
theorem pos_zero (p : TxnA → Bool) (ts : List TxnA) : posL p ts 0 = idxL p ts := by
  unfold posL
  rw [List.drop_zero]
  rcases idxL_find p ts with ⟨-, h⟩ | ⟨i, -, -, h⟩
  · rw [h]; rfl
  · rw [h, if_neg (by omega)]; omega
theorem pos_end (p : TxnA → Bool) {ts : List TxnA} {i : Nat} (h : ts.length ≤ i) : posL p ts i = -1 := by
  unfold posL
  rw [List.drop_eq_nil_of_le h]; rfl
theorem pos_step (p : TxnA → Bool) {ts : List TxnA} {i : Nat} (h : i < ts.length) : posL p ts i = if p ts[i] = true then (i : Int) else posL p ts (i + 1) := by
  have e : idxL p (ts.drop i) = if p ts[i] = true then 0 else if idxL p (ts.drop (i + 1)) < 0 then -1 else idxL p (ts.drop (i + 1)) + 1 := by
    rw [List.drop_eq_getElem_cons h]; rfl
  unfold posL
  rw [e]
  by_cases hp : p ts[i] = true
  · rw [if_pos hp, if_pos hp, if_neg (by omega)]; omega
  · rw [if_neg hp, if_neg hp]
    by_cases h2 : idxL p (ts.drop (i + 1)) < 0
    · rw [if_pos h2, if_pos h2]; rfl
    · rw [if_neg h2, if_neg h2, if_neg (by omega)]; omega
theorem drop_at : ∀ {ts : List TxnA} {i : Nat} (h : i < ts.length), (ts.map (·.pid)).Nodup → ts.take i ++ ts.drop (i + 1) = dropP ts[i].pid ts
  | t :: r, 0, h, hnd => by
    rw [List.map_cons, List.nodup_cons] at hnd
    show r = (t :: r).filter _
    rw [List.filter_cons_of_neg (by simp)]
    exact (List.filter_eq_self.2 fun x hx => by
      have : x.pid ≠ t.pid := fun e => hnd.1 (List.mem_map.2 ⟨x, hx, e⟩)
      simpa using this).symm
  | t :: r, i + 1, h, hnd => by
    rw [List.map_cons, List.nodup_cons] at hnd
    have hi : i < r.length := by simpa using h
    have ih := drop_at hi hnd.2
    show t :: (r.take i ++ r.drop (i + 1)) = (t :: r).filter _
    have : t.pid ≠ r[i].pid := fun e => hnd.1 (List.mem_map.2 ⟨r[i], List.getElem_mem hi, e.symm⟩)
    rw [List.filter_cons_of_pos (by simpa using this), ih]
    rfl

def dwP (r : Nat) (A : ViewA) : HP := HP.ex fun X : Sl × Sl => HP.star (pt r (.cells #[.int .i64 A.next, .slice X.1.a X.1.len X.1.cap, .slice X.2.a X.2.len X.2.cap] T.towpathref08_View))
  (HP.star (slc T.towpathref08_Txn 4 X.1 (A.op.flatMap encX)) (slc T.towpathref08_Txn 4 X.2 (A.fa.flatMap encX)))

section
variable {w : World} {l r : List HP} {q : Nat} {A : ViewA}

theorem dw_open (hs : Sat w (dwP q A :: l)) : ∃ x y : Sl, Sat w (pt q (.cells #[.int .i64 A.next, .slice x.a x.len x.cap, .slice y.a y.len y.cap] T.towpathref08_View) :: slc T.towpathref08_Txn 4 x (A.op.flatMap encX) :: slc T.towpathref08_Txn 4 y (A.fa.flatMap encX) :: l) := by
  obtain ⟨⟨x, y⟩, hs⟩ := hs.ex
  have hs := hs.star
  have hs := (hs.pick [1]).star
  exact ⟨x, y, hs.pick [2, 0, 0]⟩
theorem dw_close (A : ViewA) {x y : Sl} (hs : Sat w (pt q (.cells #[.int .i64 A.next, .slice x.a x.len x.cap, .slice y.a y.len y.cap] T.towpathref08_View) :: slc T.towpathref08_Txn 4 x (A.op.flatMap encX) :: slc T.towpathref08_Txn 4 y (A.fa.flatMap encX) :: l)) : Sat w (dwP q A :: l) :=
  .ex_mk (x, y) (.star_mk ((Sat.star_mk (hs.pick [1, 1])).pick [1]))

theorem dof_c (pid : Int) (x : Sl) (ts : List TxnA) [hx : FocR l x 4 (ts.flatMap encX)] (hn : ts.length ≤ 1000000) (hs : Sat w l) :
    Ret P F.towpathref08_of #[x.v, .int .i64 pid] w fun vs w' => vs = [.int .i64 (idxL (fun t => decide (t.pid = pid)) ts)] ∧ Sat w' l :=
  towpathref08_of_calls x pid <| by
    unfold towpathref08_of
    have hl := hs.slen x (xs := ts) (enc := encX)
    rw [← pos_zero]
    generalize hp : (fun t : TxnA => decide (t.pid = pid)) = p
    refine wp_mid (fun _ w' => posL p ts 0 = -1 ∧ Sat w' l) ?_ (by rintro _ w' ⟨h, hs⟩; refine wp_on ?_; exact ⟨rfl, by rw [h], hs⟩)
    refine wp_loop (fun k u w => ∃ i : Nat, u = ((i : Int), ()) ∧ i ≤ ts.length ∧ ts.length - i = k ∧ posL p ts 0 = posL p ts i ∧ Sat w l) ts.length ⟨0, rfl, by omega, rfl, rfl, hs⟩ ?_
    clear hs
    rintro k _ w ⟨i, rfl, hi, hk, he, hs⟩
    refine wp_on ?_
    refine wp_if (fun hc => ?_) fun hc => ?_
    rotate_left
    · exact wp_pass (wp_lv ⟨by rw [he, pos_end p (by omega)], hs⟩)
    have hil : i < ts.length := by omega
    rw [pos_step p hil] at he
    have hpi : p ts[i] = true ↔ ts[i].pid = pid := by rw [← hp]; simp
    refine wp_ixA hs (xs := ts) (enc := encX) i hil ?_
    refine wp_newO hs fun c w' hs => ?_
    refine wp_lt ?_
    refine wp_stG hs fun w' hs => ?_
    refine wp_ldO hs ?_
    refine wp_if (fun h => ?_) fun h => ?_
    · refine wp_lt ?_
      rw [if_pos (hpi.2 h)] at he
      exact wp_pass (wp_pass ⟨rfl, by rw [he], hs.tail⟩)
    · rw [if_neg (fun h2 => h (hpi.1 h2))] at he
      refine wp_dn (us' := [.int .i64 ((i + 1 : Nat) : Int)]) (by (try simp (disch := omega) only [w64]); first | rfl | (congr; omega)) ?_
      refine wp_lp (ts.length - (i + 1)) ?_
      exact ⟨i + 1, rfl, by omega, rfl, he, hs.tail⟩

theorem dfind_c (pid epoch : Int) (x : Sl) (ts : List TxnA) [hx : FocR l x 4 (ts.flatMap encX)] (hn : ts.length ≤ 1000000) (hs : Sat w l) :
    Ret P F.towpathref08_find #[x.v, .int .i64 pid, .int .i64 epoch] w fun vs w' => vs = [.int .i64 (idxL (fun t => decide (t.pid = pid ∧ t.epoch = epoch)) ts)] ∧ Sat w' l :=
  towpathref08_find_calls x pid epoch <| by
    unfold towpathref08_find
    have hl := hs.slen x (xs := ts) (enc := encX)
    rw [← pos_zero]
    generalize hp : (fun t : TxnA => decide (t.pid = pid ∧ t.epoch = epoch)) = p
    refine wp_mid (fun _ w' => posL p ts 0 = -1 ∧ Sat w' l) ?_ (by rintro _ w' ⟨h, hs⟩; refine wp_on ?_; exact ⟨rfl, by rw [h], hs⟩)
    refine wp_loop (fun k u w => ∃ i : Nat, u = ((i : Int), ()) ∧ i ≤ ts.length ∧ ts.length - i = k ∧ posL p ts 0 = posL p ts i ∧ Sat w l) ts.length ⟨0, rfl, by omega, rfl, rfl, hs⟩ ?_
    clear hs
    rintro k _ w ⟨i, rfl, hi, hk, he, hs⟩
    refine wp_on ?_
    refine wp_if (fun hc => ?_) fun hc => ?_
    rotate_left
    · exact wp_pass (wp_lv ⟨by rw [he, pos_end p (by omega)], hs⟩)
    have hil : i < ts.length := by omega
    rw [pos_step p hil] at he
    have hpi : p ts[i] = true ↔ ts[i].pid = pid ∧ ts[i].epoch = epoch := by rw [← hp]; simp
    refine wp_ixA hs (xs := ts) (enc := encX) i hil ?_
    refine wp_newO hs fun c w' hs => ?_
    refine wp_lt ?_
    refine wp_stG hs fun w' hs => ?_
    refine wp_ldO hs ?_
    refine wp_ldO hs ?_
    refine wp_if (fun h => ?_) fun h => ?_
    · refine wp_lt ?_
      rw [if_pos (hpi.2 h)] at he
      exact wp_pass (wp_pass ⟨rfl, by rw [he], hs.tail⟩)
    · rw [if_neg (fun h2 => h (hpi.1 h2))] at he
      refine wp_dn (us' := [.int .i64 ((i + 1 : Nat) : Int)]) (by (try simp (disch := omega) only [w64]); first | rfl | (congr; omega)) ?_
      refine wp_lp (ts.length - (i + 1)) ?_
      exact ⟨i + 1, rfl, by omega, rfl, he, hs.tail⟩

theorem dvstable_c [hf : Fo l dwP q A r] (hs : Sat w l) : Ret P F.towpathref08_View_Stable #[.pointer (some ⟨q, 0, none⟩)] w fun vs w' => vs = [.int .i64 (stableA A)] ∧ Sat w' (dwP q A :: r) :=
  towpathref08_View_Stable_calls _ <| by
    unfold towpathref08_View_Stable
    obtain ⟨x, y, hs⟩ := dw_open (hs.perm hf.perm)
    have hl := hs.slen x (xs := A.op) (enc := encX)
    unfold stableA
    refine wp_nn ?_
    refine wp_ldO hs ?_
    refine wp_if (fun h => ?_) fun h => ?_
    · refine wp_nn ?_
      refine wp_ldO hs ?_
      cases hop : A.op with
      | nil => rw [hop] at hl; simp at hl; omega
      | cons t ts =>
        have hlt : 0 < A.op.length := by rw [hop]; simp
        refine wp_ixF0 hs (xs := A.op) (enc := encX) 0 hlt ?_
        refine wp_lt ?_
        refine ⟨rfl, ?_, dw_close A hs⟩
        simp only [hop, List.getElem_cons_zero]
    · have hop : A.op = [] := List.length_eq_zero_iff.1 (by omega)
      rw [hop]
      refine wp_nn ?_
      refine wp_ldO hs ?_
      refine wp_lt ?_
      refine ⟨rfl, rfl, ?_⟩
      exact dw_close A hs

theorem dfate_c (b : BatM) (hm : A.op.length ≤ 1000000 ∧ A.fa.length ≤ 1000000) [hf : Fo l dwP q A r] (hs : Sat w l) : Ret P F.towpathref08_View_Fate #[.pointer (some ⟨q, 0, none⟩), .agg (encB7 b).toArray] w fun vs w' => vs = [.int .i64 (fateA A b)] ∧ Sat w' (dwP q A :: r) :=
  towpathref08_View_Fate_calls _ b.base b.pid b.epoch b.seq b.kind b.time b.x <| by
    unfold towpathref08_View_Fate
    refine wp_boxO (hs.perm hf.perm) fun a0 w' hs => ?_
    refine wp_ldG hs ?_
    refine wp_call (dmark_c b hs) fun _ _ hs => ?_
    obtain ⟨rfl, hs⟩ := hs
    refine ret_of ?_
    unfold fateA
    refine wp_if (fun h => ?_) fun h => ?_
    · rw [if_pos h]; exact ⟨rfl, rfl, hs.tail⟩
    rw [if_neg h]
    refine wp_tk hs fun w' hs => ?_
    refine wp_hdO hs ?_
    refine wp_call (dvstable_c (q := q) hs) fun _ w' hs => ?_
    obtain ⟨rfl, hs⟩ := hs
    refine ret_of ?_ ⟨trivial, fun _ => run_ldO hs⟩
    refine wp_untick ?_
    refine wp_if (fun h2 => ?_) fun h2 => ?_
    · rw [if_pos h2]; exact ⟨rfl, rfl, hs.sub⟩
    rw [if_neg h2]
    obtain ⟨x, y, hs⟩ := dw_open hs
    refine wp_tk hs fun w' hs => ?_
    refine wp_nn ?_
    refine wp_ldO hs ?_
    refine wp_ldO hs ?_
    refine wp_ldO hs ?_
    refine wp_call (dfind_c b.pid b.epoch y A.fa hm.2 hs) fun _ _ hs => ?_
    obtain ⟨rfl, hs⟩ := hs
    refine ret_of ?_
    refine wp_lt ?_
    refine wp_untick ?_
    refine wp_tk hs fun w' hs => ?_
    refine wp_ldO hs ?_
    refine wp_ldO hs ?_
    refine wp_nng ?_
    refine wp_ldO hs ?_
    have hfind : faF A b.pid b.epoch = A.fa.find? fun t => decide (t.pid = b.pid ∧ t.epoch = b.epoch) := rfl
    rcases idxL_find (fun t => decide (t.pid = b.pid ∧ t.epoch = b.epoch)) A.fa with ⟨h3, h4⟩ | ⟨i, hi, h3, h4⟩
    · rw [hfind, h3, h4, if_neg (fun h => by cases h.2.1)]
      refine wp_ixFgg hs (xs := A.fa) (enc := encX) 0 (fun h => by simp at h) ?_
      refine wp_untick ?_
      refine wp_ifF ?_ (by simp)
      have hs := dw_close A (hs.pick [0, 0, 0])
      exact ⟨rfl, rfl, hs.sub⟩
    · rw [hfind, h3, h4]
      refine wp_ixFgg hs (xs := A.fa) (enc := encX) A.fa[i].first (fun _ => ⟨i, hi, rfl, rfl⟩) ?_
      refine wp_untick ?_
      have hs := dw_close A (hs.pick [0, 0, 0])
      refine wp_if (fun h5 => ?_) fun h5 => ?_
      · rw [if_pos ⟨h5.1.1, rfl, h5.2⟩]; exact ⟨rfl, rfl, hs.sub⟩
      · rw [if_neg (fun h6 => h5 ⟨⟨h6.1, by omega⟩, h6.2.2⟩)]; exact ⟨rfl, rfl, hs.sub⟩

theorem dpick_c (x : Sl) (bs : List BatM) (hm : A.op.length ≤ 1000000 ∧ A.fa.length ≤ 1000000) [hf : Fo l dwP q A r] [hx : FocR r x 7 (bs.flatMap encB7)] (hbs : ∀ b ∈ bs, FocR r b.x 4 (b.rs.flatMap encR)) (hn : bs.length ≤ 1000) (hr : ∀ b ∈ bs, b.rs.length ≤ 1000) (hs : Sat w l) :
    Ret P F.towpathref08_View_Pick #[.pointer (some ⟨q, 0, none⟩), x.v] w fun vs w' => ∃ z : Sl, vs = [z.v] ∧ Sat w' (slc T.towpathref03_At 5 z ((pickA A bs).flatMap encAt) :: dwP q A :: r) :=
  towpathref08_View_Pick_calls _ x <| by
    unfold towpathref08_View_Pick
    have hs := hs.perm hf.perm
    have hl := hs.slen x (xs := bs) (enc := encB7)
    refine wp_mid (fun u w' => ∃ z : Sl, u = (z, ()) ∧ Sat w' (slc T.towpathref03_At 5 z ((pickA A bs).flatMap encAt) :: dwP q A :: r)) ?_ (by rintro _ w' ⟨z, rfl, hs⟩; refine wp_on ?_; exact ⟨rfl, z, rfl, hs⟩)
    refine wp_loop (fun k u w => ∃ (i : Nat) (z : Sl), u = (z, (i : Int), ()) ∧ i ≤ bs.length ∧ bs.length - i = k ∧ Sat w (slc T.towpathref03_At 5 z ((pickA A (bs.take i)).flatMap encAt) :: dwP q A :: r)) bs.length ⟨0, ⟨none, 0, 0⟩, rfl, by omega, rfl, hs.slc_nil⟩ ?_
    clear hs
    rintro k _ w ⟨i, z, rfl, hi, hk, hs⟩
    refine wp_on ?_
    refine wp_if (fun hc => ?_) fun hc => ?_
    rotate_left
    · refine wp_pass (wp_lv ⟨z, rfl, ?_⟩)
      rw [List.take_of_length_le (by omega)] at hs
      exact hs
    have hil : i < bs.length := by omega
    have hbx := hbs _ (List.getElem_mem hil)
    have hbr := hr _ (List.getElem_mem hil)
    have hto : pickA A (bs.take (i + 1)) = pickA A (bs.take i) ++ if fateA A bs[i] = 1 then flat1 bs[i] else [] := by
      unfold pickA
      rw [List.take_add_one, List.getElem?_eq_getElem hil, Option.toList_some, List.flatMap_append, List.flatMap_singleton]
    have hzl : (pickA A (bs.take i)).length ≤ 1000000 := by
      have h1 := pickA_len A (n := 1000) (bs.take i) fun b hb => hr b (List.mem_of_mem_take hb)
      have h2 : (bs.take i).length ≤ 1000 := by rw [List.length_take]; omega
      have := Nat.mul_le_mul_right 1000 h2
      omega
    have hfl := flat1_len bs[i]
    refine wp_ixA hs i hil ?_
    refine wp_newO hs fun c w' hs => ?_
    refine wp_stG hs fun w' hs => ?_
    refine wp_ldG hs ?_
    refine wp_call (dfate_c (q := q) bs[i] hm hs) fun _ _ hs => ?_
    obtain ⟨rfl, hs⟩ := hs
    refine ret_of ?_
    refine wp_mid (fun u w' => ∃ z : Sl, u = (z, ()) ∧ Sat w' (slc T.towpathref03_At 5 z ((pickA A (bs.take (i + 1))).flatMap encAt) :: dwP q A :: r)) ?_ ?_
    rotate_left
    · rintro _ w' ⟨z, rfl, hs⟩
      refine wp_on ?_
      refine wp_dn (us' := [z.v, .int .i64 ((i + 1 : Nat) : Int)]) (by (try simp (disch := omega) only [w64]); first | rfl | (congr; omega)) ?_
      refine wp_lp (bs.length - (i + 1)) ?_
      exact ⟨i + 1, z, rfl, by omega, rfl, hs⟩
    rw [hto]
    refine wp_if (fun h1 => ?_) fun h1 => ?_
    · rw [if_pos h1]
      refine wp_ldG hs ?_
      refine wp_slit1 hs (enc := encB7) bs[i] fun y w' hs => ?_
      refine wp_call (dflat_c y [bs[i]] (by intro b hb; rw [List.mem_singleton.1 hb]; infer_instance) (by simp) (by intro b hb; rw [List.mem_singleton.1 hb]; exact hbr) hs) fun _ w' h => ?_
      obtain ⟨u, rfl, hs⟩ := h
      refine ret_of ?_
      have e : flatA [bs[i]] = flat1 bs[i] := by simp [flatA]
      rw [e] at hs
      refine wp_app' (xs := pickA A (bs.take i)) (ys := flat1 bs[i]) (enc := encAt) hs (fun z w' hs => ?_) (by omega)
      exact wp_lv ⟨z, rfl, hs.sub⟩
    · rw [if_neg h1, List.append_nil]
      exact wp_lv ⟨z, rfl, hs.sub⟩

theorem dforget_c (n : Int) (hm : A.fa.length ≤ 1000000) [hf : Fo l dwP q A r] (hs : Sat w l) : Ret P F.towpathref08_View_Forget #[.pointer (some ⟨q, 0, none⟩), .int .i64 n] w fun vs w' => vs = [.int .i64 ((A.fa.length : Int) - ((forgetA A n).fa.length : Int))] ∧ Sat w' (dwP q (forgetA A n) :: r) :=
  towpathref08_View_Forget_calls _ n <| by
    unfold towpathref08_View_Forget
    obtain ⟨x, y, hs⟩ := dw_open (hs.perm hf.perm)
    have hl := hs.slen y (xs := A.fa) (enc := encX)
    refine wp_nn ?_
    refine wp_ldO hs ?_
    refine wp_mid (fun u w' => ∃ z : Sl, u = (z, ()) ∧ Sat w' (slc T.towpathref08_Txn 4 z ((forgetA A n).fa.flatMap encX) :: pt q (.cells #[.int .i64 A.next, .slice x.a x.len x.cap, .slice y.a y.len y.cap] T.towpathref08_View) :: slc T.towpathref08_Txn 4 x (A.op.flatMap encX) :: r)) ?_ ?_
    · refine wp_loop (fun k u w => ∃ (i : Nat) (z : Sl), u = (z, (i : Int), ()) ∧ i ≤ A.fa.length ∧ A.fa.length - i = k ∧ Sat w (slc T.towpathref08_Txn 4 z (((A.fa.take i).filter fun t => !decide (t.last < n)).flatMap encX) :: pt q (.cells #[.int .i64 A.next, .slice x.a x.len x.cap, .slice y.a y.len y.cap] T.towpathref08_View) :: slc T.towpathref08_Txn 4 x (A.op.flatMap encX) :: slc T.towpathref08_Txn 4 y (A.fa.flatMap encX) :: r)) A.fa.length
        ⟨0, ⟨none, 0, 0⟩, rfl, by omega, rfl, hs.slc_nil⟩ ?_
      clear hs
      rintro k _ w ⟨i, z, rfl, hi, hk, hs⟩
      refine wp_on ?_
      refine wp_if (fun hc => ?_) fun hc => ?_
      rotate_left
      · refine wp_pass (wp_lv ⟨z, rfl, ?_⟩)
        rw [List.take_of_length_le (by omega)] at hs
        have hs : Sat w (slc T.towpathref08_Txn 4 z ((forgetA A n).fa.flatMap encX) :: _) := hs
        exact hs.sub
      have hil : i < A.fa.length := by omega
      refine wp_ixA hs (xs := A.fa) (enc := encX) i hil ?_
      refine wp_newO hs fun c w' hs => ?_
      refine wp_stG hs fun w' hs => ?_
      refine wp_ldO hs ?_
      have hto : (A.fa.take (i + 1)).filter (fun t => !decide (t.last < n)) = (A.fa.take i).filter (fun t => !decide (t.last < n)) ++ if A.fa[i].last ≥ n then [A.fa[i]] else [] := by
        rw [List.take_add_one, List.getElem?_eq_getElem hil, Option.toList_some, List.filter_append]
        congr 1
        by_cases h : A.fa[i].last ≥ n
        · rw [if_pos h, List.filter_cons_of_pos (by simp; omega)]; rfl
        · rw [if_neg h, List.filter_cons_of_neg (by simp; omega)]; rfl
      have hfl : ((A.fa.take i).filter fun t => !decide (t.last < n)).length ≤ 1000000 := Nat.le_trans (List.length_filter_le ..) (by rw [List.length_take]; omega)
      refine wp_mid (fun u w' => ∃ z : Sl, u = (z, ()) ∧ Sat w' (slc T.towpathref08_Txn 4 z (((A.fa.take (i + 1)).filter fun t => !decide (t.last < n)).flatMap encX) :: pt q (.cells #[.int .i64 A.next, .slice x.a x.len x.cap, .slice y.a y.len y.cap] T.towpathref08_View) :: slc T.towpathref08_Txn 4 x (A.op.flatMap encX) :: slc T.towpathref08_Txn 4 y (A.fa.flatMap encX) :: r)) ?_ ?_
      rotate_left
      · rintro _ w' ⟨z, rfl, hs⟩
        refine wp_on ?_
        refine wp_dn (us' := [z.v, .int .i64 ((i + 1 : Nat) : Int)]) (by (try simp (disch := omega) only [w64]); first | rfl | (congr; omega)) ?_
        refine wp_lp (A.fa.length - (i + 1)) ?_
        exact ⟨i + 1, z, rfl, by omega, rfl, hs⟩
      rw [hto]
      refine wp_if (fun h => ?_) fun h => ?_
      · rw [if_pos h]
        refine wp_ldG hs ?_
        refine wp_ap0 hs (xs := (A.fa.take i).filter fun t => !decide (t.last < n)) (enc := encX) A.fa[i] (fun z w' hs => ?_)
        exact wp_lv ⟨z, rfl, hs.sub⟩
      · rw [if_neg h, List.append_nil]
        exact wp_lv ⟨z, rfl, hs.sub⟩
    clear hs
    rintro _ w ⟨z, rfl, hs⟩
    refine wp_on ?_
    have hzl := hs.slen z (xs := (forgetA A n).fa) (enc := encX)
    have hfl : (forgetA A n).fa.length ≤ A.fa.length := List.length_filter_le ..
    refine wp_nn ?_
    refine wp_ldO hs ?_
    rw [hl, hzl]
    refine wp_ltw ?_
    refine wp_nn ?_
    refine wp_stO hs fun w' hs => ?_
    refine wp_lt ?_
    refine ⟨rfl, rfl, ?_⟩
    exact dw_close (forgetA A n) (x := x) (y := z) (hs.pick [0, 1, 0])

theorem dtake_c (b : BatM) (hok : okV A) [hf : Fo l dwP q A r] [hb : FocR r b.x 4 (b.rs.flatMap encR)] (hs : Sat w l) : Ret P F.towpathref08_View_Take #[.pointer (some ⟨q, 0, none⟩), .agg (encB7 b).toArray] w fun vs w' => vs = [.int .i64 (takeA A b).1] ∧ Sat w' (dwP q (takeA A b).2 :: r) :=
  towpathref08_View_Take_calls _ b.base b.pid b.epoch b.seq b.kind b.time b.x <| by
    unfold towpathref08_View_Take
    have hmany := hok.many
    have hs := hs.perm hf.perm
    have hno : ∀ {w' : World} {e : Int}, codeA A b = e → e ≠ 0 → Sat w' (dwP q A :: r) → [Value.int .i64 e] = [.int .i64 (takeA A b).1] ∧ Sat w' (dwP q (takeA A b).2 :: r) := fun {w' e} h1 h2 hs => by
      have : takeA A b = (e, A) := by unfold takeA; rw [h1, if_pos h2]
      rw [this]; exact ⟨rfl, hs⟩
    refine wp_boxO hs fun a0 w' hs => ?_
    refine wp_ldG hs ?_
    refine wp_call (dvalid_c b hs) fun _ _ hs => ?_
    obtain ⟨rfl, hs⟩ := hs
    refine ret_of ?_
    refine wp_lt ?_
    refine wp_if (fun h => ?_) fun h => ?_
    · refine wp_lt ?_
      exact ⟨rfl, hno (by unfold codeA; rw [if_pos h]) h hs.tail⟩
    have hv : validB b = 0 := Decidable.not_not.1 h
    obtain ⟨s1, s2, hnum, hfit, s3⟩ := span_le b hv
    obtain ⟨x, y, hs⟩ := dw_open (hs.pick [1])
    have hxl := hs.slen x (xs := A.op) (enc := encX)
    have hyl := hs.slen y (xs := A.fa) (enc := encX)
    have hcl : ∀ {w' : World}, Sat w' (pt q (.cells #[.int .i64 A.next, .slice x.a x.len x.cap, .slice y.a y.len y.cap] T.towpathref08_View) :: slc T.towpathref08_Txn 4 x (A.op.flatMap encX) :: slc T.towpathref08_Txn 4 y (A.fa.flatMap encX) :: pt a0 (.cells #[.int .i64 b.base, .int .i64 b.pid, .int .i64 b.epoch, .int .i64 b.seq, .int .i64 b.kind, .int .i64 b.time, .slice b.x.a b.x.len b.x.cap] T.api_Batch) :: r) → Sat w' (dwP q A :: r) := fun {w'} hs => by
      have hs := dw_close A hs
      exact hs.sub
    refine wp_tk hs fun w' hs => ?_
    refine wp_ldO hs ?_
    refine wp_nn ?_
    refine wp_ldO hs ?_
    refine wp_untick ?_
    refine wp_if (fun h2 => ?_) fun h2 => ?_
    · exact ⟨rfl, hno (by unfold codeA; rw [if_neg h, if_pos h2]) (by decide) (hcl hs)⟩
    refine wp_tk hs fun w' hs => ?_
    refine wp_nn ?_
    refine wp_ldO hs ?_
    refine wp_ldO hs ?_
    refine wp_call (dof_c b.pid x A.op (by omega) hs) fun _ _ hs => ?_
    obtain ⟨rfl, hs⟩ := hs
    refine ret_of ?_
    refine wp_lt ?_
    refine wp_untick ?_
    refine wp_ldO hs ?_
    have hfo : opF A b.pid = A.op.find? fun t => decide (t.pid = b.pid) := rfl
    have hff : faF A b.pid b.epoch = A.fa.find? fun t => decide (t.pid = b.pid ∧ t.epoch = b.epoch) := rfl
    -- where it stands
    obtain ⟨k, hk, hkc⟩ : ∃ k : Int, idxL (fun t => decide (t.pid = b.pid)) A.op = k ∧ ((k = -1 ∧ opF A b.pid = none) ∨ ∃ (i : Nat) (h : i < A.op.length), k = (i : Int) ∧ opF A b.pid = some A.op[i]) := by
      refine ⟨_, rfl, ?_⟩
      rcases idxL_find (fun t => decide (t.pid = b.pid)) A.op with ⟨h3, h4⟩ | ⟨i, hi, h3, h4⟩
      · exact .inl ⟨h4, h3⟩
      · exact .inr ⟨i, hi, h4, h3⟩
    rw [hk]
    refine wp_mid (fun _ w' => codeA A b = 0 ∧ Sat w' (pt q (.cells #[.int .i64 A.next, .slice x.a x.len x.cap, .slice y.a y.len y.cap] T.towpathref08_View) :: slc T.towpathref08_Txn 4 x (A.op.flatMap encX) :: slc T.towpathref08_Txn 4 y (A.fa.flatMap encX) :: pt a0 (.cells #[.int .i64 b.base, .int .i64 b.pid, .int .i64 b.epoch, .int .i64 b.seq, .int .i64 b.kind, .int .i64 b.time, .slice b.x.a b.x.len b.x.cap] T.api_Batch) :: r)) ?_ ?_
    · refine wp_if (fun h3 => ?_) fun h3 => ?_
      rotate_left
      · have h3 : b.kind = 0 := Decidable.not_not.1 h3
        exact wp_lv ⟨by unfold codeA; rw [if_neg h, if_neg h2, if_neg (by omega)], hs⟩
      have hcode : codeA A b = mayA A b := by unfold codeA; rw [if_neg h, if_neg h2, if_pos h3]
      refine wp_tk hs fun w' hs => ?_
      refine wp_nn ?_
      refine wp_ldO hs ?_
      refine wp_ldO hs ?_
      refine wp_ldO hs ?_
      refine wp_call (dfind_c b.pid b.epoch y A.fa (by omega) hs) fun _ _ hs => ?_
      obtain ⟨rfl, hs⟩ := hs
      refine ret_of ?_
      refine wp_untick ?_
      rcases idxL_find (fun t => decide (t.pid = b.pid ∧ t.epoch = b.epoch)) A.fa with ⟨h4, h5⟩ | ⟨i, hi, h4, h5⟩
      rotate_left
      · rw [h5]
        refine wp_ifT ?_ (by omega)
        refine wp_pass ⟨rfl, hno ?_ (by decide) (hcl hs)⟩
        rw [hcode]; unfold mayA; rw [hff, h4]; rfl
      rw [h5]
      refine wp_ifF ?_ (by omega)
      have hmay0 : mayA A b = if (opF A b.pid).isSome = true ∧ ¬ (((opF A b.pid).getD ⟨0, 0, 0, 0⟩).pid = b.pid ∧ ((opF A b.pid).getD ⟨0, 0, 0, 0⟩).epoch = b.epoch) then 22 else mayA A b := by
        unfold mayA; rw [hff, h4, if_neg (by simp)]
        split <;> rfl
      refine wp_tk hs fun w' hs => ?_
      refine wp_nng ?_
      refine wp_ldO hs ?_
      refine wp_ixFgg hs (xs := A.op) (enc := encX) ((opF A b.pid).getD ⟨0, 0, 0, 0⟩).epoch (fun hg => ?_) ?_
      · rcases hkc with ⟨h6, h7⟩ | ⟨i, hi, h6, h7⟩
        · simp at hg; omega
        · exact ⟨i, hi, h6, by rw [h7]; rfl⟩
      refine wp_ldO hs ?_
      refine wp_untick ?_
      have hno2 : (opF A b.pid).isSome = false → mayA A b = if b.kind = 1 ∧ A.op.length ≥ 1024 then 5 else 0 := fun h7 => by
        unfold mayA; rw [hff, h4, if_neg (by simp), if_neg (fun h => by rw [h7] at h; cases h.1)]
        by_cases h8 : b.kind = 1 ∧ A.op.length ≥ 1024
        · rw [if_pos ⟨h8.1, h7, h8.2⟩, if_pos h8]
        · rw [if_neg (fun h => h8 ⟨h.1, h.2.2⟩), if_neg h8, if_neg (fun h => by rw [h7] at h; cases h.2.1)]
      have hyes : ∀ t, opF A b.pid = some t → mayA A b = if t.epoch ≠ b.epoch then 22 else if b.kind = 3 ∧ A.fa.length ≥ 4096 then 5 else 0 := fun t h7 => by
        have htp := (opF_some h7).2
        unfold mayA; rw [hff, h4, h7, if_neg (by simp)]
        by_cases h8 : t.epoch ≠ b.epoch
        · rw [if_pos ⟨rfl, fun h => h8 h.2⟩, if_pos h8]
        · have h8' : t.epoch = b.epoch := Decidable.not_not.1 h8
          rw [if_neg (fun h => h.2 ⟨htp, h8'⟩), if_neg h8, if_neg (fun h => by cases h.2.1)]
          by_cases h9 : b.kind = 3 ∧ A.fa.length ≥ 4096
          · rw [if_pos ⟨h9.1, rfl, h9.2⟩, if_pos h9]
          · rw [if_neg (fun h => h9 ⟨h.1, h.2.2⟩), if_neg h9]
      have hkind : k < 0 ↔ (opF A b.pid).isSome = false := by
        rcases hkc with ⟨h6, h7⟩ | ⟨i, hi, h6, h7⟩
        · rw [h7]; simp; omega
        · rw [h7]; simp; omega
      refine wp_if (fun h6 => ?_) fun h6 => ?_
      · refine wp_pass ⟨rfl, hno ?_ (by decide) (hcl hs)⟩
        rw [hcode]
        cases h7 : opF A b.pid with
        | none => rw [h7] at hkind; have := hkind.2 rfl; omega
        | some t => rw [hyes t h7, if_pos (by have := h6.2; rw [h7] at this; exact this)]
      refine wp_ldO hs ?_
      refine wp_nng ?_
      refine wp_ldO hs ?_
      refine wp_ldO hs ?_
      refine wp_nng ?_
      refine wp_ldO hs ?_
      refine wp_if (fun h7 => ?_) fun h7 => ?_
      · refine wp_pass ⟨rfl, hno ?_ (by decide) (hcl hs)⟩
        rw [hcode]
        cases h8 : opF A b.pid with
        | none =>
          rw [hno2 (by rw [h8]; rfl)]
          rw [h8] at hkind
          have := hkind.2 rfl
          rcases h7 with h7 | h7
          · rw [if_pos ⟨h7.1.1, by omega⟩]
          · omega
        | some t =>
          rw [h8] at hkind h6
          have h6 : ¬ (k ≥ 0 ∧ t.epoch ≠ b.epoch) := h6
          have hk0 : ¬ k < 0 := fun h => by have := hkind.1 h; cases this
          rw [hyes t h8, if_neg (fun h9 => h6 ⟨by omega, h9⟩)]
          rcases h7 with h7 | h7
          · omega
          · rw [if_pos ⟨h7.1.1, by omega⟩]
      · refine wp_lv ⟨?_, hs⟩
        rw [hcode]
        cases h8 : opF A b.pid with
        | none =>
          rw [hno2 (by rw [h8]; rfl)]
          rw [h8] at hkind
          have := hkind.2 rfl
          rw [if_neg (fun h9 => h7 (.inl ⟨⟨h9.1, this⟩, by omega⟩))]
        | some t =>
          rw [h8] at hkind h6
          have h6 : ¬ (k ≥ 0 ∧ t.epoch ≠ b.epoch) := h6
          have hk0 : ¬ k < 0 := fun h => by have := hkind.1 h; cases this
          rw [hyes t h8, if_neg (fun h9 => h6 ⟨by omega, h9⟩), if_neg (fun h9 => h7 (.inr ⟨⟨h9.1, by omega⟩, by omega⟩))]
    clear hs
    rintro _ w ⟨hc, hs⟩
    refine wp_on ?_
    have htk : takeA A b = (0, takeV A b) := by unfold takeA; rw [if_neg (by rw [hc]; simp)]
    rw [htk]
    refine wp_mid (fun _ w' => Sat w' (pt q (.cells #[.int .i64 (b.base + spanB b), .slice x.a x.len x.cap, .slice y.a y.len y.cap] T.towpathref08_View) :: slc T.towpathref08_Txn 4 x (A.op.flatMap encX) :: slc T.towpathref08_Txn 4 y (A.fa.flatMap encX) :: pt a0 (.cells #[.int .i64 b.base, .int .i64 b.pid, .int .i64 b.epoch, .int .i64 b.seq, .int .i64 b.kind, .int .i64 b.time, .slice b.x.a b.x.len b.x.cap] T.api_Batch) :: r)) ?_ ?_
    · refine wp_tk hs fun w' hs => ?_
      refine wp_hdO hs ?_
      refine wp_ldG hs ?_
      refine wp_call (dspan_c b hs) fun _ w' hs => ?_
      obtain ⟨rfl, hs⟩ := hs
      refine ret_of ?_ ⟨trivial, fun _ => run_ldO hs⟩
      refine wp_nn ?_
      refine wp_untick ?_
      have e : IntKind.wrap .i64 (b.base + spanB b) = b.base + spanB b := w64 (by have := hnum.2.1; omega) (by omega)
      rw [e]
      refine wp_stO hs fun w' hs => ?_
      refine wp_untick ?_
      exact wp_lv hs.sub
    clear hs
    rintro _ w hs
    refine wp_on ?_
    refine wp_ldO hs ?_
    have hkind : k < 0 ↔ (opF A b.pid).isSome = false := by
      rcases hkc with ⟨h6, h7⟩ | ⟨i, hi, h6, h7⟩
      · rw [h7]; simp; omega
      · rw [h7]; simp; omega
    by_cases hnew : b.kind = 1 ∧ k < 0
    · have ho : (opF A b.pid).isSome = false := hkind.1 hnew.2
      have htv : takeV A b = ⟨b.base + spanB b, A.op ++ [⟨b.pid, b.epoch, b.base, -1⟩], A.fa⟩ := by unfold takeV; rw [if_pos ⟨hnew.1, ho⟩]
      rw [htv]
      refine wp_mid (fun _ w' => Sat w' (pt a0 (.cells #[.int .i64 b.base, .int .i64 b.pid, .int .i64 b.epoch, .int .i64 b.seq, .int .i64 b.kind, .int .i64 b.time, .slice b.x.a b.x.len b.x.cap] T.api_Batch) :: dwP q ⟨b.base + spanB b, A.op ++ [⟨b.pid, b.epoch, b.base, -1⟩], A.fa⟩ :: r)) ?_ ?_
      · refine wp_ifT ?_ hnew
        refine wp_nn ?_
        refine wp_ldO hs ?_
        refine wp_app' (x := ⟨none, 0, 0⟩) (xs := []) (ys := A.op) (enc := encX) (hs.slc_nil (T := T.towpathref08_Txn) (sz := 4)) (fun z w' hs => ?_) (by simp; omega)
        rw [List.nil_append] at hs
        refine wp_ldO hs ?_
        refine wp_ldO hs ?_
        refine wp_ldO hs ?_
        refine wp_ap0 hs (xs := A.op) (enc := encX) (⟨b.pid, b.epoch, b.base, -1⟩ : TxnA) (fun z w' hs => ?_)
        refine wp_nn ?_
        refine wp_stO hs fun w' hs => ?_
        refine wp_lv ?_
        have hs := dw_close (q := q) ⟨b.base + spanB b, A.op ++ [⟨b.pid, b.epoch, b.base, -1⟩], A.fa⟩ (x := z) (y := y) (hs.pick [0, 0, 1])
        exact hs.sub
      clear hs
      rintro _ w hs
      refine wp_on ?_
      refine wp_ldG hs ?_
      refine wp_call (dmark_c b hs) fun _ _ hs => ?_
      obtain ⟨rfl, hs⟩ := hs
      refine ret_of ?_
      refine wp_mid (fun _ w' => Sat w' (dwP q ⟨b.base + spanB b, A.op ++ [⟨b.pid, b.epoch, b.base, -1⟩], A.fa⟩ :: r)) ?_ (by rintro _ w' hs; refine wp_on ?_; exact ⟨rfl, rfl, hs⟩)
      refine wp_ifF ?_ (fun h => by omega)
      exact wp_lv hs.tail
    refine wp_mid (fun _ w' => Sat w' (pt q (.cells #[.int .i64 (b.base + spanB b), .slice x.a x.len x.cap, .slice y.a y.len y.cap] T.towpathref08_View) :: slc T.towpathref08_Txn 4 x (A.op.flatMap encX) :: slc T.towpathref08_Txn 4 y (A.fa.flatMap encX) :: pt a0 (.cells #[.int .i64 b.base, .int .i64 b.pid, .int .i64 b.epoch, .int .i64 b.seq, .int .i64 b.kind, .int .i64 b.time, .slice b.x.a b.x.len b.x.cap] T.api_Batch) :: r)) (by refine wp_ifF ?_ hnew; exact wp_lv hs) ?_
    clear hs
    rintro _ w hs
    refine wp_on ?_
    refine wp_ldG hs ?_
    refine wp_call (dmark_c b hs) fun _ _ hs => ?_
    obtain ⟨rfl, hs⟩ := hs
    refine ret_of ?_
    refine wp_mid (fun _ w' => Sat w' (dwP q (takeV A b) :: r)) ?_ (by rintro _ w' hs; refine wp_on ?_; exact ⟨rfl, rfl, hs⟩)
    have hnew' : ¬ (b.kind = 1 ∧ (opF A b.pid).isSome = false) := fun h => hnew ⟨h.1, hkind.2 h.2⟩
    refine wp_if (fun hm => ?_) fun hm => ?_
    rotate_left
    · have htv : takeV A b = ⟨b.base + spanB b, A.op, A.fa⟩ := by
        unfold takeV; rw [if_neg hnew', if_neg (fun h => hm ⟨h.1, by
          have : ¬ k < 0 := fun h2 => by have := hkind.1 h2; rw [this] at h; cases h.2
          omega⟩)]
      rw [htv]
      refine wp_lv ?_
      have hs := dw_close (q := q) ⟨b.base + spanB b, A.op, A.fa⟩ (x := x) (y := y) hs
      exact hs.sub
    obtain ⟨i, hi, hki, hoi⟩ : ∃ (i : Nat) (h : i < A.op.length), k = (i : Int) ∧ opF A b.pid = some A.op[i] := by
      rcases hkc with ⟨h6, h7⟩ | h
      · omega
      · exact h
    have hpid := (opF_some hoi).2
    subst hki
    refine wp_nn ?_
    refine wp_ldO hs ?_
    refine wp_ixA hs (xs := A.op) (enc := encX) i hi ?_
    refine wp_newO hs fun c w' hs => ?_
    refine wp_stG hs fun w' hs => ?_
    refine wp_nn ?_
    refine wp_ldO hs ?_
    have hcap := (hs.pick [2]).slc_cap
    refine wp_must ⟨by omega, show ((i : Nat) : Int) ≤ ((x.cap : Nat) : Int) by omega⟩ ?_
    rw [Int.toNat_natCast]
    have e1 : IntKind.wrap .i64 ((i : Int) + 1) = ((i + 1 : Nat) : Int) := by rw [w64 (by omega) (by omega)]; omega
    have hF1 : ∀ {L : List HP} [FocR L x 4 (A.op.flatMap encX)], FocR L ⟨x.a, i, x.cap⟩ 4 ((A.op.take i).flatMap encX) := fun {L} _ => FocR.pre (by omega)
    have hF2 : ∀ {L : List HP} [FocR L x 4 (A.op.flatMap encX)], FocR L ⟨cutA x.a 4 (i + 1) x.cap, x.len - (i + 1), x.cap - (i + 1)⟩ 4 ((A.op.drop (i + 1)).flatMap encX) := fun {L} _ => FocR.post hcap
    refine wp_app' (x := ⟨none, 0, 0⟩) (y := ⟨x.a, i, x.cap⟩) (xs := []) (ys := A.op.take i) (enc := encX) (hy := hF1) (hs.slc_nil (T := T.towpathref08_Txn) (sz := 4)) (fun z w' hs => ?_) (by simp; omega)
    rw [List.nil_append] at hs
    refine wp_nn ?_
    refine wp_ldO hs ?_
    rw [e1]
    refine wp_must ⟨by omega, show ((i + 1 : Nat) : Int) ≤ ((x.len : Nat) : Int) by omega⟩ ?_
    rw [Int.toNat_natCast]
    refine wp_app' (x := z) (y := ⟨cutA x.a 4 (i + 1) x.cap, x.len - (i + 1), x.cap - (i + 1)⟩) (xs := A.op.take i) (ys := A.op.drop (i + 1)) (enc := encX) (hy := hF2) hs (fun z w' hs => ?_) (by simp; omega)
    have e5 := drop_at hi hok.pids
    rw [hpid] at e5
    rw [e5] at hs
    refine wp_nn ?_
    refine wp_stO hs fun w' hs => ?_
    refine wp_ldO hs ?_
    have hisS : (opF A b.pid).isSome = true := by rw [hoi]; rfl
    refine wp_mid (fun _ w' => Sat w' (dwP q (takeV A b) :: r)) ?_ (by rintro _ w' hs; refine wp_on ?_; exact wp_lv hs)
    refine wp_if (fun h3 => ?_) fun h3 => ?_
    · have htv : takeV A b = ⟨b.base + spanB b, dropP b.pid A.op, A.fa ++ [⟨A.op[i].pid, A.op[i].epoch, A.op[i].first, b.base⟩]⟩ := by
        unfold takeV; rw [if_neg hnew', if_pos ⟨hm.1, hisS⟩, if_pos h3, hoi]; rfl
      rw [htv]
      refine wp_ldO hs ?_
      refine wp_stO hs fun w' hs => ?_
      refine wp_nn ?_
      refine wp_ldO hs ?_
      refine wp_app' (x := ⟨none, 0, 0⟩) (y := y) (xs := []) (ys := A.fa) (enc := encX) (hs.slc_nil (T := T.towpathref08_Txn) (sz := 4)) (fun u w' hs => ?_) (by simp; omega)
      rw [List.nil_append] at hs
      refine wp_ldG hs ?_
      refine wp_ap0 hs (xs := A.fa) (enc := encX) (⟨A.op[i].pid, A.op[i].epoch, A.op[i].first, b.base⟩ : TxnA) (fun u w' hs => ?_)
      refine wp_nn ?_
      refine wp_stO hs fun w' hs => ?_
      refine wp_lv ?_
      have hs : Sat w' (pt q (.cells #[.int .i64 (b.base + spanB b), .slice z.a z.len z.cap, .slice u.a u.len u.cap] T.towpathref08_View) :: slc T.towpathref08_Txn 4 z ((dropP b.pid A.op).flatMap encX) :: slc T.towpathref08_Txn 4 u ((A.fa ++ [(⟨A.op[i].pid, A.op[i].epoch, A.op[i].first, b.base⟩ : TxnA)]).flatMap encX) :: r) := hs.sub
      exact dw_close ⟨b.base + spanB b, dropP b.pid A.op, A.fa ++ [⟨A.op[i].pid, A.op[i].epoch, A.op[i].first, b.base⟩]⟩ hs
    · have htv : takeV A b = ⟨b.base + spanB b, dropP b.pid A.op, A.fa⟩ := by
        unfold takeV; rw [if_neg hnew', if_pos ⟨hm.1, hisS⟩, if_neg h3]
      rw [htv]
      refine wp_lv ?_
      have hs : Sat w' (pt q (.cells #[.int .i64 (b.base + spanB b), .slice z.a z.len z.cap, .slice y.a y.len y.cap] T.towpathref08_View) :: slc T.towpathref08_Txn 4 z ((dropP b.pid A.op).flatMap encX) :: slc T.towpathref08_Txn 4 y (A.fa.flatMap encX) :: r) := hs.sub
      exact dw_close ⟨b.base + spanB b, dropP b.pid A.op, A.fa⟩ hs
end
end Go.Dec
