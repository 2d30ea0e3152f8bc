/- Isolation: a view out of bytes. -/
import Derived.Test.YtpjfebedfejmgaaGreatV6
import Derived.Test.YtpjfebedfejmgaaGreatWr4
namespace Go.Dec
set_option linter.unusedVariables false
set_option linter.unusedSimpArgs false

def up (n most : Nat) : Int := if n > most then (most : Int) + 1 else n
theorem up_le {n most : Nat} (h : n ≤ most) : up n most = n := by unfold up; rw [if_neg (by omega)]
theorem up_is {n most : Nat} (h : up n most ≤ most) : n ≤ most := by unfold up at h; split at h <;> omega
theorem up_nn (n most : Nat) : 0 ≤ up n most := by unfold up; split <;> omega

/-- Three numbers, one behind the other. -/
def R3 (R : RdM) : RdM := R.uint.2.uint.2.uint.2
theorem read3 {R : RdM} (hb : R.at_ ≤ R.bs.length) :
    (R.e = 0 ∧ (R3 R).e = 0 ∧ (R3 R).at_ ≤ (R3 R).bs.length ∧ R.uint.1 < 18446744073709551616 ∧ R.uint.2.uint.1 < 18446744073709551616 ∧ R.uint.2.uint.2.uint.1 < 18446744073709551616 ∧ Rest R = uintL R.uint.1 ++ (uintL R.uint.2.uint.1 ++ (uintL R.uint.2.uint.2.uint.1 ++ Rest (R3 R)))) ∨
    ((R3 R).e ≠ 0 ∧ (R3 R).at_ ≤ (R3 R).bs.length ∧ (R.e = 0 → ∀ a b c z, a < 18446744073709551616 → b < 18446744073709551616 → c < 18446744073709551616 → Rest R ≠ uintL a ++ (uintL b ++ (uintL c ++ z)))) := by
  unfold R3
  rcases uint_cases hb with ⟨a1, a2, a3, a4, a5, a6⟩ | ⟨a1, a2, a3, a4⟩
  · rcases uint_cases a4 with ⟨b1, b2, b3, b4, b5, b6⟩ | ⟨b1, b2, b3, b4⟩
    · rcases uint_cases b4 with ⟨c1, c2, c3, c4, c5, c6⟩ | ⟨c1, c2, c3, c4⟩
      · exact .inl ⟨a1, c3, c4, a2, b2, c2, by rw [a6, b6, c6]⟩
      · refine .inr ⟨c2, c3, fun _ a b c z ha hb' hc h => ?_⟩
        rw [a6] at h
        have h := (uintL_inj a2 ha h).2
        rw [b6] at h
        have h := (uintL_inj b2 hb' h).2
        exact c4 b3 c z hc h
    · rcases uint_cases b3 with ⟨c1, -⟩ | ⟨c1, c2, c3, c4⟩
      · exact absurd c1 b2
      · refine .inr ⟨c2, c3, fun _ a b c z ha hb' hc h => ?_⟩
        rw [a6] at h
        have h := (uintL_inj a2 ha h).2
        exact b4 a3 b _ hb' h
  · rcases uint_cases a3 with ⟨b1, -⟩ | ⟨b1, b2, b3, b4⟩
    · exact absurd b1 a2
    · rcases uint_cases b3 with ⟨c1, -⟩ | ⟨c1, c2, c3, c4⟩
      · exact absurd c1 b2
      · exact .inr ⟨c2, c3, fun h0 a b c z ha hb' hc h => a4 h0 a _ ha h⟩

/-! ### Transactions as bytes are told apart -/
def num3 (t : TxnA) : Prop := (0 ≤ t.pid ∧ t.pid < 18446744073709551616) ∧ (0 ≤ t.epoch ∧ t.epoch < 18446744073709551616) ∧ (0 ≤ t.first ∧ t.first < 18446744073709551616)
theorem enc3_inj {t u : TxnA} {x y : List UInt8} (ht : num3 t) (hu : num3 u) (h : enc3 t ++ x = enc3 u ++ y) : (t.pid = u.pid ∧ t.epoch = u.epoch ∧ t.first = u.first) ∧ x = y := by
  unfold enc3 at h
  simp only [List.append_assoc] at h
  obtain ⟨h1, h⟩ := uI_inj ht.1 hu.1 h
  obtain ⟨h2, h⟩ := uI_inj ht.2.1 hu.2.1 h
  obtain ⟨h3, h⟩ := uI_inj ht.2.2 hu.2.2 h
  exact ⟨⟨h1, h2, h3⟩, h⟩
theorem enc4_inj {t u : TxnA} {x y : List UInt8} (ht : num3 t) (hu : num3 u) (ht2 : 0 ≤ t.last ∧ t.last < 18446744073709551616) (hu2 : 0 ≤ u.last ∧ u.last < 18446744073709551616) (h : enc4 t ++ x = enc4 u ++ y) : t = u ∧ x = y := by
  unfold enc4 at h
  simp only [List.append_assoc] at h
  obtain ⟨h1, h⟩ := uI_inj ht.1 hu.1 h
  obtain ⟨h2, h⟩ := uI_inj ht.2.1 hu.2.1 h
  obtain ⟨h3, h⟩ := uI_inj ht.2.2 hu.2.2 h
  obtain ⟨h4, h⟩ := uI_inj ht2 hu2 h
  refine ⟨?_, h⟩
  cases t; cases u
  simp only at h1 h2 h3 h4
  rw [h1, h2, h3, h4]
def vld3 (t : TxnA) : Prop := num3 t ∧ t.last = -1
def vld4 (t : TxnA) : Prop := num3 t ∧ (0 ≤ t.last ∧ t.last < 18446744073709551616)
theorem pre3 : ∀ {ts us : List TxnA} {x z : List UInt8}, (∀ t ∈ ts, vld3 t) → (∀ t ∈ us, vld3 t) → ts.length ≤ us.length → ts.flatMap enc3 ++ x = us.flatMap enc3 ++ z → ∃ rs, us = ts ++ rs ∧ x = rs.flatMap enc3 ++ z
  | [], us, x, z, _, _, _, h => ⟨us, rfl, by simpa using h⟩
  | t :: ts, [], x, z, _, _, hl, _ => by simp at hl
  | t :: ts, u :: us, x, z, ht, hu, hl, h => by
    have h1 := ht t (List.mem_cons_self ..)
    have h2 := hu u (List.mem_cons_self ..)
    rw [List.flatMap_cons, List.flatMap_cons, List.append_assoc, List.append_assoc] at h
    obtain ⟨⟨e1, e2, e3⟩, h⟩ := enc3_inj h1.1 h2.1 h
    obtain ⟨rs, h3, h4⟩ := pre3 (fun t h => ht t (List.mem_cons_of_mem _ h)) (fun t h => hu t (List.mem_cons_of_mem _ h)) (by simpa using hl) h
    refine ⟨rs, ?_, h4⟩
    have : t = u := by
      have := h1.2; have := h2.2
      cases t; cases u
      simp_all
    rw [this, h3]; rfl
theorem pre4 : ∀ {ts us : List TxnA} {x z : List UInt8}, (∀ t ∈ ts, vld4 t) → (∀ t ∈ us, vld4 t) → ts.length ≤ us.length → ts.flatMap enc4 ++ x = us.flatMap enc4 ++ z → ∃ rs, us = ts ++ rs ∧ x = rs.flatMap enc4 ++ z
  | [], us, x, z, _, _, _, h => ⟨us, rfl, by simpa using h⟩
  | t :: ts, [], x, z, _, _, hl, _ => by simp at hl
  | t :: ts, u :: us, x, z, ht, hu, hl, h => by
    have h1 := ht t (List.mem_cons_self ..)
    have h2 := hu u (List.mem_cons_self ..)
    rw [List.flatMap_cons, List.flatMap_cons, List.append_assoc, List.append_assoc] at h
    obtain ⟨e1, h⟩ := enc4_inj h1.1 h2.1 h1.2 h2.2 h
    obtain ⟨rs, h3, h4⟩ := pre4 (fun t h => ht t (List.mem_cons_of_mem _ h)) (fun t h => hu t (List.mem_cons_of_mem _ h)) (by simpa using hl) h
    exact ⟨rs, by rw [e1, h3]; rfl, h4⟩
theorem okT_num {t : TxnA} {n : Int} (h : okT t n) (hn : n ≤ 1099511627777) : num3 t := by
  have h1 := h.pid
  have h2 := h.epoch
  have h3 := h.first
  exact ⟨by omega, by omega, by omega⟩
theorem okV_vld3 {A : ViewA} (h : okV A) : ∀ t ∈ A.op, vld3 t := fun t ht => ⟨okT_num (h.op t ht).1 h.next.2, (h.op t ht).2⟩
theorem okV_vld4 {A : ViewA} (h : okV A) : ∀ t ∈ A.fa, vld4 t := fun t ht => by
  obtain ⟨h1, h2, h3⟩ := h.fa t ht
  have := h1.first
  have := h.next
  exact ⟨okT_num h1 h.next.2, by omega, by omega⟩

section
variable {w : World} {l r : List HP} {v p : Nat} {A : ViewA} {R : RdM}

theorem vw_mk (m1 m2 : Nat) (A : ViewA) (hok : okV A) {es1 : List (Int × TxnA)} {es2 : List ((Int × Int) × TxnA)} (hp1 : es1.Perm (opK A)) (hp2 : es2.Perm (faK A))
    (hs : Sat w (pt v (.cells #[.int .i64 A.next, .map (some m1), .map (some m2)] T.iso_View) :: mapP ekI evX m1 es1 :: mapP ekK evX m2 es2 :: l)) : Sat w (vw v A :: l) := by
  have hs := ((hs.pick [1]).mapPerm hp1)
  have hs := ((hs.pick [2]).mapPerm hp2)
  refine .ex_mk (m1, m2) (.and_mk hok (.star_mk ?_))
  exact (Sat.star_mk (hs.pick [1, 0])).pick [1]

theorem upto_c (most : Nat) (hm : most ≤ 1099511627777) [hf : Fo l (rdP T.wire_Reader) p R r] (hs : Sat w l) : Ret P F.iso_upto #[.pointer (some ⟨p, 0, none⟩), .int .i64 (most : Int)] w fun vs w' => vs = [.int .i64 (up R.uint.1 most)] ∧ Sat w' (rdP T.wire_Reader p R.uint.2 :: r) :=
  iso_upto_calls _ _ <| by
    unfold iso_upto
    have hb := (rd_bound (hs.perm hf.perm)).1
    refine wp_call (ruint_c (p := p) hs) fun _ _ hs => ?_
    obtain ⟨rfl, hs⟩ := hs
    refine ret_of ?_
    refine wp_lt ?_
    rw [wu64m, Nat.mod_eq_of_lt (by omega)]
    unfold up
    refine wp_if (fun h => ?_) fun h => ?_
    · rw [if_pos (by omega)]
      refine wp_ltw ?_
      exact ⟨rfl, rfl, hs⟩
    · rw [if_neg (by omega)]
      refine wp_ltw ?_
      exact ⟨rfl, rfl, hs⟩

theorem named_c (next : Int) [hf : Fo l (rdP T.wire_Reader) p R r] (hs : Sat w l) :
    Ret P F.iso_named #[.pointer (some ⟨p, 0, none⟩), .int .i64 next] w fun vs w' =>
      vs = [.agg (encX ⟨up R.uint.1 1048576, up R.uint.2.uint.1 32767, up R.uint.2.uint.2.uint.1 1099511627776, -1⟩).toArray, .bool (decide ((R3 R).e = 0 ∧ 1 ≤ up R.uint.1 1048576 ∧ up R.uint.1 1048576 ≤ 1048576 ∧ up R.uint.2.uint.1 32767 ≤ 32767 ∧ up R.uint.2.uint.2.uint.1 1099511627776 < next))] ∧
      Sat w' (rdP T.wire_Reader p (R3 R) :: r) :=
  iso_named_calls _ next <| by
    unfold iso_named
    refine wp_newO (hs.perm hf.perm) fun a0 w' hs => ?_
    refine wp_call (upto_c (p := p) 1048576 (by omega) hs) fun _ _ hs => ?_
    obtain ⟨rfl, hs⟩ := hs
    refine ret_of ?_
    refine wp_call (upto_c (p := p) 32767 (by omega) hs) fun _ _ hs => ?_
    obtain ⟨rfl, hs⟩ := hs
    refine ret_of ?_
    refine wp_call (upto_c (p := p) 1099511627776 (by omega) hs) fun _ _ hs => ?_
    obtain ⟨rfl, hs⟩ := hs
    refine ret_of ?_
    have hs : Sat _ (rdP T.wire_Reader p (R3 R) :: _) := hs
    refine wp_newO hs fun a4 w' hs => ?_
    refine wp_stG hs fun w' hs => ?_
    refine wp_mid (fun u w' => u = (decide ((R3 R).e = 0 ∧ 1 ≤ up R.uint.1 1048576 ∧ up R.uint.1 1048576 ≤ 1048576 ∧ up R.uint.2.uint.1 32767 ≤ 32767 ∧ up R.uint.2.uint.2.uint.1 1099511627776 < next), ()) ∧
      Sat w' (pt a0 (.cells #[.int .i64 (up R.uint.1 1048576), .int .i64 (up R.uint.2.uint.1 32767), .int .i64 (up R.uint.2.uint.2.uint.1 1099511627776), .int .i64 (-1)] T.iso_life) :: rdP T.wire_Reader p (R3 R) :: r)) ?_ ?_
    · refine wp_tk hs fun w' hs => ?_
      refine wp_hdG hs ?_
      refine wp_call (rerr_c (p := p) hs) fun _ w' hs => ?_
      obtain ⟨rfl, hs⟩ := hs
      refine ret_of ?_ ⟨trivial, fun _ => run_ldG hs⟩
      refine wp_ldO hs ?_
      refine wp_ldO hs ?_
      refine wp_ldO hs ?_
      refine wp_hdO hs ?_
      refine wp_stG hs (fun w' hs => ?_) (fun w' hs => ⟨⟨trivial, fun _ => run_ldG hs⟩, fun _ => run_ldO hs⟩)
      refine wp_lt ?_
      refine wp_untick ?_
      refine wp_lv ⟨?_, hs.sub⟩
      congr 1
      rw [Bool.eq_iff_iff]
      simp only [Bool.and_eq_true, beq_iff_eq, decide_eq_true_eq]
      constructor
      · rintro ⟨⟨⟨⟨h1, h2⟩, h3⟩, h4⟩, h5⟩; exact ⟨h1, h2, h3, h4, h5⟩
      · rintro ⟨h1, h2, h3, h4, h5⟩; exact ⟨⟨⟨⟨h1, h2⟩, h3⟩, h4⟩, h5⟩
    clear hs
    rintro _ w ⟨rfl, hs⟩
    refine wp_on ?_
    refine wp_ldG hs ?_
    exact ⟨rfl, rfl, hs.tail⟩

instance {t : TxnA} {b : Bool} : IsR (.tup [.agg [.int .i64, .int .i64, .int .i64, .int .i64], .one .bool]) [.agg (encX t).toArray, .bool b] ((t.pid, t.epoch, t.first, t.last, b, ()) : Int × Int × Int × Int × Bool × Unit) := ⟨rfl⟩

/-- What one more open transaction asks. -/
theorem okV_more {nx : Int} {ts : List TxnA} {t : TxnA} (hok : okV ⟨nx, ts, []⟩) (hn : ts.length < 1024) (ht : okT t nx ∧ t.last = -1) (hp : ∀ u ∈ ts, u.pid ≠ t.pid) (hf : ∀ u ∈ ts, u.first < t.first) : okV ⟨nx, ts ++ [t], []⟩ := by
  refine ⟨hok.next, ⟨by simp; omega, hok.many.2⟩, fun u hu => ?_, hok.fa, ?_, hok.byLast, ?_, hok.keys, fun _ _ u hu => by cases hu⟩
  · rcases List.mem_append.1 hu with hu | hu
    · exact hok.op u hu
    · rw [List.mem_singleton.1 hu]; exact ht
  · show (ts ++ [t]).Pairwise _
    rw [List.pairwise_append]
    exact ⟨hok.byFirst, by simp, fun a ha b hb => by rw [List.mem_singleton.1 hb]; exact hf a ha⟩
  · show ((ts ++ [t]).map _).Nodup
    rw [List.map_append, List.nodup_append]
    refine ⟨hok.pids, by simp, fun a ha b hb => ?_⟩
    obtain ⟨u, hu, rfl⟩ := List.mem_map.1 ha
    rw [List.map_singleton, List.mem_singleton] at hb
    rw [hb]; exact hp u hu

theorem opened_c {nx : Int} (hnx : 0 ≤ nx ∧ nx ≤ 1099511627777) (hs : Sat w (vw v ⟨nx, [], []⟩ :: rdP T.wire_Reader p R :: l)) :
    Ret P F.iso_View_opened #[.pointer (some ⟨v, 0, none⟩), .pointer (some ⟨p, 0, none⟩)] w fun vs w' =>
      (∃ (ts : List TxnA) (R' : RdM), vs = [.bool true] ∧ R.e = 0 ∧ R'.e = 0 ∧ okV ⟨nx, ts, []⟩ ∧ Rest R = uintL ts.length ++ (ts.flatMap enc3 ++ Rest R') ∧ Sat w' (vw v ⟨nx, ts, []⟩ :: rdP T.wire_Reader p R' :: l)) ∨
      (vs = [.bool false] ∧ (R.e = 0 → ∀ us z, okV ⟨nx, us, []⟩ → Rest R ≠ uintL us.length ++ (us.flatMap enc3 ++ z)) ∧ Sat w' l) :=
  iso_View_opened_calls _ _ <| by
    unfold iso_View_opened
    have hb := (rd_bound (hs.pick [1])).1
    refine wp_call (upto_c (p := p) 1024 (by omega) hs) fun _ w' hs => ?_
    obtain ⟨rfl, hs⟩ := hs
    refine ret_of ?_
    refine wp_lt ?_
    have hbadlen : ∀ us : List TxnA, okV ⟨nx, us, []⟩ → us.length < 18446744073709551616 := fun us h => by have := h.many.1; simp at this; omega
    refine wp_mid (fun _ w' => ∃ (ts : List TxnA) (R' : RdM), ((R.e = 0 ∧ R'.e = 0 ∧ Rest R = uintL ts.length ++ (ts.flatMap enc3 ++ Rest R')) ∨ (R'.e ≠ 0 ∧ (R.e = 0 → ∀ us z, okV ⟨nx, us, []⟩ → Rest R ≠ uintL us.length ++ (us.flatMap enc3 ++ z)))) ∧ okV ⟨nx, ts, []⟩ ∧ Sat w' (vw v ⟨nx, ts, []⟩ :: rdP T.wire_Reader p R' :: l)) ?_ ?_
    rotate_left
    · rintro _ w' ⟨ts, R', hc, hok, hs⟩
      refine wp_on ?_
      refine wp_call (rerr_c (p := p) hs) fun _ _ hs => ?_
      obtain ⟨rfl, hs⟩ := hs
      refine ret_of ?_
      refine wp_lt ?_
      rcases hc with ⟨h0, h1, h2⟩ | ⟨h1, h2⟩
      · exact ⟨rfl, .inl ⟨ts, R', by simp [h1], h0, h1, hok, h2, hs.sub⟩⟩
      · exact ⟨rfl, .inr ⟨by simp [h1], h2, hs.tail.tail⟩⟩
    have hok0 : okV ⟨nx, [], []⟩ := ⟨hnx, by simp, by simp, by simp, by simp, by simp, by simp, by simp, by simp⟩
    rcases uint_cases hb with ⟨a1, a2, a3, a4, a5, a6⟩ | ⟨a1, a2, a3, a4⟩
    rotate_left
    · -- no number
      rw [a1]
      refine wp_loop (fun k u w => u = ((-1 : Int), (0 : Int), ()) ∧ Sat w (rdP T.wire_Reader p R.uint.2 :: vw v ⟨nx, [], []⟩ :: l)) 0 ⟨rfl, hs⟩ ?_
      clear hs
      rintro k _ w ⟨rfl, hs⟩
      refine wp_on ?_
      refine wp_ifF ?_ (by rw [up_le (by omega)]; simp)
      exact wp_pass (wp_lv ⟨[], R.uint.2, .inr ⟨a2, fun h0 us z hus h => a4 h0 _ _ (hbadlen us hus) h⟩, hok0, hs.sub⟩)
    generalize R.uint.1 = c at *
    generalize R.uint.2 = R1 at *
    refine wp_loop (fun k u w => ∃ (ts : List TxnA) (Ri : RdM) (ah : Int), u = (ah, ((ts.length : Nat) : Int), ()) ∧ ts.length ≤ 1024 ∧ ts.length ≤ c ∧ 1024 - ts.length = k ∧ Ri.e = 0 ∧ okV ⟨nx, ts, []⟩ ∧ Rest R1 = ts.flatMap enc3 ++ Rest Ri ∧ -1 ≤ ah ∧ (∀ t ∈ ts, t.first ≤ ah) ∧ (ah = -1 ∨ ∃ t ∈ ts, ah = t.first) ∧ Sat w (vw v ⟨nx, ts, []⟩ :: rdP T.wire_Reader p Ri :: l)) 1024
      ⟨[], R1, -1, rfl, by simp, by simp, rfl, a3, hok0, rfl, by omega, by simp, .inl rfl, hs.pick [1]⟩ ?_
    clear hs
    rintro k _ w ⟨ts, Ri, ah, rfl, h1024, hlc, hk, hei, hok, hrest, hah0, hah1, hah2, hs⟩
    refine wp_on ?_
    refine wp_if (fun hc => ?_) fun hc => ?_
    rotate_left
    · have : c = ts.length := by unfold up at hc; split at hc <;> omega
      exact wp_pass (wp_lv ⟨ts, Ri, .inl ⟨a1, hei, by rw [a6, this, hrest]⟩, hok, hs⟩)
    have htc : ts.length < c := by unfold up at hc; split at hc <;> omega
    obtain ⟨m1, m2, -, hs⟩ := vw_open hs
    refine wp_nn ?_
    refine wp_ldO hs ?_
    have hbi := (rd_bound (hs.pick [3])).1
    refine wp_call (named_c (p := p) nx hs) fun _ w' hs => ?_
    obtain ⟨rfl, hs⟩ := hs
    refine ret_of ?_
    generalize hP : up Ri.uint.1 1048576 = p' at *
    generalize hE : up Ri.uint.2.uint.1 32767 = e' at *
    generalize hF : up Ri.uint.2.uint.2.uint.1 1099511627776 = f' at *
    have hs : Sat w' (rdP T.wire_Reader p (R3 Ri) :: pt v (.cells #[.int .i64 nx, .map (some m1), .map (some m2)] T.iso_View) :: mapP ekI evX m1 (opK ⟨nx, ts, []⟩) :: mapP ekK evX m2 (faK ⟨nx, ts, []⟩) :: l) := hs
    refine wp_newO hs fun c1 w' hs => ?_
    refine wp_stG hs fun w' hs => ?_
    refine wp_lt ?_
    have ho := opF_look ⟨nx, ts, []⟩ p'
    refine wp_mid (fun u w' => u = ((opF ⟨nx, ts, []⟩ p').isSome, ()) ∧ Sat w' (pt c1 (.cells #[.int .i64 p', .int .i64 e', .int .i64 f', .int .i64 (-1)] T.iso_life) :: rdP T.wire_Reader p (R3 Ri) :: pt v (.cells #[.int .i64 nx, .map (some m1), .map (some m2)] T.iso_View) :: mapP ekI evX m1 (opK ⟨nx, ts, []⟩) :: mapP ekK evX m2 (faK ⟨nx, ts, []⟩) :: l)) ?_ ?_
    · refine wp_tk hs fun w' hs => ?_
      refine wp_nn ?_
      refine wp_hdO hs ?_
      refine wp_hdO hs ?_
      refine wp_lookH hs (opF ⟨nx, ts, []⟩ p') ho lookD ?_
      refine wp_u5 _ _ _ _ _ ?_
      refine wp_newO hs (fun c2 w' hs => ?_) (fun c2 w' hs => ⟨⟨⟨trivial, fun _ => run_ldO hs⟩, fun _ => run_ldO hs⟩, fun _ => look_keep (ss := lkS) hs ho lookD⟩)
      refine wp_untick ?_
      refine wp_stG hs fun w' hs => ?_
      refine wp_lt ?_
      refine wp_untick ?_
      exact wp_lv ⟨rfl, hs.sub⟩
    clear hs
    rintro _ w ⟨rfl, hs⟩
    refine wp_on ?_
    refine wp_ldO hs ?_
    refine wp_if (fun hbad => ?_) fun hgood => ?_
    · -- it may not be
      refine wp_pass (wp_pass ⟨rfl, .inr ⟨rfl, fun _ us z hus he => ?_, hs.tail.tail.tail.tail.tail⟩⟩)
      rw [a6] at he
      obtain ⟨hcu, he⟩ := uintL_inj a2 (hbadlen us hus) he
      have hmu := hus.many.1
      simp only at hmu
      rw [hrest] at he
      obtain ⟨rs, hus2, he2⟩ := pre3 (okV_vld3 hok) (okV_vld3 hus) (show ts.length ≤ us.length by omega) he
      have hus2 : us = ts ++ rs := hus2
      clear he
      cases rs with
      | nil => rw [hus2] at hcu; simp at hcu; omega
      | cons t rs =>
        subst hus2
        have he : Rest Ri = (t :: rs).flatMap enc3 ++ z := he2
        have htm : t ∈ ts ++ t :: rs := by simp
        obtain ⟨ht1, ht2⟩ := hus.op t htm
        have tp := ht1.pid
        have te := ht1.epoch
        have tf : 0 ≤ t.first ∧ t.first < nx := ht1.first
        rw [List.flatMap_cons, List.append_assoc] at he
        unfold enc3 uI at he
        simp only [List.append_assoc] at he
        rcases read3 hbi with ⟨b1, b2, b3, b4, b5, b6, b7⟩ | ⟨b1, b2, b3⟩
        rotate_left
        · exact b3 hei _ _ _ _ (by omega) (by omega) (by omega) he
        rw [b7] at he
        obtain ⟨q1, he⟩ := uintL_inj b4 (by omega) he
        obtain ⟨q2, he⟩ := uintL_inj b5 (by omega) he
        obtain ⟨q3, he⟩ := uintL_inj b6 (by omega) he
        rw [q1, up_le (by omega)] at hP
        rw [q2, up_le (by omega)] at hE
        rw [q3, up_le (by omega)] at hF
        have hpd := hus.pids
        rw [List.map_append, List.map_cons, List.nodup_append] at hpd
        have hbf := hus.byFirst
        simp only at hbf
        rw [List.pairwise_append] at hbf
        rcases hbad with ((hbad | hbad) | hbad) | hbad
        · exact hbad (by exact ⟨b2, by omega, by omega, by omega, by omega⟩)
        · obtain ⟨u, hu⟩ := Option.isSome_iff_exists.1 hbad
          obtain ⟨hum, hup⟩ := opF_some hu
          exact hpd.2.2 u.pid (List.mem_map.2 ⟨u, hum, rfl⟩) t.pid (by simp) (by rw [hup]; omega)
        · rcases hah2 with h | ⟨u, hu, h⟩
          · omega
          · have := hbf.2.2 u hu t (by simp)
            omega
        · simp at hmu; omega
    -- it may
    have hn1 : (R3 Ri).e = 0 ∧ 1 ≤ p' ∧ p' ≤ 1048576 ∧ e' ≤ 32767 ∧ f' < nx := Decidable.not_not.1 fun h => hgood (.inl (.inl (.inl h)))
    have hn2 : opF ⟨nx, ts, []⟩ p' = none := by
      cases h : opF ⟨nx, ts, []⟩ p' with
      | none => rfl
      | some t => exact absurd (.inl (.inl (.inr (by rw [h]; rfl)))) hgood
    have hn3 : ah < f' := by
      apply Int.lt_of_not_ge
      intro h; exact hgood (.inl (.inr h))
    have hn4 : ts.length < 1024 := by
      apply Nat.lt_of_not_le
      intro h; exact hgood (.inr (by omega))
    rcases read3 hbi with ⟨b1, b2, b3, b4, b5, b6, b7⟩ | ⟨b1, b2, b3⟩
    rotate_left
    · exact absurd hn1.1 b1
    have hp0 := up_nn Ri.uint.1 1048576
    have he0 := up_nn Ri.uint.2.uint.1 32767
    have hf0 := up_nn Ri.uint.2.uint.2.uint.1 1099511627776
    have q1 : Ri.uint.1 ≤ 1048576 := up_is (by omega)
    have q2 : Ri.uint.2.uint.1 ≤ 32767 := up_is (by omega)
    have q3 : Ri.uint.2.uint.2.uint.1 ≤ 1099511627776 := up_is (by omega)
    rw [up_le q1] at hP
    rw [up_le q2] at hE
    rw [up_le q3] at hF
    have hok' : okV ⟨nx, ts ++ [⟨p', e', f', -1⟩], []⟩ := okV_more hok hn4 ⟨⟨⟨hn1.2.1, hn1.2.2.1⟩, ⟨by show 0 ≤ e'; omega, hn1.2.2.2.1⟩, ⟨by show 0 ≤ f'; omega, hn1.2.2.2.2⟩⟩, rfl⟩ (opF_none hn2) (fun u hu => by have := hah1 u hu; show u.first < f'; omega)
    have hno : ∀ u, (p', u) ∉ opK ⟨nx, ts, []⟩ := by
      rcases ho with ⟨t, ht, -⟩ | ⟨-, h⟩
      · rw [hn2] at ht; cases ht
      · exact h
    refine wp_tk hs fun w' hs => ?_
    refine wp_nn ?_
    refine wp_ldO hs ?_
    refine wp_ldO hs ?_
    refine wp_ldG hs ?_
    refine wp_mset hs (opK ⟨nx, ts, []⟩) (.inr ⟨hno, rfl⟩) (⟨p', e', f', -1⟩ : TxnA) fun w' hs => ?_
    refine wp_untick ?_
    refine wp_ldO hs ?_
    refine wp_lt ?_
    refine wp_ltx (y := ((ts.length + 1 : Nat) : Int)) ?_ (by rw [w64 (by omega) (by omega)]; omega)
    refine wp_lp (1024 - (ts.length + 1)) ?_
    refine ⟨ts ++ [⟨p', e', f', -1⟩], R3 Ri, f', by simp, by simp; omega, by simp; omega, by simp, b2, hok', ?_, by omega, ?_, .inr ⟨⟨p', e', f', -1⟩, by simp, rfl⟩, ?_⟩
    · rw [hrest, b7, List.flatMap_append]
      have : ([(⟨p', e', f', -1⟩ : TxnA)].flatMap enc3) = uintL Ri.uint.1 ++ (uintL Ri.uint.2.uint.1 ++ uintL Ri.uint.2.uint.2.uint.1) := by
        simp only [List.flatMap_cons, List.flatMap_nil, List.append_nil, enc3, uI]
        rw [← hP, ← hE, ← hF]
        simp
      rw [this]; simp only [List.append_assoc]
    · intro t ht
      rcases List.mem_append.1 ht with ht | ht
      · have := hah1 t ht; omega
      · rw [List.mem_singleton.1 ht]; exact Int.le_refl _
    · have hperm : ((p', (⟨p', e', f', -1⟩ : TxnA)) :: opK ⟨nx, ts, []⟩).Perm (opK ⟨nx, ts ++ [⟨p', e', f', -1⟩], []⟩) := by
        unfold opK
        rw [List.map_append]
        exact List.perm_append_comm (l₁ := [(p', (⟨p', e', f', -1⟩ : TxnA))])
      exact (vw_mk m1 m2 ⟨nx, ts ++ [⟨p', e', f', -1⟩], []⟩ hok' hperm (.refl _) (hs.pick [3, 0, 2])).sub
end
end Go.Dec
