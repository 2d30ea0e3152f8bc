/- Isolation: Forget, IsoForgets. -/
import Derived.Test.YtpjfebedfejmgaaH3
import Derived.Test.YtpjfebedfejmgaaL4
import Derived.Test.YtpjfebedfejmgaaR3
import Derived.Test.YtpjfebedfejmgaaOpsZ
namespace Go.Dec
set_option linter.unusedVariables false
set_option linter.unusedSimpArgs false

section
variable {w : World} {l r : List HP} {v : Nat} {A : ViewA} {Q : Post} {S : World → Prop}

/-- A function value with what it holds. -/
theorem wp_callvc {f : FuncId} {cap : Array Value} {args : List Value} {s : Sh} {k : HL s.prims → Prog} {vs₀ : List Value} {R : World → Prop} (hok : (P.funcs[f]?).any (fun fn => fn.body.isSome && fn.name != "runtime.NumGoroutine") = true) (x : HL s.prims)
    (hc : Ret P f (args.toArray ++ cap) w fun vs w' => vs = vs₀ ∧ R w') (hx : pack vs₀ = s.mk x) (h : ∀ w', R w' → S w' ∧ (k x).wp P S w' Q) : (Prog.callv (.func (.func f) #[] cap) args s k).wp P S w Q := by
  refine ⟨f, #[], cap, rfl, hok, ?_⟩
  have e : (#[] : Array Value) ++ args.toArray ++ cap = args.toArray ++ cap := by simp
  rw [e]
  refine Calls.mono hc fun e w' ⟨vs, he, hv, hR⟩ => ?_
  exact ⟨x, by rw [he, hv, hx], h w' hR⟩

theorem forget1_c (k : Int × Int) (t : TxnA) (a : Nat) (n : Int) (hs : Sat w (pt a (.cells #[.int .i64 n] T.int64) :: l)) :
    Ret P F.iso_View_Forget_1 #[.agg #[.int .i64 k.1, .int .i64 k.2], .agg #[.int .i64 t.pid, .int .i64 t.epoch, .int .i64 t.first, .int .i64 t.last], .pointer (some ⟨a, 0, none⟩)] w fun vs w' => vs = [.bool (decide (t.last < n))] ∧ Sat w' (pt a (.cells #[.int .i64 n] T.int64) :: l) :=
  iso_View_Forget_1_calls k.1 k.2 t.pid t.epoch t.first t.last (some ⟨a, 0, none⟩) <| by
    unfold iso_View_Forget_1
    refine wp_boxO hs fun a0 w' hs => ?_
    refine wp_boxO hs fun a1 w' hs => ?_
    refine wp_ldO hs ?_
    refine wp_ldO hs ?_
    refine wp_lt ?_
    exact ⟨rfl, rfl, hs.sub⟩

theorem delfunc_c (m a : Nat) (n : Int) (es : List ((Int × Int) × TxnA)) (hs : Sat w (mapP ekK evX m es :: pt a (.cells #[.int .i64 n] T.int64) :: l)) :
    Ret P F.maps_DeleteFunc_map_iso_key_iso_life_iso_key_iso_life #[.map (some m), .func (.func F.iso_View_Forget_1) #[] #[.pointer (some ⟨a, 0, none⟩)]] w fun vs w' => vs = [] ∧ Sat w' (mapP ekK evX m (es.filter fun x => !decide (x.2.last < n)) :: pt a (.cells #[.int .i64 n] T.int64) :: l) :=
  maps_DeleteFunc_map_iso_key_iso_life_iso_key_iso_life_calls (some m) (.func (.func F.iso_View_Forget_1) #[] #[.pointer (some ⟨a, 0, none⟩)]) <| by
    unfold maps_DeleteFunc_map_iso_key_iso_life_iso_key_iso_life
    refine wp_mrange hs fun it w' hs => ?_
    refine wp_mid (fun _ w' => Sat w' (mapP ekK evX m (es.filter fun x => !decide (x.2.last < n)) :: pt a (.cells #[.int .i64 n] T.int64) :: l)) ?_ (by rintro _ w' hs; refine wp_on ?_; exact ⟨rfl, rfl, hs⟩)
    refine wp_loop (fun k x w => ∃ (cur todo don : List ((Int × Int) × TxnA)) (last : Option ((Int × Int) × TxnA)), todo.length = k ∧ es.Perm (todo ++ don) ∧ cur.Perm (todo ++ don.filter fun x => !decide (x.2.last < n)) ∧
      Sat w (itP ekK evX it m cur todo last :: pt a (.cells #[.int .i64 n] T.int64) :: l)) es.length ⟨es, es, [], none, rfl, by simp, by simp, hs⟩ ?_
    clear hs
    rintro k _ w ⟨cur, todo, don, last, hk, hp1, hp2, hs⟩
    refine wp_on ?_
    refine wp_mnext hs (fun k t => (k.1, k.2, t.pid, t.epoch, t.first, t.last, ())) (fun kk t todo' w' hp hs => ?_) fun h0 => ?_
    rotate_left
    · refine wp_pass (wp_lv ?_)
      subst h0
      have h1 : (es.filter fun x => !decide (x.2.last < n)).Perm (don.filter fun x => !decide (x.2.last < n)) := hp1.filter _
      exact hs.itDone.mapPerm (hp2.trans h1.symm)
    refine wp_u6 kk.1 kk.2 t.pid t.epoch t.first t.last ?_
    refine wp_ment hs (kk.1, kk.2, t.pid, t.epoch, t.first, t.last, ()) ?_
    refine wp_u6 kk.1 kk.2 t.pid t.epoch t.first t.last ?_
    refine wp_newO hs fun c w' hs => ?_
    refine wp_newO hs fun d w' hs => ?_
    refine wp_stG hs fun w' hs => ?_
    refine wp_stG hs fun w' hs => ?_
    refine wp_ldG hs ?_
    refine wp_ldG hs ?_
    have hs := hs.pick [3, 0, 1, 0]
    refine wp_callvc (by kernel_rfl) (decide (t.last < n), ()) (forget1_c kk t a n hs) rfl fun w' hs => ⟨trivial, ?_⟩
    refine wp_on ?_
    have hp2' : cur.Perm ((kk, t) :: (todo' ++ don.filter fun x => !decide (x.2.last < n))) := hp2.trans (hp.append_right _)
    have hp1' : es.Perm (todo' ++ (kk, t) :: don) := hp1.trans ((hp.append_right _).trans List.perm_middle.symm)
    have hle : todo.length = todo'.length + 1 := by rw [hp.length_eq, List.length_cons]
    refine wp_mid (fun _ w' => ∃ (cur' : List ((Int × Int) × TxnA)) (last : Option ((Int × Int) × TxnA)), cur'.Perm (todo' ++ ((kk, t) :: don).filter fun x => !decide (x.2.last < n)) ∧ Sat w' (itP ekK evX it m cur' todo' last :: pt a (.cells #[.int .i64 n] T.int64) :: l)) ?_ ?_
    rotate_left
    · rintro _ w' ⟨cur', last, hp3, hs⟩
      refine wp_on ?_
      refine wp_lp todo'.length ?_ (by omega)
      exact ⟨cur', todo', (kk, t) :: don, last, rfl, hp1', hp3, hs⟩
    refine wp_if (fun h => ?_) fun h => ?_
    · refine wp_ldG hs ?_
      refine wp_idel (k := kk) (v := t) it hs (todo' ++ don.filter fun x => !decide (x.2.last < n)) hp2' fun w' hs => ?_
      refine wp_lv ⟨todo' ++ don.filter fun x => !decide (x.2.last < n), none, ?_, hs.sub⟩
      rw [List.filter_cons_of_neg (by simp [h])]
    · refine wp_lv ⟨cur, some (kk, t), ?_, hs.sub⟩
      rw [List.filter_cons_of_pos (by simp; omega)]
      exact hp2'.trans List.perm_middle.symm

theorem iforget_c (n : Int) [hf : Fo l vw v A r] (hs : Sat w l) : Ret P F.iso_View_Forget #[.pointer (some ⟨v, 0, none⟩), .int .i64 n] w fun vs w' => vs = [.int .i64 ((A.fa.length : Int) - ((forgetA A n).fa.length : Int))] ∧ Sat w' (vw v (forgetA A n) :: r) :=
  iso_View_Forget_calls _ n <| by
    unfold iso_View_Forget
    obtain ⟨m1, m2, hok, hs⟩ := vw_open (hs.perm hf.perm)
    refine wp_boxO hs fun a w' hs => ?_
    refine wp_ifF ?_ (by simp)
    refine wp_nn ?_
    refine wp_ldO hs ?_
    refine wp_mlen hs ?_
    refine wp_lt ?_
    refine wp_nn ?_
    refine wp_ldO hs ?_
    have hs := hs.pick [3, 0, 0, 0]
    refine wp_call (delfunc_c m2 a n (faK A) hs) fun _ _ hs => ?_
    obtain ⟨rfl, hs⟩ := hs
    refine ret_of ?_
    refine wp_nn ?_
    refine wp_ldO hs ?_
    refine wp_mlen hs ?_
    have e : (faK A).filter (fun x => !decide (x.2.last < n)) = faK (forgetA A n) := by
      unfold faK forgetA
      rw [List.filter_map]
      rfl
    have l1 : (faK A).length = A.fa.length := List.length_map ..
    have l2 : (faK (forgetA A n)).length = (forgetA A n).fa.length := List.length_map ..
    rw [e, l1, l2]
    have hok' := okV_forget hok n
    have hm1 := hok.many.2
    have hm2 := hok'.many.2
    refine wp_ltw ?_
    refine ⟨rfl, rfl, ?_⟩
    rw [e] at hs
    exact vw_close m1 m2 (A := forgetA A n) hok' hs

theorem filter_at {α : Type} {p : α → Bool} (xs : List α) (j : Nat) (hj : j < xs.length) (hp : p xs[j] = true) : ∃ h : ((xs.take j).filter p).length < (xs.filter p).length, (xs.filter p)[((xs.take j).filter p).length] = xs[j] := by
  have e : xs.filter p = (xs.take j).filter p ++ xs[j] :: (xs.drop (j + 1)).filter p := by
    conv => lhs; rw [← List.take_append_drop j xs, List.filter_append, List.drop_eq_getElem_cons hj, List.filter_cons_of_pos hp]
  refine ⟨by rw [e]; simp, ?_⟩
  simp only [e]
  simp

theorem forgets_law (x : Sl) (ops : List OpI) (off : Int) [hx : FocR l x 10 (ops.flatMap encO)] (hlen : ops.length ≤ 9223372036854775807) (hops : ∀ o ∈ ops, OpJ l o) (hs : Sat w l) :
    Ret P F.towpathlaw08_IsoForgets #[x.v, .int .i64 off] w fun vs w' => vs = [.bool true] ∧ Sat w' l :=
  towpathlaw08_IsoForgets_calls x off <| by
    unfold towpathlaw08_IsoForgets
    refine wp_call (taken_c x ops hlen hops hs) fun _ _ hs => ?_
    obtain ⟨v, z, bs, A, rfl, hh, hbl, hb5, hs⟩ := hs
    refine ret_of ?_
    refine wp_ifF ?_ (by simp)
    have hok := hist_ok hh
    have hnx := hok.next
    have hr : ∀ b ∈ bs, b.rs.length ≤ 1000 := fun b hb => by have := hb5 b hb; omega
    refine wp_call (inext_c (v := v) hs) fun _ _ hs => ?_
    obtain ⟨rfl, hs⟩ := hs
    refine ret_of ?_
    refine wp_mid (fun p w' => ∃ n : Int, p = (n, ()) ∧ Sat w' (vw v A :: slc T.api_Batch 7 z (bs.flatMap encB7) :: batsP bs :: l)) ?_ ?_
    · refine wp_if (fun h => ?_) fun h => ?_
      · refine wp_call (inext_c (v := v) hs) fun _ _ hs => ?_
        obtain ⟨rfl, hs⟩ := hs
        refine ret_of ?_
        refine wp_must ?_ ?_
        · rw [w64 (by omega) (by omega)]; omega
        refine wp_lt ?_
        exact wp_lv ⟨_, rfl, hs⟩
      · exact wp_lv ⟨_, rfl, hs⟩
    clear hs
    rintro _ w ⟨n, rfl, hs⟩
    refine wp_on ?_
    refine wp_call (ifallen_c (v := v) hs) fun _ _ hs => ?_
    obtain ⟨u, rfl, hs⟩ := hs
    refine ret_of ?_
    have hzl := hs.slen z (xs := bs) (enc := encB7)
    refine wp_mid (fun p w' => ∃ y : Sl, p = (y, ()) ∧ Sat w' (slc T.api_Batch 7 y ((bs.filter fun b => decide (b.base ≥ n)).flatMap encB7) :: slc T.iso_Txn 4 u (A.fa.flatMap encX) :: vw v A :: slc T.api_Batch 7 z (bs.flatMap encB7) :: batsP bs :: l)) ?_ ?_
    · refine wp_loop (fun k p w => ∃ (i : Nat) (y : Sl), p = (y, (i : Int), ()) ∧ i ≤ bs.length ∧ bs.length - i = k ∧ Sat w (slc T.api_Batch 7 y (((bs.take i).filter fun b => decide (b.base ≥ n)).flatMap encB7) :: slc T.iso_Txn 4 u (A.fa.flatMap encX) :: vw v A :: slc T.api_Batch 7 z (bs.flatMap encB7) :: batsP bs :: l)) bs.length
        ⟨0, ⟨none, 0, 0⟩, rfl, by omega, rfl, hs.slc_nil⟩ ?_
      clear hs
      rintro k _ w ⟨i, y, rfl, hi, hk, hs⟩
      refine wp_on ?_
      refine wp_if (fun hc => ?_) fun hc => ?_
      rotate_left
      · have hc : ¬ (i : Int) < ((z.len : Nat) : Int) := hc
        refine wp_pass (wp_lv ⟨y, rfl, ?_⟩)
        rw [List.take_of_length_le (by omega)] at hs
        exact hs
      have hc : (i : Int) < ((z.len : Nat) : Int) := hc
      have hil : i < bs.length := by omega
      refine wp_ixA hs (xs := bs) (enc := encB7) i hil ?_
      refine wp_newO hs fun c w' hs => ?_
      refine wp_lt ?_
      refine wp_stG hs fun w' hs => ?_
      refine wp_ldO hs ?_
      have hto : (bs.take (i + 1)).filter (fun b => decide (b.base ≥ n)) = (bs.take i).filter (fun b => decide (b.base ≥ n)) ++ if bs[i].base ≥ n then [bs[i]] else [] := by
        rw [List.take_add_one, List.getElem?_eq_getElem hil, Option.toList_some, List.filter_append]
        congr 1
        by_cases h : bs[i].base ≥ n <;> simp [h, List.filter_cons]
      have hfl : ((bs.take i).filter fun b => decide (b.base ≥ n)).length ≤ 50 := Nat.le_trans (List.length_filter_le ..) (by rw [List.length_take]; omega)
      refine wp_mid (fun p w' => ∃ y : Sl, p = (y, ()) ∧ Sat w' (slc T.api_Batch 7 y (((bs.take (i + 1)).filter fun b => decide (b.base ≥ n)).flatMap encB7) :: slc T.iso_Txn 4 u (A.fa.flatMap encX) :: vw v A :: slc T.api_Batch 7 z (bs.flatMap encB7) :: batsP bs :: l)) ?_ ?_
      rotate_left
      · rintro _ w' ⟨y, rfl, hs⟩
        refine wp_on ?_
        refine wp_dn (us' := [y.v, .int .i64 ((i + 1 : Nat) : Int)]) (by (try simp (disch := omega) only [w64]); first | rfl | (congr; omega)) ?_
        refine wp_lp (bs.length - (i + 1)) ?_
        exact ⟨i + 1, y, rfl, by omega, rfl, hs⟩
      rw [hto]
      refine wp_if (fun h => ?_) fun h => ?_
      · rw [if_pos h.2]
        refine wp_ldG hs ?_
        refine wp_ap0 hs (xs := (bs.take i).filter fun b => decide (b.base ≥ n)) (enc := encB7) bs[i] (fun z w' hs => ?_)
        exact wp_lv ⟨z, rfl, hs.sub⟩
      · rw [if_neg (fun h2 => h ⟨by omega, h2⟩), List.append_nil]
        exact wp_lv ⟨y, rfl, hs.tail⟩
    clear hs
    rintro _ w ⟨y, rfl, hs⟩
    refine wp_on ?_
    generalize hcs : (bs.filter fun b => decide (b.base ≥ n)) = cs at hs
    have hcb : ∀ c ∈ cs, c ∈ bs ∧ n ≤ c.base := fun c hc => by
      rw [← hcs] at hc
      obtain ⟨h1, h2⟩ := List.mem_filter.1 hc
      exact ⟨h1, by simpa using h2⟩
    have hcl : cs.length ≤ 50 := by rw [← hcs]; exact Nat.le_trans (List.length_filter_le ..) hbl
    have hrc : ∀ b ∈ cs, b.rs.length ≤ 1000 := fun b hb => hr b (hcb b hb).1
    have hF : ∀ b ∈ cs, FocR (batsP bs :: l) b.x 4 (b.rs.flatMap encR) := fun b hb => bats_rd (hcb b hb).1
    have hs := hs.pick [2, 0, 0]
    refine wp_call (ipick_c (v := v) y cs (fun b hb => @FocR.tail _ _ _ _ _ (@FocR.tail _ _ _ _ _ (@FocR.tail _ _ _ _ _ (hF b hb)))) (by omega) hrc hs) fun _ _ hs => ?_
    obtain ⟨q, rfl, hs⟩ := hs
    refine ret_of ?_
    refine wp_call (iforget_c (v := v) n hs) fun _ _ hs => ?_
    obtain ⟨rfl, hs⟩ := hs
    refine ret_of ?_
    refine wp_lt ?_
    refine wp_call (ifallen_c (v := v) hs) fun _ _ hs => ?_
    obtain ⟨u2, rfl, hs⟩ := hs
    refine ret_of ?_
    have hul := hs.slen u (xs := A.fa) (enc := encX)
    have hu2l := hs.slen u2 (xs := (forgetA A n).fa) (enc := encX)
    have hfm := hok.many.2
    have hfm2 := (okV_forget hok n).many.2
    have hs0 := hs
    refine wp_mid (fun p w' => p = (((forgetA A n).fa.length : Int), ()) ∧ Sat w' (slc T.iso_Txn 4 u2 ((forgetA A n).fa.flatMap encX) :: vw v (forgetA A n) :: slc T.rec_At 5 q ((pickA A cs).flatMap encAt) :: slc T.api_Batch 7 y (cs.flatMap encB7) :: slc T.iso_Txn 4 u (A.fa.flatMap encX) :: slc T.api_Batch 7 z (bs.flatMap encB7) :: batsP bs :: l)) ?_ ?_
    · refine wp_loop (fun k p w => ∃ j : Nat, p = ((((A.fa.take j).filter fun t => !decide (t.last < n)).length : Int), (j : Int), ()) ∧ j ≤ A.fa.length ∧ A.fa.length - j = k ∧
        Sat w (slc T.iso_Txn 4 u2 ((forgetA A n).fa.flatMap encX) :: vw v (forgetA A n) :: slc T.rec_At 5 q ((pickA A cs).flatMap encAt) :: slc T.api_Batch 7 y (cs.flatMap encB7) :: slc T.iso_Txn 4 u (A.fa.flatMap encX) :: slc T.api_Batch 7 z (bs.flatMap encB7) :: batsP bs :: l)) A.fa.length ⟨0, rfl, by omega, rfl, hs⟩ ?_
      clear hs hs0
      rintro k _ w ⟨j, rfl, hj, hk, hs⟩
      refine wp_on ?_
      refine wp_if (fun hc => ?_) fun hc => ?_
      rotate_left
      · refine wp_pass (wp_lv ⟨?_, hs⟩)
        rw [List.take_of_length_le (by omega)]; rfl
      have hjl : j < A.fa.length := by omega
      have hfl : ((A.fa.take j).filter fun t => !decide (t.last < n)).length ≤ 4096 := Nat.le_trans (List.length_filter_le ..) (by rw [List.length_take]; omega)
      refine wp_ixA hs (xs := A.fa) (enc := encX) j hjl ?_
      refine wp_newO hs fun c w' hs => ?_
      refine wp_stG hs fun w' hs => ?_
      refine wp_ldO hs ?_
      have hto : ((A.fa.take (j + 1)).filter fun t => !decide (t.last < n)).length = ((A.fa.take j).filter fun t => !decide (t.last < n)).length + if A.fa[j].last ≥ n then 1 else 0 := by
        rw [List.take_add_one, List.getElem?_eq_getElem hjl, Option.toList_some, List.filter_append, List.length_append]
        congr 1
        by_cases h : A.fa[j].last ≥ n
        · rw [if_pos h, List.filter_cons_of_pos (by simp; omega)]; rfl
        · rw [if_neg h, List.filter_cons_of_neg (by simp; omega)]; rfl
      refine wp_mid (fun p w' => p = ((((A.fa.take (j + 1)).filter fun t => !decide (t.last < n)).length : Int), ()) ∧ Sat w' (slc T.iso_Txn 4 u2 ((forgetA A n).fa.flatMap encX) :: vw v (forgetA A n) :: slc T.rec_At 5 q ((pickA A cs).flatMap encAt) :: slc T.api_Batch 7 y (cs.flatMap encB7) :: slc T.iso_Txn 4 u (A.fa.flatMap encX) :: slc T.api_Batch 7 z (bs.flatMap encB7) :: batsP bs :: l)) ?_ ?_
      rotate_left
      · rintro _ w' ⟨rfl, hs⟩
        refine wp_on ?_
        refine wp_dn (us' := [.int .i64 (((A.fa.take (j + 1)).filter fun t => !decide (t.last < n)).length : Int), .int .i64 ((j + 1 : Nat) : Int)]) (by (try simp (disch := omega) only [w64]); first | rfl | (congr; omega)) ?_
        refine wp_lp (A.fa.length - (j + 1)) ?_
        exact ⟨j + 1, rfl, by omega, rfl, hs⟩
      rw [hto]
      refine wp_if (fun h => ?_) fun h => ?_
      · rw [if_pos h]
        obtain ⟨g1, g2⟩ := filter_at (p := fun t => !decide (t.last < n)) A.fa j hjl (by simp; omega)
        have g1' : ((A.fa.take j).filter fun t => !decide (t.last < n)).length < (forgetA A n).fa.length := g1
        have g2' : (forgetA A n).fa[((A.fa.take j).filter fun t => !decide (t.last < n)).length] = A.fa[j] := g2
        refine wp_tk hs fun w' hs => ?_
        refine wp_ixAg hs (xs := (forgetA A n).fa) (enc := encX) (A.fa[j].pid, A.fa[j].epoch, A.fa[j].first, A.fa[j].last, ()) (fun _ => ⟨_, g1', rfl, by rw [g2']; rfl⟩) ?_
        refine wp_on ?_
        refine wp_ldG hs ?_
        refine wp_untick ?_
        refine wp_ite_f ?_ ?_
        · simp; omega
        refine wp_ltw ?_
        exact wp_lv ⟨rfl, hs.tail⟩
      · rw [if_neg h]
        exact wp_lv ⟨rfl, hs.tail⟩
    clear hs hs0
    rintro _ w ⟨rfl, hs⟩
    refine wp_on ?_
    have hs := hs.pick [1]
    refine wp_call (ipick_c (v := v) y cs (fun b hb => @FocR.tail _ _ _ _ _ (@FocR.tail _ _ _ _ _ (@FocR.tail _ _ _ _ _ (@FocR.tail _ _ _ _ _ (@FocR.tail _ _ _ _ _ (hF b hb)))))) (by omega) hrc hs) fun _ _ hs => ?_
    obtain ⟨q2, rfl, hs⟩ := hs
    refine ret_of ?_
    rw [pick_forget hh n hcb] at hs
    have hql := hs.slen q (xs := pickA A cs) (enc := encAt)
    have hq2l := hs.slen q2 (xs := pickA A cs) (enc := encAt)
    have hpl : (pickA A cs).length ≤ 50000 := by
      have h1 := pickA_len A (n := 1000) cs hrc
      have := Nat.mul_le_mul_right 1000 hcl
      omega
    refine wp_ite_f ?_ ?_
    · rw [w64 (by omega) (by omega)]
      simp
      omega
    refine wp_mid (fun _ w' => Sat w' l) ?_ ?_
    rotate_left
    · rintro _ w' hs
      refine wp_on ?_
      refine wp_call (awake8 hs) fun _ _ hs => ?_
      obtain ⟨rfl, hs⟩ := hs
      refine ret_of ?_
      refine wp_lt ?_
      exact ⟨rfl, rfl, hs⟩
    refine wp_loop (fun k p w => ∃ j : Nat, p = ((j : Int), ()) ∧ j ≤ (pickA A cs).length ∧ (pickA A cs).length - j = k ∧
      Sat w (slc T.rec_At 5 q2 ((pickA A cs).flatMap encAt) :: slc T.rec_At 5 q ((pickA A cs).flatMap encAt) :: l)) (pickA A cs).length ⟨0, rfl, by omega, rfl, hs.sub⟩ ?_
    clear hs
    rintro k _ w ⟨j, rfl, hj, hk, hs⟩
    refine wp_on ?_
    refine wp_if (fun hc => ?_) fun hc => ?_
    rotate_left
    · exact wp_pass (wp_lv hs.tail.tail)
    have hjl : j < (pickA A cs).length := by omega
    refine wp_lt ?_
    refine wp_tk hs fun w' hs => ?_
    refine wp_ixA hs (xs := pickA A cs) (enc := encAt) j hjl ?_
    refine wp_ixA hs (xs := pickA A cs) (enc := encAt) j hjl ?_
    refine wp_untick ?_
    refine wp_ite_f ?_ ?_
    · simp [beq_bytes]
    refine wp_dn (us' := [.int .i64 ((j + 1 : Nat) : Int)]) (by (try simp (disch := omega) only [w64]); first | rfl | (congr; omega)) ?_
    refine wp_lp ((pickA A cs).length - (j + 1)) ?_
    exact ⟨j + 1, rfl, by omega, rfl, hs⟩

end
end Go.Dec
