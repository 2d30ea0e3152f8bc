/- Isolation: Forget, IsoForgets. -/
import Derived.Test.YtpjfebedfejmgaaGreatH3
import Derived.Test.YtpjfebedfejmgaaGreatOpsW
import Derived.Test.YtpjfebedfejmgaaGreatR3
import Derived.Test.YtpjfebedfejmgaaGreatOpsZ
namespace Go.Dec
set_option linter.unusedVariables false
set_option linter.unusedSimpArgs false

section
variable {w : World} {l r : List HP} {v : Nat} {A : ViewA} {Q : Post} {S : World → Prop}

/-- A function value with what it holds. -/
theorem wp_callvc {f : FuncId} {cap : Array Value} {args : List Value} {s : Sh} {k : HL s.prims → Prog} {vs₀ : List Value} {R : World → Prop} (hok : (P.funcs[f]?).any (fun fn => fn.body.isSome && fn.name != "runtime.NumGoroutine") = true) (x : HL s.prims)
    (hc : Ret P f (args.toArray ++ cap) w fun vs w' => vs = vs₀ ∧ R w') (hx : pack vs₀ = s.mk x) (h : ∀ w', R w' → S w' ∧ (k x).wp P S w' Q) : (Prog.callv (.func (.func f) #[] cap) args s k).wp P S w Q := by
  refine ⟨f, #[], cap, rfl, hok, ?_⟩
  have e : (#[] : Array Value) ++ args.toArray ++ cap = args.toArray ++ cap := by simp
  rw [e]
  refine Calls.mono hc fun e w' ⟨vs, he, hv, hR⟩ => ?_
  exact ⟨x, by rw [he, hv, hx], h w' hR⟩

theorem forget1_c (k : Int × Int) (t : TxnA) (a : Nat) (n : Int) (hs : Sat w (pt a (.cells #[.int .i64 n] T.int64) :: l)) :
    Ret P F.iso_View_Forget_1 #[.agg #[.int .i64 k.1, .int .i64 k.2], .agg #[.int .i64 t.pid, .int .i64 t.epoch, .int .i64 t.first, .int .i64 t.last], .pointer (some ⟨a, 0, none⟩)] w fun vs w' => vs = [.bool (decide (t.last < n))] ∧ Sat w' (pt a (.cells #[.int .i64 n] T.int64) :: l) :=
  iso_View_Forget_1_calls k.1 k.2 t.pid t.epoch t.first t.last (some ⟨a, 0, none⟩) <| by
    unfold iso_View_Forget_1
    refine wp_boxO hs fun a0 w' hs => ?_
    refine wp_boxO hs fun a1 w' hs => ?_
    refine wp_ldO hs ?_
    refine wp_ldO hs ?_
    refine wp_lt ?_
    exact ⟨rfl, rfl, hs.sub⟩

theorem delfunc_c (m a : Nat) (n : Int) (es : List ((Int × Int) × TxnA)) (hs : Sat w (mapP ekK evX m es :: pt a (.cells #[.int .i64 n] T.int64) :: l)) :
    Ret P F.maps_DeleteFunc_map_iso_key_iso_life_iso_key_iso_life #[.map (some m), .func (.func F.iso_View_Forget_1) #[] #[.pointer (some ⟨a, 0, none⟩)]] w fun vs w' => vs = [] ∧ Sat w' (mapP ekK evX m (es.filter fun x => !decide (x.2.last < n)) :: pt a (.cells #[.int .i64 n] T.int64) :: l) :=
  maps_DeleteFunc_map_iso_key_iso_life_iso_key_iso_life_calls (some m) (.func (.func F.iso_View_Forget_1) #[] #[.pointer (some ⟨a, 0, none⟩)]) <| by
    unfold maps_DeleteFunc_map_iso_key_iso_life_iso_key_iso_life
    refine wp_mrange hs fun it w' hs => ?_
    refine wp_mid (fun _ w' => Sat w' (mapP ekK evX m (es.filter fun x => !decide (x.2.last < n)) :: pt a (.cells #[.int .i64 n] T.int64) :: l)) ?_ (by rintro _ w' hs; refine wp_on ?_; exact ⟨rfl, rfl, hs⟩)
    refine wp_loop (fun k x w => ∃ (cur todo don : List ((Int × Int) × TxnA)) (last : Option ((Int × Int) × TxnA)), todo.length = k ∧ es.Perm (todo ++ don) ∧ cur.Perm (todo ++ don.filter fun x => !decide (x.2.last < n)) ∧
      Sat w (itP ekK evX it m cur todo last :: pt a (.cells #[.int .i64 n] T.int64) :: l)) es.length ⟨es, es, [], none, rfl, by simp, by simp, hs⟩ ?_
    clear hs
    rintro k _ w ⟨cur, todo, don, last, hk, hp1, hp2, hs⟩
    refine wp_on ?_
    refine wp_mnext hs (fun k t => (k.1, k.2, t.pid, t.epoch, t.first, t.last, ())) (fun kk t todo' w' hp hs => ?_) fun h0 => ?_
    rotate_left
    · refine wp_pass (wp_lv ?_)
      subst h0
      have h1 : (es.filter fun x => !decide (x.2.last < n)).Perm (don.filter fun x => !decide (x.2.last < n)) := hp1.filter _
      exact hs.itDone.mapPerm (hp2.trans h1.symm)
    refine wp_u6 kk.1 kk.2 t.pid t.epoch t.first t.last ?_
    refine wp_ment hs (kk.1, kk.2, t.pid, t.epoch, t.first, t.last, ()) ?_
    refine wp_u6 kk.1 kk.2 t.pid t.epoch t.first t.last ?_
    refine wp_newO hs fun c w' hs => ?_
    refine wp_newO hs fun d w' hs => ?_
    refine wp_stG hs fun w' hs => ?_
    refine wp_stG hs fun w' hs => ?_
    refine wp_ldG hs ?_
    refine wp_ldG hs ?_
    have hs := hs.pick [3, 0, 1, 0]
    refine wp_callvc (by kernel_rfl) (decide (t.last < n), ()) (forget1_c kk t a n hs) rfl fun w' hs => ⟨trivial, ?_⟩
    refine wp_on ?_
    have hp2' : cur.Perm ((kk, t) :: (todo' ++ don.filter fun x => !decide (x.2.last < n))) := hp2.trans (hp.append_right _)
    have hp1' : es.Perm (todo' ++ (kk, t) :: don) := hp1.trans ((hp.append_right _).trans List.perm_middle.symm)
    have hle : todo.length = todo'.length + 1 := by rw [hp.length_eq, List.length_cons]
    refine wp_mid (fun _ w' => ∃ (cur' : List ((Int × Int) × TxnA)) (last : Option ((Int × Int) × TxnA)), cur'.Perm (todo' ++ ((kk, t) :: don).filter fun x => !decide (x.2.last < n)) ∧ Sat w' (itP ekK evX it m cur' todo' last :: pt a (.cells #[.int .i64 n] T.int64) :: l)) ?_ ?_
    rotate_left
    · rintro _ w' ⟨cur', last, hp3, hs⟩
      refine wp_on ?_
      refine wp_lp todo'.length ?_ (by omega)
      exact ⟨cur', todo', (kk, t) :: don, last, rfl, hp1', hp3, hs⟩
    refine wp_if (fun h => ?_) fun h => ?_
    · refine wp_ldG hs ?_
      refine wp_idel (k := kk) (v := t) it hs (todo' ++ don.filter fun x => !decide (x.2.last < n)) hp2' fun w' hs => ?_
      refine wp_lv ⟨todo' ++ don.filter fun x => !decide (x.2.last < n), none, ?_, hs.sub⟩
      rw [List.filter_cons_of_neg (by simp [h])]
    · refine wp_lv ⟨cur, some (kk, t), ?_, hs.sub⟩
      rw [List.filter_cons_of_pos (by simp; omega)]
      exact hp2'.trans List.perm_middle.symm

theorem iforget_c (n : Int) [hf : Fo l vw v A r] (hs : Sat w l) : Ret P F.iso_View_Forget #[.pointer (some ⟨v, 0, none⟩), .int .i64 n] w fun vs w' => vs = [.int .i64 ((A.fa.length : Int) - ((forgetA A n).fa.length : Int))] ∧ Sat w' (vw v (forgetA A n) :: r) :=
  iso_View_Forget_calls _ n <| by
    unfold iso_View_Forget
    obtain ⟨m1, m2, hok, hs⟩ := vw_open (hs.perm hf.perm)
    refine wp_boxO hs fun a w' hs => ?_
    refine wp_ifF ?_ (by simp)
    refine wp_nn ?_
    refine wp_ldO hs ?_
    refine wp_mlen hs ?_
    refine wp_lt ?_
    refine wp_nn ?_
    refine wp_ldO hs ?_
    have hs := hs.pick [3, 0, 0, 0]
    refine wp_call (delfunc_c m2 a n (faK A) hs) fun _ _ hs => ?_
    obtain ⟨rfl, hs⟩ := hs
    refine ret_of ?_
    refine wp_nn ?_
    refine wp_ldO hs ?_
    refine wp_mlen hs ?_
    have e : (faK A).filter (fun x => !decide (x.2.last < n)) = faK (forgetA A n) := by
      unfold faK forgetA
      rw [List.filter_map]
      rfl
    have l1 : (faK A).length = A.fa.length := List.length_map ..
    have l2 : (faK (forgetA A n)).length = (forgetA A n).fa.length := List.length_map ..
    rw [e, l1, l2]
    have hok' := okV_forget hok n
    have hm1 := hok.many.2
    have hm2 := hok'.many.2
    refine wp_ltw ?_
    refine ⟨rfl, rfl, ?_⟩
    rw [e] at hs
    exact vw_close m1 m2 (A := forgetA A n) hok' hs

end
end Go.Dec
