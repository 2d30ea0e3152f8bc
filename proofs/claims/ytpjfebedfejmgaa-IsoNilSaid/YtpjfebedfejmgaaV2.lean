/- Isolation: Stable, Open, Fallen, Fate. -/
import Derived.Test.YtpjfebedfejmgaaV1
namespace Go.Dec
set_option linter.unusedVariables false
set_option linter.unusedSimpArgs false

theorem sorted_eq {f : TxnA → Int} : ∀ {a b : List TxnA}, a.Perm b → (a.Pairwise fun x y => f x ≤ f y) → (b.Pairwise fun x y => f x < f y) → a = b
  | a, [], hp, _, _ => hp.eq_nil
  | [], y :: b, hp, _, _ => absurd hp.symm.eq_nil (by simp)
  | x :: a, y :: b, hp, ha, hb => by
    rw [List.pairwise_cons] at ha hb
    have hxy : x = y := by
      have hx : x ∈ y :: b := hp.mem_iff.1 (List.mem_cons_self ..)
      have hy : y ∈ x :: a := hp.mem_iff.2 (List.mem_cons_self ..)
      rcases List.mem_cons.1 hx with h | h
      · exact h
      · rcases List.mem_cons.1 hy with h2 | h2
        · exact h2.symm
        · have h3 := hb.1 x h
          have h4 := ha.1 y h2
          omega
    subst hxy
    rw [sorted_eq (List.Perm.cons_inv hp) ha.2 hb.2]

theorem stable_is {A : ViewA} (hok : okV A) {n : Int} (h1 : n ≤ A.next) (h2 : ∀ t ∈ A.op, n ≤ t.first) (h3 : n = A.next ∨ ∃ t ∈ A.op, n = t.first) : n = stableA A := by
  unfold stableA
  cases hop : A.op with
  | nil =>
    rcases h3 with h | ⟨t, ht, -⟩
    · exact h
    · rw [hop] at ht; cases ht
  | cons u us =>
    dsimp only
    have hu : u ∈ A.op := by rw [hop]; exact List.mem_cons_self ..
    have h4 := h2 u hu
    have h5 := (hok.op u hu).1.first
    rcases h3 with h | ⟨t, ht, rfl⟩
    · omega
    · have hb := hok.byFirst
      rw [hop] at hb ht
      rcases List.mem_cons.1 ht with rfl | ht
      · rfl
      · have := (List.pairwise_cons.1 hb).1 t ht; omega

section
variable {P : Program} {w : World} {Q : Post} {S : World → Prop} {α β γ δ ε ζ : Type}
theorem wp_u5 {f : α → β → γ → δ → ε → Prog} (a : α) (b : β) (c : γ) (d : δ) (e : ε) (h : (f a b c d e).wp P S w Q) : (u5 f (a, b, c, d, e, ())).wp P S w Q := h
theorem wp_u6 {f : α → β → γ → δ → ε → ζ → Prog} (a : α) (b : β) (c : γ) (d : δ) (e : ε) (z : ζ) (h : (f a b c d e z).wp P S w Q) : (u6 f (a, b, c, d, e, z, ())).wp P S w Q := h
end
def lookD (o : Option TxnA) : Int × Int × Int × Int × Bool × Unit := ((o.getD ⟨0, 0, 0, 0⟩).pid, (o.getD ⟨0, 0, 0, 0⟩).epoch, (o.getD ⟨0, 0, 0, 0⟩).first, (o.getD ⟨0, 0, 0, 0⟩).last, o.isSome, ())

section
variable {w : World} {l r r1 r2 r3 l' : List HP} {v : Nat} {A : ViewA}

theorem istable_c [hf : Fo l vw v A r] (hs : Sat w l) : Ret P F.iso_View_Stable #[.pointer (some ⟨v, 0, none⟩)] w fun vs w' => vs = [.int .i64 (stableA A)] ∧ Sat w' (vw v A :: r) :=
  iso_View_Stable_calls _ <| by
    unfold iso_View_Stable
    obtain ⟨m1, m2, hok, hs⟩ := vw_open (hs.perm hf.perm)
    refine wp_ifF ?_ (by simp)
    refine wp_nn ?_
    refine wp_ldO hs ?_
    refine wp_lt ?_
    refine wp_nn ?_
    refine wp_ldO hs ?_
    refine wp_mrange hs fun it w' hs => ?_
    refine wp_mid (fun x w' => x = (stableA A, ()) ∧ Sat w' (vw v A :: r)) ?_ (by rintro _ w' ⟨rfl, hs⟩; refine wp_on ?_; refine wp_lt ?_; exact ⟨rfl, rfl, hs⟩)
    refine wp_loop (fun k x w => ∃ (n : Int) (todo : List (Int × TxnA)) (last : Option (Int × TxnA)), x = (n, ()) ∧ todo.length = k ∧ (∀ y ∈ todo, y ∈ opK A) ∧ n ≤ A.next ∧ (∀ t ∈ A.op, (t.pid, t) ∈ todo ∨ n ≤ t.first) ∧ (n = A.next ∨ ∃ t ∈ A.op, n = t.first) ∧
      Sat w (itP ekI evX it m1 (opK A) todo last :: pt v (.cells #[.int .i64 A.next, .map (some m1), .map (some m2)] T.iso_View) :: mapP ekK evX m2 (faK A) :: r)) (opK A).length
      ⟨A.next, opK A, none, rfl, rfl, fun y hy => hy, Int.le_refl _, fun t ht => .inl (List.mem_map.2 ⟨t, ht, rfl⟩), .inl rfl, hs⟩ ?_
    clear hs
    rintro k _ w ⟨n, todo, last, rfl, hk, hsub, h1, h2, h3, hs⟩
    refine wp_on ?_
    refine wp_mnext hs (fun k t => (k, t.pid, t.epoch, t.first, t.last, ())) (fun kk t todo' w' hp hs => ?_) fun h0 => ?_
    · refine wp_u5 kk t.pid t.epoch t.first t.last ?_
      refine wp_ment hs (kk, t.pid, t.epoch, t.first, t.last, ()) ?_
      refine wp_u5 kk t.pid t.epoch t.first t.last ?_
      refine wp_newO hs fun c w' hs => ?_
      refine wp_stG hs fun w' hs => ?_
      refine wp_ldO hs ?_
      refine wp_lt ?_
      have hmem : (kk, t) ∈ opK A := hsub _ (hp.mem_iff.2 (List.mem_cons_self ..))
      obtain ⟨u, hu, e⟩ := List.mem_map.1 hmem
      simp only [Prod.mk.injEq] at e
      obtain ⟨rfl, rfl⟩ := e
      refine wp_lp todo'.length ?_ (by rw [← hk, hp.length_eq, List.length_cons]; omega)
      refine ⟨_, todo', some (u.pid, u), rfl, rfl, fun y hy => hsub y (hp.mem_iff.2 (List.mem_cons_of_mem _ hy)), by split <;> omega, fun t ht => ?_, ?_, hs.sub⟩
      · rcases h2 t ht with h | h
        · rcases List.mem_cons.1 (hp.mem_iff.1 h) with e | h
          · simp only [Prod.mk.injEq] at e
            right
            rw [e.2]; split <;> omega
          · exact .inl h
        · right; split <;> omega
      · split
        · exact .inr ⟨u, hu, rfl⟩
        · exact h3
    · refine wp_pass (wp_lv ?_)
      subst h0
      have e := stable_is hok h1 (fun t ht => (h2 t ht).resolve_left (by simp)) h3
      rw [e]
      exact ⟨rfl, vw_close m1 m2 hok hs.itDone⟩

theorem told_c (t : TxnA) (hs : Sat w l) : Ret P F.iso_life_told #[.agg (encX t).toArray] w fun vs w' => vs = [.agg (encX t).toArray] ∧ Sat w' l :=
  iso_life_told_calls t.pid t.epoch t.first t.last <| by
    unfold iso_life_told
    refine wp_boxO hs fun a0 w' hs => ?_
    refine wp_newO hs fun a1 w' hs => ?_
    refine wp_ldO hs ?_
    refine wp_ldO hs ?_
    refine wp_ldO hs ?_
    refine wp_ldO hs ?_
    refine wp_stG hs fun w' hs => ?_
    refine wp_ldG hs ?_
    exact ⟨rfl, rfl, hs.tail.tail⟩
instance {t : TxnA} : IsR (sG [.int .i64, .int .i64, .int .i64, .int .i64]) [.agg (encX t).toArray] (t.pid, t.epoch, t.first, t.last, ()) := ⟨rfl⟩

theorem iopen_c [hf : Fo l vw v A r] (hs : Sat w l) : Ret P F.iso_View_Open #[.pointer (some ⟨v, 0, none⟩)] w fun vs w' => ∃ z : Sl, vs = [z.v] ∧ Sat w' (slc T.iso_Txn 4 z (A.op.flatMap encX) :: vw v A :: r) :=
  iso_View_Open_calls _ <| by
    unfold iso_View_Open
    obtain ⟨m1, m2, hok, hs⟩ := vw_open (hs.perm hf.perm)
    have hmany := hok.many
    refine wp_ifF ?_ (by simp)
    refine wp_nn ?_
    refine wp_ldO hs ?_
    refine wp_mrange hs fun it w' hs => ?_
    refine wp_mid (fun x w' => ∃ (z : Sl) (ys : List TxnA), x = (z, ()) ∧ ys.Perm A.op ∧ Sat w' (slc T.iso_Txn 4 z (ys.flatMap encX) :: vw v A :: r)) ?_ ?_
    · refine wp_loop (fun k x w => ∃ (z : Sl) (ys : List TxnA) (todo : List (Int × TxnA)) (last : Option (Int × TxnA)), x = (z, ()) ∧ todo.length = k ∧ (ys ++ todo.map Prod.snd).Perm A.op ∧
        Sat w (slc T.iso_Txn 4 z (ys.flatMap encX) :: itP ekI evX it m1 (opK A) todo last :: pt v (.cells #[.int .i64 A.next, .map (some m1), .map (some m2)] T.iso_View) :: mapP ekK evX m2 (faK A) :: r)) (opK A).length
        ⟨⟨none, 0, 0⟩, [], opK A, none, rfl, rfl, by rw [List.nil_append, opK, List.map_map]; exact .of_eq (List.map_id _), hs.slc_nil⟩ ?_
      clear hs
      rintro k _ w ⟨z, ys, todo, last, rfl, hk, hperm, hs⟩
      have hlen := hperm.length_eq
      rw [List.length_append, List.length_map] at hlen
      refine wp_on ?_
      refine wp_mnext hs (fun k t => (k, t.pid, t.epoch, t.first, t.last, ())) (fun kk t todo' w' hp hs => ?_) fun h0 => ?_
      · refine wp_u5 kk t.pid t.epoch t.first t.last ?_
        refine wp_ment hs (kk, t.pid, t.epoch, t.first, t.last, ()) ?_
        refine wp_u5 kk t.pid t.epoch t.first t.last ?_
        refine wp_newO hs fun c w' hs => ?_
        refine wp_stG hs fun w' hs => ?_
        refine wp_ldG hs ?_
        refine wp_call (told_c t hs) fun _ _ hs => ?_
        obtain ⟨rfl, hs⟩ := hs
        refine ret_of ?_
        refine wp_ap0 hs (xs := ys) (enc := encX) t (fun z w' hs => ?_)
        refine wp_lp todo'.length ?_ (by rw [← hk, hp.length_eq, List.length_cons]; omega)
        refine ⟨z, ys ++ [t], todo', some (kk, t), rfl, rfl, ?_, hs.sub⟩
        rw [List.append_assoc, List.singleton_append]
        exact ((List.Perm.append_left ys (hp.map Prod.snd)).symm).trans hperm
      · refine wp_pass (wp_lv ⟨z, ys, rfl, ?_, ?_⟩)
        · subst h0
          rw [List.map_nil, List.append_nil] at hperm
          exact hperm
        · have hs := (hs.pick [1]).itDone
          have hs : Sat w (vw v A :: slc T.iso_Txn 4 z (ys.flatMap encX) :: r) := vw_close m1 m2 hok hs
          exact hs.pick [1]
    clear hs
    rintro _ w ⟨z, ys, rfl, hperm, hs⟩
    refine wp_on ?_
    have hlen := hperm.length_eq
    refine wp_call (sortF_c byFirst z ys (by omega) hs) fun _ w' h => ?_
    obtain ⟨rfl, ys', hp', hsort, hs⟩ := h
    refine ret_of ?_
    rw [sorted_eq (f := TxnA.first) (hp'.trans hperm) hsort hok.byFirst] at hs
    exact ⟨rfl, z, rfl, hs⟩

theorem ifallen_c [hf : Fo l vw v A r] (hs : Sat w l) : Ret P F.iso_View_Fallen #[.pointer (some ⟨v, 0, none⟩)] w fun vs w' => ∃ z : Sl, vs = [z.v] ∧ Sat w' (slc T.iso_Txn 4 z (A.fa.flatMap encX) :: vw v A :: r) :=
  iso_View_Fallen_calls _ <| by
    unfold iso_View_Fallen
    obtain ⟨m1, m2, hok, hs⟩ := vw_open (hs.perm hf.perm)
    have hmany := hok.many
    refine wp_ifF ?_ (by simp)
    refine wp_nn ?_
    refine wp_ldO hs ?_
    refine wp_mrange hs fun it w' hs => ?_
    refine wp_mid (fun x w' => ∃ (z : Sl) (ys : List TxnA), x = (z, ()) ∧ ys.Perm A.fa ∧ Sat w' (slc T.iso_Txn 4 z (ys.flatMap encX) :: vw v A :: r)) ?_ ?_
    · refine wp_loop (fun k x w => ∃ (z : Sl) (ys : List TxnA) (todo : List ((Int × Int) × TxnA)) (last : Option ((Int × Int) × TxnA)), x = (z, ()) ∧ todo.length = k ∧ (ys ++ todo.map Prod.snd).Perm A.fa ∧
        Sat w (slc T.iso_Txn 4 z (ys.flatMap encX) :: itP ekK evX it m2 (faK A) todo last :: pt v (.cells #[.int .i64 A.next, .map (some m1), .map (some m2)] T.iso_View) :: mapP ekI evX m1 (opK A) :: r)) (faK A).length
        ⟨⟨none, 0, 0⟩, [], faK A, none, rfl, rfl, by rw [List.nil_append, faK, List.map_map]; exact .of_eq (List.map_id _), hs.slc_nil⟩ ?_
      clear hs
      rintro k _ w ⟨z, ys, todo, last, rfl, hk, hperm, hs⟩
      have hlen := hperm.length_eq
      rw [List.length_append, List.length_map] at hlen
      refine wp_on ?_
      refine wp_mnext hs (fun k t => (k.1, k.2, t.pid, t.epoch, t.first, t.last, ())) (fun kk t todo' w' hp hs => ?_) fun h0 => ?_
      · refine wp_u6 kk.1 kk.2 t.pid t.epoch t.first t.last ?_
        refine wp_ment hs (kk.1, kk.2, t.pid, t.epoch, t.first, t.last, ()) ?_
        refine wp_u6 kk.1 kk.2 t.pid t.epoch t.first t.last ?_
        refine wp_newO hs fun c w' hs => ?_
        refine wp_stG hs fun w' hs => ?_
        refine wp_ldG hs ?_
        refine wp_call (told_c t hs) fun _ _ hs => ?_
        obtain ⟨rfl, hs⟩ := hs
        refine ret_of ?_
        refine wp_ap0 hs (xs := ys) (enc := encX) t (fun z w' hs => ?_)
        refine wp_lp todo'.length ?_ (by rw [← hk, hp.length_eq, List.length_cons]; omega)
        refine ⟨z, ys ++ [t], todo', some (kk, t), rfl, rfl, ?_, hs.sub⟩
        rw [List.append_assoc, List.singleton_append]
        exact ((List.Perm.append_left ys (hp.map Prod.snd)).symm).trans hperm
      · refine wp_pass (wp_lv ⟨z, ys, rfl, ?_, ?_⟩)
        · subst h0
          rw [List.map_nil, List.append_nil] at hperm
          exact hperm
        · have hs := (hs.pick [1]).itDone
          have hs : Sat w (vw v A :: slc T.iso_Txn 4 z (ys.flatMap encX) :: r) := vw_close m1 m2 hok hs
          exact hs.pick [1]
    clear hs
    rintro _ w ⟨z, ys, rfl, hperm, hs⟩
    refine wp_on ?_
    have hlen := hperm.length_eq
    refine wp_call (sortF_c byLast z ys (by omega) hs) fun _ w' h => ?_
    obtain ⟨rfl, ys', hp', hsort, hs⟩ := h
    refine ret_of ?_
    rw [sorted_eq (f := TxnA.last) (hp'.trans hperm) hsort hok.byLast] at hs
    exact ⟨rfl, z, rfl, hs⟩

end
end Go.Dec
