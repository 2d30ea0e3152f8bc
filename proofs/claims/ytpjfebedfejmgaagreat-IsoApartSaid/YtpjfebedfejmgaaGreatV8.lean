/- Isolation: a view out of bytes: what fell; Load. -/
import Derived.Test.YtpjfebedfejmgaaGreatV7
namespace Go.Dec
set_option linter.unusedVariables false
set_option linter.unusedSimpArgs false

theorem lp_lt {n k m : Nat} (h : n < m) (hk : m - n = k) : m - (n + 1) < k := by omega
/-- What one more that fell asks. -/
theorem okV_fell {nx : Int} {ops us : List TxnA} {t : TxnA} (hok : okV ⟨nx, ops, us⟩) (hn : us.length < 4096) (ht : okT t nx ∧ t.first < t.last ∧ t.last < nx) (hk : ∀ u ∈ us, ¬ (u.pid = t.pid ∧ u.epoch = t.epoch)) (hl : ∀ u ∈ us, u.last < t.last) (ha : ∀ o ∈ ops, ¬ (o.pid = t.pid ∧ o.epoch = t.epoch)) : okV ⟨nx, ops, us ++ [t]⟩ := by
  refine ⟨hok.next, ⟨hok.many.1, by simp; omega⟩, hok.op, fun u hu => ?_, hok.byFirst, ?_, hok.pids, ?_, fun o ho u hu => ?_⟩
  · rcases List.mem_append.1 hu with hu | hu
    · exact hok.fa u hu
    · rw [List.mem_singleton.1 hu]; exact ht
  · show (us ++ [t]).Pairwise _
    rw [List.pairwise_append]
    exact ⟨hok.byLast, by simp, fun a ha b hb => by rw [List.mem_singleton.1 hb]; exact hl a ha⟩
  · show ((us ++ [t]).map _).Nodup
    rw [List.map_append, List.nodup_append]
    refine ⟨hok.keys, by simp, fun a ha b hb => ?_⟩
    obtain ⟨u, hu, rfl⟩ := List.mem_map.1 ha
    rw [List.map_singleton, List.mem_singleton] at hb
    rw [hb]
    intro e
    simp only [Prod.mk.injEq] at e
    exact hk u hu e
  · rcases List.mem_append.1 hu with hu | hu
    · exact hok.apart o ho u hu
    · rw [List.mem_singleton.1 hu]; exact ha o ho

section
variable {w : World} {l r : List HP} {v p : Nat} {A : ViewA} {R : RdM} {P' : Program} {Q : Post} {S : World → Prop}

/-- A look for a struct, or zero. -/
theorem wp_lookG {K V : Type} {ek : K → Value} {ev : V → Value} {m : Nat} {es : List (K × V)} {T kt : TypeId} {z : Value} {g : Prop} {kk : K} {kv : Value} {ps : List Pr} {k : HL ps → Prog} [hf : FoM l m ek ev es r] [hT : MapT P' T kt z] [hk : KeyT P' kt ek] [hkv : IsK ek kv kk] (hs : Sat w l) (o : Option V)
    (ho : (∃ v, o = some v ∧ (kk, v) ∈ es) ∨ (o = none ∧ ∀ v, (kk, v) ∉ es)) (d : Option V → HL ps) (h : (k (d o)).wp P' S w Q) (h1 : ∀ v, ev v = .agg (HL.vals ps (d (some v))).toArray := by intros; rfl) (h0 : z = .agg (HL.vals ps (d none)).toArray := by rfl) :
    (Prog.read g (Instr.lookup T (.map (some m)) kv false) (.one (.agg ps)) k).wp P' S w Q := by
  refine ⟨d o, fun _ => ?_, h⟩
  rw [hkv.ok]
  have hs := hs.perm hf.perm
  have hnd := hs.mapNodup
  rcases run_look (P := P') (T := T) false hs kk with ⟨v', hv', hr⟩ | ⟨hno, hr⟩
  · rcases ho with ⟨v, rfl, hv⟩ | ⟨rfl, hv⟩
    · have : v' = v := nodup_val hnd hv hv'
      subst this
      rw [h1] at hr
      exact hr
    · exact absurd hv' (hv _)
  · rcases ho with ⟨v, rfl, hv⟩ | ⟨rfl, hv⟩
    · exact absurd hv (hno _)
    · rw [h0] at hr
      exact hr

theorem wp_hdP {P : Program} {a : Addr} {b off : Nat} {T T' : TypeId} {g : Prop} {vs : List Value} {fr : Nat × Nat} {ps : List Pr} {k : HL ps → Prog} (hs : Sat w l) (x : HL ps) {n : Nat} [ha : AddrIs a b off] [hb : FocB l b (.cells vs.toArray T' fr) r] [hT : Agg P T n] {p : Prog} [hA : App k x p]
    (h : p.wp P (fun w' => S w' ∧ (g → (ld T a).run P w' = .ok ((Sh.one (.agg ps)).mk x) w')) w Q) (hx : (vs.drop off).take n = HL.vals ps x := by rfl) (hn : (HL.vals ps x).length = n := by rfl) : (Prog.hold g (ld T a) (.one (.agg ps)) k).wp P S w Q :=
  ⟨x, fun _ => run_ldP x hs hx hn, by rw [hA.ok]; exact h⟩

def lookD4 (o : Option TxnA) : Int × Int × Int × Int × Unit := ((o.getD ⟨0, 0, 0, 0⟩).pid, (o.getD ⟨0, 0, 0, 0⟩).epoch, (o.getD ⟨0, 0, 0, 0⟩).first, (o.getD ⟨0, 0, 0, 0⟩).last, ())

theorem fell_c {nx : Int} {ops : List TxnA} (hnx : 0 ≤ nx ∧ nx ≤ 1099511627777) (hs : Sat w (vw v ⟨nx, ops, []⟩ :: rdP T.wire_Reader p R :: l)) :
    Ret P F.iso_View_fell #[.pointer (some ⟨v, 0, none⟩), .pointer (some ⟨p, 0, none⟩)] w fun vs w' =>
      (∃ (ts : List TxnA) (R' : RdM), vs = [.bool true] ∧ R.e = 0 ∧ R'.e = 0 ∧ okV ⟨nx, ops, ts⟩ ∧ Rest R = uintL ts.length ++ (ts.flatMap enc4 ++ Rest R') ∧ Sat w' (vw v ⟨nx, ops, ts⟩ :: rdP T.wire_Reader p R' :: l)) ∨
      (vs = [.bool false] ∧ (R.e = 0 → ∀ us z, okV ⟨nx, ops, us⟩ → Rest R ≠ uintL us.length ++ (us.flatMap enc4 ++ z)) ∧ Sat w' l) :=
  iso_View_fell_calls _ _ <| by
    unfold iso_View_fell
    have hb := (rd_bound (hs.pick [1])).1
    obtain ⟨m1, m2, hok0, hs0⟩ := vw_open hs
    clear hs0 m1 m2
    refine wp_call (upto_c (p := p) 4096 (by omega) hs) fun _ w' hs => ?_
    obtain ⟨rfl, hs⟩ := hs
    refine ret_of ?_
    refine wp_lt ?_
    have hbadlen : ∀ us : List TxnA, okV ⟨nx, ops, us⟩ → us.length < 18446744073709551616 := fun us h => by have := h.many.2; simp at this; omega
    refine wp_mid (fun _ w' => ∃ (ts : List TxnA) (R' : RdM), ((R.e = 0 ∧ R'.e = 0 ∧ Rest R = uintL ts.length ++ (ts.flatMap enc4 ++ Rest R')) ∨ (R'.e ≠ 0 ∧ (R.e = 0 → ∀ us z, okV ⟨nx, ops, us⟩ → Rest R ≠ uintL us.length ++ (us.flatMap enc4 ++ z)))) ∧ okV ⟨nx, ops, ts⟩ ∧ Sat w' (vw v ⟨nx, ops, ts⟩ :: rdP T.wire_Reader p R' :: l)) ?_ ?_
    rotate_left
    · rintro _ w' ⟨ts, R', hc, hok, hs⟩
      refine wp_on ?_
      refine wp_call (rerr_c (p := p) hs) fun _ _ hs => ?_
      obtain ⟨rfl, hs⟩ := hs
      refine ret_of ?_
      refine wp_lt ?_
      rcases hc with ⟨h0, h1, h2⟩ | ⟨h1, h2⟩
      · exact ⟨rfl, .inl ⟨ts, R', by simp [h1], h0, h1, hok, h2, hs.sub⟩⟩
      · exact ⟨rfl, .inr ⟨by simp [h1], h2, hs.tail.tail⟩⟩
    rcases uint_cases hb with ⟨a1, a2, a3, a4, a5, a6⟩ | ⟨a1, a2, a3, a4⟩
    rotate_left
    · -- no number
      rw [a1]
      refine wp_loop (fun k u w => u = ((-1 : Int), (0 : Int), ()) ∧ Sat w (rdP T.wire_Reader p R.uint.2 :: vw v ⟨nx, ops, []⟩ :: l)) 0 ⟨rfl, hs⟩ ?_
      clear hs
      rintro k _ w ⟨rfl, hs⟩
      refine wp_on ?_
      refine wp_ifF ?_ (by rw [up_le (by omega)]; simp)
      exact wp_pass (wp_lv ⟨[], R.uint.2, .inr ⟨a2, fun h0 us z hus h => a4 h0 _ _ (hbadlen us hus) h⟩, hok0, hs.sub⟩)
    generalize R.uint.1 = c at *
    generalize R.uint.2 = R1 at *
    refine wp_loop (fun k u w => ∃ (ts : List TxnA) (Ri : RdM) (ah : Int), u = (ah, ((ts.length : Nat) : Int), ()) ∧ ts.length ≤ 4096 ∧ ts.length ≤ c ∧ 4096 - ts.length = k ∧ Ri.e = 0 ∧ okV ⟨nx, ops, ts⟩ ∧ Rest R1 = ts.flatMap enc4 ++ Rest Ri ∧ -1 ≤ ah ∧ (∀ t ∈ ts, t.last ≤ ah) ∧ (ah = -1 ∨ ∃ t ∈ ts, ah = t.last) ∧ Sat w (vw v ⟨nx, ops, ts⟩ :: rdP T.wire_Reader p Ri :: l)) 4096
      ⟨[], R1, -1, rfl, by simp, by simp, rfl, a3, hok0, rfl, by omega, by simp, .inl rfl, hs.pick [1]⟩ ?_
    clear hs
    rintro k _ w ⟨ts, Ri, ah, rfl, h1024, hlc, hk, hei, hok, hrest, hah0, hah1, hah2, hs⟩
    refine wp_on ?_
    refine wp_if (fun hc => ?_) fun hc => ?_
    rotate_left
    · have : c = ts.length := by unfold up at hc; split at hc <;> omega
      exact wp_pass (wp_lv ⟨ts, Ri, .inl ⟨a1, hei, by rw [a6, this, hrest]⟩, hok, hs⟩)
    have htc : ts.length < c := by unfold up at hc; split at hc <;> omega
    obtain ⟨m1, m2, -, hs⟩ := vw_open hs
    refine wp_nn ?_
    refine wp_ldO hs ?_
    have hbi := (rd_bound (hs.pick [3])).1
    refine wp_call (named_c (p := p) nx hs) fun _ w' hs => ?_
    obtain ⟨rfl, hs⟩ := hs
    refine ret_of ?_
    have hb3 := (rd_bound hs).1
    generalize hP : up Ri.uint.1 1048576 = p' at *
    generalize hE : up Ri.uint.2.uint.1 32767 = e' at *
    generalize hF : up Ri.uint.2.uint.2.uint.1 1099511627776 = f' at *
    refine wp_newO hs fun c1 w' hs => ?_
    refine wp_stG hs fun w' hs => ?_
    refine wp_lt ?_
    refine wp_call (upto_c (p := p) 1099511627776 (by omega) hs) fun _ w' hs => ?_
    obtain ⟨rfl, hs⟩ := hs
    refine ret_of ?_
    generalize hL : up (R3 Ri).uint.1 1099511627776 = l' at *
    refine wp_stO hs fun w' hs => ?_
    have hs : Sat w' (pt c1 (.cells #[.int .i64 p', .int .i64 e', .int .i64 f', .int .i64 l'] T.iso_life) :: rdP T.wire_Reader p (R3 Ri).uint.2 :: pt v (.cells #[.int .i64 nx, .map (some m1), .map (some m2)] T.iso_View) :: mapP ekI evX m1 (opK ⟨nx, ops, ts⟩) :: mapP ekK evX m2 (faK ⟨nx, ops, ts⟩) :: l) := hs
    have hfo := faF_look ⟨nx, ops, ts⟩ p' e'
    have hop := opF_look ⟨nx, ops, ts⟩ p'
    refine wp_mid (fun u w' => u = ((faF ⟨nx, ops, ts⟩ p' e').isSome, ()) ∧ Sat w' (pt c1 (.cells #[.int .i64 p', .int .i64 e', .int .i64 f', .int .i64 l'] T.iso_life) :: rdP T.wire_Reader p (R3 Ri).uint.2 :: pt v (.cells #[.int .i64 nx, .map (some m1), .map (some m2)] T.iso_View) :: mapP ekI evX m1 (opK ⟨nx, ops, ts⟩) :: mapP ekK evX m2 (faK ⟨nx, ops, ts⟩) :: l)) ?_ ?_
    · refine wp_tk hs fun w' hs => ?_
      refine wp_nn ?_
      refine wp_hdO hs ?_
      refine wp_hdP hs (p', e', ()) ?_
      refine wp_lookH hs (faF ⟨nx, ops, ts⟩ p' e') hfo lookD ?_
      refine wp_u5 _ _ _ _ _ ?_
      refine wp_newO hs (fun c2 w' hs => ?_) (fun c2 w' hs => ⟨⟨⟨trivial, fun _ => run_ldO hs⟩, fun _ => run_ldP (P := P) (T := T.iso_key) (T' := T.iso_life) (a := Addr.add ⟨c1, 0, none⟩ 0) (ps := [.int .i64, .int .i64]) (p', e', ()) hs rfl rfl⟩, fun _ => look_keep (ss := lkS) hs hfo lookD⟩)
      refine wp_untick ?_
      refine wp_stG hs fun w' hs => ?_
      refine wp_lt ?_
      refine wp_untick ?_
      exact wp_lv ⟨rfl, hs.sub⟩
    clear hs
    rintro _ w ⟨rfl, hs⟩
    refine wp_on ?_
    generalize hR4 : (R3 Ri).uint.2 = R4 at *
    -- what is asked
    refine wp_mid (fun u w' => ∃ bad : Bool, u = (bad, ()) ∧ (bad = false ↔ ((R3 Ri).e = 0 ∧ (1 ≤ p' ∧ p' ≤ 1048576 ∧ e' ≤ 32767 ∧ f' < nx) ∧ R4.e = 0 ∧ faF ⟨nx, ops, ts⟩ p' e' = none ∧ ¬ (((opF ⟨nx, ops, ts⟩ p').getD ⟨0, 0, 0, 0⟩).pid = p' ∧ ((opF ⟨nx, ops, ts⟩ p').getD ⟨0, 0, 0, 0⟩).epoch = e') ∧ ah < l' ∧ f' < l' ∧ l' < nx ∧ ts.length < 4096)) ∧
      Sat w' (pt c1 (.cells #[.int .i64 p', .int .i64 e', .int .i64 f', .int .i64 l'] T.iso_life) :: rdP T.wire_Reader p R4 :: pt v (.cells #[.int .i64 nx, .map (some m1), .map (some m2)] T.iso_View) :: mapP ekI evX m1 (opK ⟨nx, ops, ts⟩) :: mapP ekK evX m2 (faK ⟨nx, ops, ts⟩) :: l)) ?_ ?_
    · refine wp_tk hs fun w' hs => ?_
      refine wp_if (fun hn => ?_) fun hn => ?_
      · refine wp_untick ?_
        refine wp_lv ⟨true, rfl, ⟨fun h => (by cases h), fun h => absurd ⟨h.1, h.2.1.1, h.2.1.2.1, h.2.1.2.2.1, h.2.1.2.2.2⟩ hn⟩, hs⟩
      have hn := Decidable.not_not.1 hn
      refine wp_call (rerr_c (p := p) hs) fun _ _ hs => ?_
      obtain ⟨rfl, hs⟩ := hs
      refine ret_of ?_
      refine wp_nng ?_
      refine wp_ldO hs ?_
      refine wp_ldO hs ?_
      refine wp_lookG hs (opF ⟨nx, ops, ts⟩ p') hop lookD4 ?_
      refine wp_u4 _ _ _ _ ?_
      refine wp_ldP hs (p', e', ()) ?_
      refine wp_ldO hs ?_
      refine wp_ldO hs ?_
      refine wp_ldO hs ?_
      refine wp_ldO hs ?_
      refine wp_nng ?_
      refine wp_ldO hs ?_
      refine wp_untick ?_
      refine wp_lv ⟨_, rfl, ?_, hs.sub⟩
      simp only [Bool.or_eq_false_iff, bne_eq_false_iff_eq, Bool.and_eq_false_imp, beq_iff_eq, decide_eq_false_iff_not, Bool.not_eq_false', beq_eq_false_iff_ne]
      constructor
      · rintro ⟨⟨⟨⟨⟨⟨h1, h2⟩, h3⟩, h4⟩, h5⟩, h6⟩, h7⟩
        refine ⟨hn.1, hn.2, h1, ?_, fun h => h3 h.1 h.2, by omega, by omega, by omega, by omega⟩
        cases hc : faF ⟨nx, ops, ts⟩ p' e' with
        | none => rfl
        | some t => rw [hc] at h2; cases h2
      · rintro ⟨-, -, h1, h2, h3, h4, h5, h6, h7⟩
        exact ⟨⟨⟨⟨⟨⟨h1, by rw [h2]; rfl⟩, fun a b => h3 ⟨a, b⟩⟩, by omega⟩, by omega⟩, by omega⟩, by omega⟩
    clear hs
    rintro _ w ⟨bad, rfl, hbd, hs⟩
    refine wp_on ?_
    refine wp_if (fun hbad => ?_) fun hgood => ?_
    · -- it may not be
      refine wp_pass (wp_pass ⟨rfl, .inr ⟨rfl, fun _ us z hus he => ?_, hs.tail.tail.tail.tail.tail⟩⟩)
      rw [a6] at he
      obtain ⟨hcu, he⟩ := uintL_inj a2 (hbadlen us hus) he
      have hmu := hus.many.2
      simp only at hmu
      rw [hrest] at he
      obtain ⟨rs, hus2, he2⟩ := pre4 (okV_vld4 hok) (okV_vld4 hus) (show ts.length ≤ us.length by omega) he
      have hus2 : us = ts ++ rs := hus2
      clear he
      cases rs with
      | nil => rw [hus2] at hcu; simp at hcu; omega
      | cons t rs =>
        subst hus2
        have he : Rest Ri = (t :: rs).flatMap enc4 ++ z := he2
        have htm : t ∈ ts ++ t :: rs := by simp
        obtain ⟨ht1, ht2, ht3⟩ := hus.fa t htm
        have tp := ht1.pid
        have te := ht1.epoch
        have tf : 0 ≤ t.first ∧ t.first < nx := ht1.first
        have ht3 : t.last < nx := ht3
        rw [List.flatMap_cons, List.append_assoc] at he
        unfold enc4 uI at he
        simp only [List.append_assoc] at he
        rcases read3 hbi with ⟨b1, b2, b3, b4, b5, b6, b7⟩ | ⟨b1, b2, b3⟩
        rotate_left
        · exact b3 hei _ _ _ _ (by omega) (by omega) (by omega) he
        rw [b7] at he
        obtain ⟨q1, he⟩ := uintL_inj b4 (by omega) he
        obtain ⟨q2, he⟩ := uintL_inj b5 (by omega) he
        obtain ⟨q3, he⟩ := uintL_inj b6 (by omega) he
        rcases uint_cases hb3 with ⟨d1, d2, d3, d4, d5, d6⟩ | ⟨d1, d2, d3, d4⟩
        rotate_left
        · exact d4 b2 _ _ (by omega) he
        rw [d6] at he
        obtain ⟨q4, he⟩ := uintL_inj d2 (by omega) he
        rw [q1, up_le (by omega)] at hP
        rw [q2, up_le (by omega)] at hE
        rw [q3, up_le (by omega)] at hF
        rw [q4, up_le (by omega)] at hL
        rw [hR4] at d3
        have hkd := hus.keys
        rw [List.map_append, List.map_cons, List.nodup_append] at hkd
        have hbl := hus.byLast
        simp only at hbl
        rw [List.pairwise_append] at hbl
        have : bad = false := hbd.2 ⟨b2, ⟨by omega, by omega, by omega, by omega⟩, d3, ?_, ?_, ?_, by omega, by omega, by simp at hmu; omega⟩
        · rw [this] at hbad; cases hbad
        · cases hcf : faF ⟨nx, ops, ts⟩ p' e' with
          | none => rfl
          | some u =>
            obtain ⟨hum, hup, hue⟩ := faF_some hcf
            exact absurd (show (u.pid, u.epoch) = (t.pid, t.epoch) by rw [hup, hue]; congr 1 <;> omega) (hkd.2.2 _ (List.mem_map.2 ⟨u, hum, rfl⟩) _ (by simp))
        · intro h
          cases hco : opF ⟨nx, ops, ts⟩ p' with
          | none => rw [hco] at h; have : (0 : Int) = p' := h.1; omega
          | some u =>
            rw [hco] at h
            obtain ⟨hum, hup⟩ := opF_some hco
            have h2 : u.epoch = e' := h.2
            exact hus.apart u hum t htm ⟨by omega, by omega⟩
        · rcases hah2 with h | ⟨u, hu, h⟩
          · omega
          · have := hbl.2.2 u hu t (by simp)
            omega
    -- it may
    have hgood : bad = false := by simpa using hgood
    obtain ⟨hn1, hn2, hn3, hn4, hn5, hn6, hn7, hn8, hn9⟩ := hbd.1 hgood
    rcases read3 hbi with ⟨b1, b2, b3, b4, b5, b6, b7⟩ | ⟨b1, b2, b3⟩
    rotate_left
    · exact absurd hn1 b1
    rcases uint_cases hb3 with ⟨d1, d2, d3, d4, d5, d6⟩ | ⟨d1, d2, d3, d4⟩
    rotate_left
    · rw [hR4] at d2; exact absurd hn3 d2
    rw [hR4] at d6
    have hp0 := up_nn Ri.uint.1 1048576
    have he0 := up_nn Ri.uint.2.uint.1 32767
    have hf0 := up_nn Ri.uint.2.uint.2.uint.1 1099511627776
    have hl0 := up_nn (R3 Ri).uint.1 1099511627776
    have q1 : Ri.uint.1 ≤ 1048576 := up_is (by omega)
    have q2 : Ri.uint.2.uint.1 ≤ 32767 := up_is (by omega)
    have q3 : Ri.uint.2.uint.2.uint.1 ≤ 1099511627776 := up_is (by omega)
    have q4 : (R3 Ri).uint.1 ≤ 1099511627776 := up_is (by omega)
    rw [up_le q1] at hP
    rw [up_le q2] at hE
    rw [up_le q3] at hF
    rw [up_le q4] at hL
    have hok' : okV ⟨nx, ops, ts ++ [⟨p', e', f', l'⟩]⟩ := okV_fell hok hn9 ⟨⟨⟨hn2.1, hn2.2.1⟩, ⟨by show 0 ≤ e'; omega, hn2.2.2.1⟩, ⟨by show 0 ≤ f'; omega, hn2.2.2.2⟩⟩, hn7, hn8⟩
      (fun u hu => faF_none hn4 u hu) (fun u hu => by have := hah1 u hu; show u.last < l'; omega) (fun o ho h => by
        have h1 : o.pid = p' := h.1
        have h2 : o.epoch = e' := h.2
        have h3 := opF_mem hok ho
        rw [h1] at h3
        rw [h3] at hn5
        exact hn5 ⟨h1, h2⟩)
    have hno : ∀ u, ((p', e'), u) ∉ faK ⟨nx, ops, ts⟩ := by
      rcases hfo with ⟨t, ht, -⟩ | ⟨-, h⟩
      · rw [hn4] at ht; cases ht
      · exact h
    refine wp_tk hs fun w' hs => ?_
    refine wp_nn ?_
    refine wp_ldO hs ?_
    refine wp_ldP hs (p', e', ()) ?_
    refine wp_ldG hs ?_
    refine wp_mset hs (faK ⟨nx, ops, ts⟩) (.inr ⟨hno, rfl⟩) (⟨p', e', f', l'⟩ : TxnA) fun w' hs => ?_
    refine wp_untick ?_
    refine wp_ldO hs ?_
    refine wp_lt ?_
    refine wp_ltx (y := ((ts.length + 1 : Nat) : Int)) ?_ (by rw [w64 (by omega) (by omega)]; omega)
    refine wp_lp (4096 - (ts.length + 1)) ?_ (lp_lt hn9 hk)
    refine ⟨ts ++ [⟨p', e', f', l'⟩], R4, l', by simp, by simp; omega, by simp; omega, by simp, hn3, hok', ?_, by omega, ?_, .inr ⟨⟨p', e', f', l'⟩, by simp, rfl⟩, ?_⟩
    · rw [hrest, b7, d6, List.flatMap_append]
      have : ([(⟨p', e', f', l'⟩ : TxnA)].flatMap enc4) = uintL Ri.uint.1 ++ (uintL Ri.uint.2.uint.1 ++ (uintL Ri.uint.2.uint.2.uint.1 ++ uintL (R3 Ri).uint.1)) := by
        simp only [List.flatMap_cons, List.flatMap_nil, List.append_nil, enc4, uI]
        rw [← hP, ← hE, ← hF, ← hL]
        simp
      rw [this]; simp only [List.append_assoc]
    · intro t ht
      rcases List.mem_append.1 ht with ht | ht
      · have := hah1 t ht; omega
      · rw [List.mem_singleton.1 ht]; exact Int.le_refl _
    · have hperm : (((p', e'), (⟨p', e', f', l'⟩ : TxnA)) :: faK ⟨nx, ops, ts⟩).Perm (faK ⟨nx, ops, ts ++ [⟨p', e', f', l'⟩]⟩) := by
        unfold faK
        rw [List.map_append]
        exact List.perm_append_comm (l₁ := [((p', e'), (⟨p', e', f', l'⟩ : TxnA))])
      exact (vw_mk m1 m2 ⟨nx, ops, ts ++ [⟨p', e', f', l'⟩]⟩ hok' (.refl _) hperm (hs.pick [3, 3, 0])).sub

theorem body_inj {A A' : ViewA} (h : okV A) (h' : okV A') (he : bodyA A = bodyA A') : A = A' := by
  unfold bodyA at he
  have n1 := h.next
  have n2 := h'.next
  have m1 := h.many
  have m2 := h'.many
  obtain ⟨e1, he⟩ := uI_inj (by omega) (by omega) he
  obtain ⟨e2, he⟩ := uintL_inj (by omega) (by omega) he
  obtain ⟨rs, h3, he⟩ := pre3 (okV_vld3 h) (okV_vld3 h') (by omega) he
  have hrs : rs = [] := by rw [h3, List.length_append] at e2; exact List.length_eq_zero_iff.1 (by omega)
  subst hrs
  rw [List.append_nil] at h3
  have he : uintL A.fa.length ++ A.fa.flatMap enc4 = uintL A'.fa.length ++ A'.fa.flatMap enc4 := he
  obtain ⟨e4, he⟩ := uintL_inj (by omega) (by omega) he
  have he : A.fa.flatMap enc4 ++ [] = A'.fa.flatMap enc4 ++ [] := by rw [List.append_nil, List.append_nil]; exact he
  obtain ⟨us, h5, he⟩ := pre4 (okV_vld4 h) (okV_vld4 h') (by omega) he
  have hus : us = [] := by rw [h5, List.length_append] at e4; exact List.length_eq_zero_iff.1 (by omega)
  subst hus
  rw [List.append_nil] at h5
  cases A; cases A'
  simp only at e1 h3 h5
  rw [e1, h3, h5]
theorem seal_inj {a b : List UInt8} (ha : a.length ≤ 262144) (hb : b.length ≤ 262144) (h : sealL a = sealL b) : a = b := by
  have h1 := first_seal ha []
  have h2 := first_seal hb []
  rw [h, h2] at h1
  simp only [Option.some.injEq, Prod.mk.injEq] at h1
  exact h1.1.symm
theorem bytes_inj {A A' : ViewA} (h : okV A) (h' : okV A') (he : bytesA A = bytesA A') : A = A' :=
  body_inj h h' (seal_inj (by have := body_len h; omega) (by have := body_len h'; omega) he)
/-- What is opened is sealed. -/
theorem open_is {b body : List UInt8} (h : openL b = some body) : b = sealL body ∧ body.length ≤ 262144 := by
  unfold openL at h
  cases hf : firstL b with
  | none => rw [hf] at h; cases h
  | some q =>
    obtain ⟨bd, n⟩ := q
    rw [hf] at h
    dsimp only at h
    split at h
    · rename_i hn
      obtain rfl := Option.some.inj h
      obtain ⟨h1, h2, h3, h4⟩ := first_inv hf
      rw [hn, List.take_length] at h4
      exact ⟨h4, h3⟩
    · cases h
theorem open_seal {body : List UInt8} (h : body.length ≤ 262144) : openL (sealL body) = some body := by
  have h1 := first_seal h []
  rw [List.append_nil] at h1
  unfold openL
  rw [h1]
  dsimp only
  obtain ⟨h2, -, -, h4⟩ := first_inv h1
  have hl : (sealL body).length = body.length + 8 := by
    unfold sealL
    rw [if_neg (by omega)]
    unfold headL
    simp only [List.length_append, four_len]; omega
  rw [if_pos hl.symm]

theorem iload_c (x : Sl) (bs : List UInt8) [hx : FocR l x 1 (bs.flatMap encU)] (hcap : x.len ≤ x.cap) (hn : bs.length ≤ 1000000000) (hs : Sat w l) :
    Ret P F.iso_Load #[x.v] w fun vs w' => (∃ (A : ViewA) (v : Nat), vs = [.pointer (some ⟨v, 0, none⟩), .int .i64 0] ∧ okV A ∧ bs = bytesA A ∧ Sat w' (vw v A :: l)) ∨
      (vs = [.pointer none, .int .i64 6] ∧ (∀ A, okV A → bs ≠ bytesA A) ∧ Sat w' l) :=
  iso_Load_calls x <| by
    unfold iso_Load
    refine wp_call (fopen_c x bs hcap hn hs) fun _ w' hs => ?_
    obtain ⟨z, rfl, hs⟩ := hs
    refine ret_of ?_
    refine wp_lt ?_
    cases ho : openL bs with
    | none =>
      refine wp_ifT ?_ (by simp)
      refine ⟨rfl, .inr ⟨rfl, fun A hA he => ?_, hs.tail⟩⟩
      rw [he] at ho
      unfold bytesA at ho
      rw [open_seal (by have := body_len hA; omega)] at ho
      cases ho
    | some body =>
      obtain ⟨hbs, hbl⟩ := open_is ho
      rw [ho] at hs
      have hs : Sat w' (slc T.uint8 1 z (body.flatMap encU) :: l) := hs
      refine wp_ifF ?_ (by simp)
      refine wp_call (newreader_c z body (by omega) hs) fun _ _ hs => ?_
      obtain ⟨p, rfl, hs⟩ := hs
      refine ret_of ?_
      have hs : Sat _ (rdP T.wire_Reader p ⟨body, 0, 0⟩ :: l) := hs.sub
      refine wp_call (inew_c hs) fun _ _ hs => ?_
      obtain ⟨v, rfl, hs⟩ := hs
      refine ret_of ?_
      have hbad : ∀ {w' : World}, (∀ A, okV A → body ≠ bodyA A) → Sat w' l → ((∃ (A : ViewA) (v : Nat), [Value.pointer none, .int .i64 6] = [.pointer (some ⟨v, 0, none⟩), .int .i64 0] ∧ okV A ∧ bs = bytesA A ∧ Sat w' (vw v A :: l)) ∨ ([Value.pointer none, .int .i64 6] = [.pointer none, .int .i64 6] ∧ (∀ A, okV A → bs ≠ bytesA A) ∧ Sat w' l)) := fun {w'} h hs =>
        .inr ⟨rfl, fun A hA he => h A hA (seal_inj hbl (by have := body_len hA; omega) (by rw [← hbs, he]; rfl)), hs⟩
      have hR0 : Rest ⟨body, 0, 0⟩ = body := rfl
      refine wp_call (upto_c (p := p) 1099511627777 (by omega) hs) fun _ w' hs => ?_
      obtain ⟨rfl, hs⟩ := hs
      refine ret_of ?_
      obtain ⟨m1, m2, -, hs⟩ := vw_open (hs.pick [1])
      refine wp_nn ?_
      refine wp_stO hs fun w' hs => ?_
      have hucase := uint_cases (R := ⟨body, 0, 0⟩) (Nat.zero_le _)
      rw [hR0] at hucase
      generalize (RdM.uint ⟨body, 0, 0⟩).1 = nx at *
      generalize (RdM.uint ⟨body, 0, 0⟩).2 = R1 at *
      refine wp_mid (fun u w' => (u = (true, ()) ∧ (∀ A, okV A → body ≠ bodyA A) ∧ Sat w' l) ∨ (∃ A, u = (false, ()) ∧ okV A ∧ body = bodyA A ∧ Sat w' (vw v A :: l))) ?_ ?_
      rotate_left
      · rintro _ w' (⟨rfl, h, hs⟩ | ⟨A, rfl, hA, h, hs⟩)
        · refine wp_on ?_
          refine wp_ifT ?_ trivial
          exact ⟨rfl, hbad h hs⟩
        · refine wp_on ?_
          refine wp_ifF ?_ (by simp)
          exact ⟨rfl, .inl ⟨A, v, rfl, hA, by rw [hbs, h]; rfl, hs⟩⟩
      refine wp_nn ?_
      refine wp_ldO hs ?_
      refine wp_if (fun hbig => ?_) fun hbig => ?_
      · refine wp_lv (.inl ⟨rfl, fun A hA he => ?_, hs.tail.tail.tail.tail⟩)
        have hnx := hA.next
        rcases hucase with ⟨-, h2, -, -, -, h6⟩ | ⟨h1, -⟩
        · rw [he] at h6
          obtain ⟨h7, -⟩ := uintL_inj (by omega) h2 h6
          rw [← h7, up_le (by omega)] at hbig
          omega
        · rw [h1] at hbig; simp [up] at hbig
      have hnx : nx ≤ 1099511627777 := up_is (by omega)
      rw [up_le hnx] at hs
      have hok0 : okV ⟨(nx : Int), [], []⟩ := ⟨by show (0 : Int) ≤ nx ∧ (nx : Int) ≤ _; omega, by simp, by simp, by simp, by simp, by simp, by simp, by simp, by simp⟩
      have hs : Sat _ (vw v ⟨(nx : Int), [], []⟩ :: rdP T.wire_Reader p R1 :: l) := vw_mk m1 m2 ⟨(nx : Int), [], []⟩ hok0 (.refl _) (.refl _) hs
      refine wp_call (opened_c (by omega) hs) fun _ w' hs => ?_
      rcases hs with ⟨ts, R2, rfl, o1, o2, o3, o4, hs⟩ | ⟨rfl, o1, hs⟩
      rotate_left
      · refine ret_of ?_
        refine wp_ifT ?_ (by simp)
        refine wp_lv (.inl ⟨rfl, fun A hA he => ?_, hs⟩)
        have hAn := hA.next
        rcases hucase with ⟨-, h2, h3, -, -, h6⟩ | ⟨-, h2, -, h4⟩
        · rw [he] at h6
          obtain ⟨h7, h8⟩ := uintL_inj (by omega) h2 h6
          refine o1 h3 A.op _ ?_ h8.symm
          have : A.next = (nx : Int) := by omega
          rw [← this]
          exact ⟨hA.next, ⟨hA.many.1, by simp⟩, hA.op, by simp, hA.byFirst, by simp, hA.pids, by simp, by simp⟩
        · exact h4 rfl _ _ (by omega) he
      refine ret_of ?_
      refine wp_ifF ?_ (by simp)
      refine wp_call (fell_c (by omega) hs) fun _ w' hs => ?_
      rcases hucase with ⟨-, h2, h3, -, -, h6⟩ | ⟨-, h2, -, -⟩
      rotate_left
      · exact absurd o1 h2
      rcases hs with ⟨us, R5, rfl, p1, p2, p3, p4, hs⟩ | ⟨rfl, p1, hs⟩
      rotate_left
      · refine ret_of ?_
        refine wp_ifT ?_ (by simp)
        refine wp_lv (.inl ⟨rfl, fun A hA he => ?_, hs⟩)
        have hAn := hA.next
        have hAm := hA.many
        have htm := o3.many.1
        simp only at htm
        rw [he] at h6
        obtain ⟨h7, h8⟩ := uintL_inj (by omega) h2 h6
        rw [o4] at h8
        obtain ⟨h9, h10⟩ := uintL_inj (by omega) (by omega) h8
        obtain ⟨rs, h11, h12⟩ := pre3 (okV_vld3 hA) (okV_vld3 o3) (show A.op.length ≤ ts.length by omega) h10
        have h11 : ts = A.op ++ rs := h11
        have hrs : rs = [] := by rw [h11, List.length_append] at h9; exact List.length_eq_zero_iff.1 (by omega)
        subst hrs
        rw [List.append_nil] at h11
        subst h11
        have e5 : A.next = (nx : Int) := by omega
        refine p1 o2 A.fa [] (by rw [← e5]; exact hA) ?_
        rw [List.append_nil]
        exact h12.symm
      refine ret_of ?_
      refine wp_ifF ?_ (by simp)
      have hb5 := (rd_bound (hs.pick [1])).1
      refine wp_call (rend_c (p := p) hs) fun _ _ hs => ?_
      obtain ⟨rfl, hs⟩ := hs
      refine ret_of ?_
      have hdone := done_cases hb5
      have hbody : body = uintL nx ++ (uintL ts.length ++ (ts.flatMap enc3 ++ (uintL us.length ++ (us.flatMap enc4 ++ Rest R5)))) := by rw [h6, o4, p4]
      by_cases hd : R5.done.e = 0
      · refine wp_lv (.inr ⟨⟨(nx : Int), ts, us⟩, by simp [hd], p3, ?_, hs.sub⟩)
        rw [hbody, (hdone.1 hd).2, List.append_nil]
        unfold bodyA uI
        simp
      · refine wp_lv (.inl ⟨by simp [hd], fun A hA he => ?_, hs.tail.tail⟩)
        apply hd
        refine hdone.2 ⟨p2, ?_⟩
        have hAn := hA.next
        have hAm := hA.many
        have htm := p3.many
        simp only at htm
        rw [he] at hbody
        unfold bodyA uI at hbody
        obtain ⟨h7, h8⟩ := uintL_inj (by omega) h2 hbody
        obtain ⟨h9, h10⟩ := uintL_inj (by omega) (by omega) h8
        obtain ⟨rs, h11, h12⟩ := pre3 (okV_vld3 hA) (okV_vld3 p3) (show A.op.length ≤ ts.length by omega) h10
        have h11 : ts = A.op ++ rs := h11
        have hrs : rs = [] := by rw [h11, List.length_append] at h9; exact List.length_eq_zero_iff.1 (by omega)
        subst hrs
        have h12 : uintL A.fa.length ++ A.fa.flatMap enc4 = uintL us.length ++ (us.flatMap enc4 ++ Rest R5) := h12
        obtain ⟨h13, h14⟩ := uintL_inj (by omega) (by omega) h12
        have h14 : A.fa.flatMap enc4 ++ [] = us.flatMap enc4 ++ Rest R5 := by rw [List.append_nil]; exact h14
        obtain ⟨rs, h15, h16⟩ := pre4 (okV_vld4 hA) (okV_vld4 p3) (show A.fa.length ≤ us.length by omega) h14
        have h15 : us = A.fa ++ rs := h15
        have hrs : rs = [] := by rw [h15, List.length_append] at h13; exact List.length_eq_zero_iff.1 (by omega)
        subst hrs
        exact h16.symm
end
end Go.Dec
