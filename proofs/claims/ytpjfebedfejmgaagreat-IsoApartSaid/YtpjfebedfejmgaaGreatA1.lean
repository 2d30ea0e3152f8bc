/- Isolation: the law's one, awake. -/
import Derived.Test.YtpjfebedfejmgaaGreatV4
namespace Go.Dec
set_option linter.unusedVariables false
set_option linter.unusedSimpArgs false

def rk : RecM := ⟨ByteArray.mk #[107], ByteArray.mk #[], false, 0⟩
def oneB (base pid kind : Int) (x : Sl) : BatM := ⟨base, pid, 0, 0, kind, 0, x, [rk]⟩
def endB (base pid kind : Int) : BatM := ⟨base, pid, 0, 0, kind, 0, ⟨none, 0, 0⟩, []⟩
instance {b : BatM} : IsR (sG [.int .i64, .int .i64, .int .i64, .int .i64, .int .i64, .int .i64, .slc]) [.agg (encB7 b).toArray] (b.base, b.pid, b.epoch, b.seq, b.kind, b.time, b.x, ()) := ⟨rfl⟩

section
variable {P : Program} {w : World} {l r : List HP} {Q : Post} {S : World → Prop} {t : TypeId} {sz : Nat}
/-- An element of a slice at a place that is told: a field; all of it. -/
theorem wp_ixFc {α : Type} {enc : α → List Value} {xs : List α} {x : Sl} {T : TypeId} {m j : Nat} {ii : Int} {gg g' : Prop} {p : Pr} {dec : α → p.D} {f : p.D → Prog} (hs : Sat w l) [hf : FocR l x sz (xs.flatMap enc)] [hE : EncN enc sz] [hD : EncF enc j p dec] [hT : One P T]
    (n : Nat) (hn : n < xs.length) (h : (f (dec xs[n])).wp P S w Q) (hm : m = n * sz := by rfl) (hi : ii = n := by rfl) :
    (Prog.ex [.adr] (c1 fun a => gg → (0 : Int) ≤ ii ∧ ii < ((x.len : Nat) : Int) ∧ x.a = some a) (u1 fun a => .read g' (ld T (Addr.add (Addr.add a m) j)) (.one (.one p)) (u1 f))).wp P S w Q := by
  obtain ⟨a, ha, hl, hr⟩ := run_ixF (P := P) (T := T) (x := x) (sz := sz) (xs := xs) (enc := enc) (j := j) (p := p) (dec := dec) hs (n := n) hn
  subst hm hi
  exact ⟨(a, ()), fun _ => ⟨by omega, by omega, ha⟩, (dec xs[n], ()), fun _ => hr, h⟩
theorem wp_ixAc {α : Type} {enc : α → List Value} {xs : List α} {x : Sl} {T : TypeId} {m q : Nat} {ii : Int} {gg g' : Prop} {ps : List Pr} {dec : α → HL ps} {k : HL ps → Prog} (hs : Sat w l) [hf : FocR l x sz (xs.flatMap enc)] [hE : EncN enc sz] [hD : EncA enc ps dec] [hT : Agg P T q]
    (n : Nat) (hn : n < xs.length) (h : (k (dec xs[n])).wp P S w Q) (hm : m = n * sz := by rfl) (hi : ii = n := by rfl) (hq : Nat.beq sz q = true := by rfl) :
    (Prog.ex [.adr] (c1 fun a => gg → (0 : Int) ≤ ii ∧ ii < ((x.len : Nat) : Int) ∧ x.a = some a) (u1 fun a => .read g' (ld T (Addr.add a m)) (.one (.agg ps)) k)).wp P S w Q := by
  have hq := Nat.eq_of_beq_eq_true hq
  subst hm hi hq
  have hr := hf.rd w hs
  have hl : x.len = xs.length := hr.len hE.len hE.pos
  obtain ⟨a, ha, he⟩ := hr.el hE.len (by omega)
  refine ⟨(a, ()), fun _ => ⟨by omega, by omega, ha⟩, dec xs[n], fun _ => ?_, h⟩
  have := he n hn
  have h2 := At.ldA (P := P) (T := T) this (hE.len _)
  rw [hD.ok] at h2
  exact h2
theorem wp_u4 {α β γ δ : Type} {f : α → β → γ → δ → Prog} (a : α) (b : β) (c : γ) (d : δ) (h : (f a b c d).wp P S w Q) : (u4 f (a, b, c, d, ())).wp P S w Q := h
theorem FocR.nil' (sz : Nat) : FocR l ⟨none, 0, 0⟩ sz ([] : List Value) := ⟨fun _ _ => ⟨(Nat.zero_mul sz).symm, .inl rfl⟩⟩
theorem wp_lits {α : Type} {enc : α → List Value} {n : Nat} {ps : Array (Nat × Value)} {el : TypeId} {bytes : Nat} {k : Sl → Prog} (hs : Sat w l) [ht : SlT P t el sz bytes] [hE : EncN enc sz] (xs : List α)
    (h : ∀ x w', Sat w' (slc el sz x (xs.flatMap enc) :: l) → (k x).wp P S w' Q) (hc : bsCells P t n ps = some (el, (xs.flatMap enc).toArray) := by kernel_rfl) (hn : xs.length = n := by rfl) (hS : ∀ w', S w' := by exact fun _ => trivial) :
    (Prog.act (Instr.buildSlice t n ps) sL (u1 k)).wp P S w Q := wp_slit hs xs hc (fun b w' hs => h _ w' hs) (by simp) hn hS
end

section
variable {w : World} {l r r1 r2 r3 l' : List HP} {v : Nat} {A A' : ViewA} {b : BatM} {e : Int}

theorem one_c (base pid kind : Int) (hs : Sat w l) : Ret P F.towpathlaw08_one #[.int .i64 base, .int .i64 pid, .int .i64 kind] w fun vs w' => ∃ x : Sl, vs = [.agg (encB7 (oneB base pid kind x)).toArray] ∧ Sat w' (slc T.api_Record 4 x ([rk].flatMap encR) :: l) :=
  towpathlaw08_one_calls base pid kind <| by
    unfold towpathlaw08_one
    refine wp_newO hs fun a0 w' hs => ?_
    refine wp_slit1 hs (enc := encR) rk fun x w' hs => ?_
    refine wp_stG hs fun w' hs => ?_
    refine wp_ldG hs ?_
    exact ⟨rfl, x, rfl, hs.tail⟩

theorem take_e (b : BatM) [hf : Fo l vw v A r] [hb : FocR r b.x 4 (b.rs.flatMap encR)] (hA : takeA A b = (e, A')) (hs : Sat w l) : Ret P F.iso_View_Take #[.pointer (some ⟨v, 0, none⟩), .agg (encB7 b).toArray] w fun vs w' => vs = [.int .i64 e] ∧ Sat w' (vw v A' :: r) := by
  have h := itake_c (hf := hf) (hb := hb) b hs
  rw [hA] at h
  exact h

theorem aw1 (x : Sl) : takeA ⟨0, [], []⟩ (oneB 0 3 1 x) = (0, ⟨1, [⟨3, 0, 0, -1⟩], []⟩) := by kernel_rfl
theorem aw2 (x : Sl) : takeA ⟨1, [⟨3, 0, 0, -1⟩], []⟩ (oneB 1 0 0 x) = (0, ⟨2, [⟨3, 0, 0, -1⟩], []⟩) := by kernel_rfl
theorem aw3 (x : Sl) : takeA ⟨2, [⟨3, 0, 0, -1⟩], []⟩ (oneB 2 4 1 x) = (0, ⟨3, [⟨3, 0, 0, -1⟩, ⟨4, 0, 2, -1⟩], []⟩) := by kernel_rfl
theorem aw4 : takeA ⟨3, [⟨3, 0, 0, -1⟩, ⟨4, 0, 2, -1⟩], []⟩ (endB 3 3 2) = (0, ⟨4, [⟨4, 0, 2, -1⟩], []⟩) := by kernel_rfl
theorem aw5 : takeA ⟨4, [⟨4, 0, 2, -1⟩], []⟩ (endB 4 4 3) = (0, ⟨5, [], [⟨4, 0, 2, 4⟩]⟩) := by kernel_rfl
theorem awp1 (x y z : Sl) : pickA ⟨4, [⟨4, 0, 2, -1⟩], []⟩ [oneB 0 3 1 x, oneB 1 0 0 y, oneB 2 4 1 z, endB 3 3 2] = [⟨0, rk⟩, ⟨1, rk⟩] := by kernel_rfl
theorem awp2 (x y z : Sl) : pickA ⟨5, [], [⟨4, 0, 2, 4⟩]⟩ [oneB 0 3 1 x, oneB 1 0 0 y, oneB 2 4 1 z, endB 3 3 2, endB 4 4 3] = [⟨0, rk⟩, ⟨1, rk⟩] := by kernel_rfl
theorem awf (z : Sl) : fateA ⟨5, [], [⟨4, 0, 2, 4⟩]⟩ (oneB 2 4 1 z) = 2 := by kernel_rfl
instance : EncF encAt 0 (.int .i64) (fun a => a.off) := ⟨fun _ => rfl⟩

theorem awake8 (hs : Sat w l) : Ret P F.towpathlaw08_awake #[] w fun vs w' => vs = [.bool true] ∧ Sat w' l :=
  towpathlaw08_awake_calls <| by
    unfold towpathlaw08_awake
    refine wp_call (inew_c hs) fun _ _ hs => ?_
    obtain ⟨v, rfl, hs⟩ := hs
    refine ret_of ?_
    refine wp_ifF ?_ (by simp)
    refine wp_call (one_c 0 3 1 hs) fun _ _ hs => ?_
    obtain ⟨x1, rfl, hs⟩ := hs
    refine ret_of ?_
    refine wp_call (one_c 1 0 0 hs) fun _ _ hs => ?_
    obtain ⟨x2, rfl, hs⟩ := hs
    refine ret_of ?_
    refine wp_call (one_c 2 4 1 hs) fun _ _ hs => ?_
    obtain ⟨x3, rfl, hs⟩ := hs
    refine ret_of ?_
    refine wp_newO hs fun a22 w' hs => ?_
    refine wp_newO hs fun a23 w' hs => ?_
    refine wp_newO hs fun a24 w' hs => ?_
    refine wp_stG hs fun w' hs => ?_
    refine wp_stG hs fun w' hs => ?_
    refine wp_stG hs fun w' hs => ?_
    refine wp_newO hs fun a25 w' hs => ?_
    refine wp_newO hs fun a26 w' hs => ?_
    refine wp_stG hs fun w' hs => ?_
    refine wp_stG hs fun w' hs => ?_
    have hs : Sat w' (pt a26 (.cells #[.int .i64 4, .int .i64 4, .int .i64 0, .int .i64 0, .int .i64 3, .int .i64 0, .slice none 0 0] T.api_Batch) ::
      pt a25 (.cells #[.int .i64 3, .int .i64 3, .int .i64 0, .int .i64 0, .int .i64 2, .int .i64 0, .slice none 0 0] T.api_Batch) ::
      pt a24 (.cells #[.int .i64 2, .int .i64 4, .int .i64 0, .int .i64 0, .int .i64 1, .int .i64 0, .slice x3.a x3.len x3.cap] T.api_Batch) ::
      pt a23 (.cells #[.int .i64 1, .int .i64 0, .int .i64 0, .int .i64 0, .int .i64 0, .int .i64 0, .slice x2.a x2.len x2.cap] T.api_Batch) ::
      pt a22 (.cells #[.int .i64 0, .int .i64 3, .int .i64 0, .int .i64 0, .int .i64 1, .int .i64 0, .slice x1.a x1.len x1.cap] T.api_Batch) ::
      slc T.api_Record 4 x3 ([rk].flatMap encR) :: slc T.api_Record 4 x2 ([rk].flatMap encR) :: slc T.api_Record 4 x1 ([rk].flatMap encR) :: vw v ⟨0, [], []⟩ :: l) := hs
    refine wp_mid (fun u w' => u = (true, ()) ∧ Sat w' (vw v ⟨4, [⟨4, 0, 2, -1⟩], []⟩ :: slc T.api_Record 4 x1 ([rk].flatMap encR) :: slc T.api_Record 4 x2 ([rk].flatMap encR) :: slc T.api_Record 4 x3 ([rk].flatMap encR) ::
      pt a22 (.cells #[.int .i64 0, .int .i64 3, .int .i64 0, .int .i64 0, .int .i64 1, .int .i64 0, .slice x1.a x1.len x1.cap] T.api_Batch) ::
      pt a23 (.cells #[.int .i64 1, .int .i64 0, .int .i64 0, .int .i64 0, .int .i64 0, .int .i64 0, .slice x2.a x2.len x2.cap] T.api_Batch) ::
      pt a24 (.cells #[.int .i64 2, .int .i64 4, .int .i64 0, .int .i64 0, .int .i64 1, .int .i64 0, .slice x3.a x3.len x3.cap] T.api_Batch) ::
      pt a25 (.cells #[.int .i64 3, .int .i64 3, .int .i64 0, .int .i64 0, .int .i64 2, .int .i64 0, .slice none 0 0] T.api_Batch) ::
      pt a26 (.cells #[.int .i64 4, .int .i64 4, .int .i64 0, .int .i64 0, .int .i64 3, .int .i64 0, .slice none 0 0] T.api_Batch) :: l)) ?_ ?_
    · refine wp_ldG hs ?_
      refine wp_call (take_e (v := v) (oneB 0 3 1 x1) (hb := by show FocR _ x1 4 ([rk].flatMap encR); infer_instance) (aw1 x1) hs) fun _ _ hs => ?_
      obtain ⟨rfl, hs⟩ := hs
      refine ret_of ?_
      refine wp_ldG hs ?_
      refine wp_ifT ?_ rfl
      refine wp_call (take_e (v := v) (oneB 1 0 0 x2) (hb := by show FocR _ x2 4 ([rk].flatMap encR); infer_instance) (aw2 x2) hs) fun _ _ hs => ?_
      obtain ⟨rfl, hs⟩ := hs
      refine ret_of ?_
      refine wp_ldG hs ?_
      refine wp_ifT ?_ rfl
      refine wp_call (take_e (v := v) (oneB 2 4 1 x3) (hb := by show FocR _ x3 4 ([rk].flatMap encR); infer_instance) (aw3 x3) hs) fun _ _ hs => ?_
      obtain ⟨rfl, hs⟩ := hs
      refine ret_of ?_
      refine wp_ldG hs ?_
      refine wp_ifT ?_ rfl
      refine wp_call (take_e (v := v) (endB 3 3 2) (hb := FocR.nil' 4) aw4 hs) fun _ _ hs => ?_
      obtain ⟨rfl, hs⟩ := hs
      refine ret_of ?_
      refine wp_lt ?_
      exact wp_lv ⟨rfl, hs.sub⟩
    clear hs
    rintro _ w ⟨rfl, hs⟩
    refine wp_on ?_
    refine wp_ldG hs ?_
    refine wp_ldG hs ?_
    refine wp_ldG hs ?_
    refine wp_ldG hs ?_
    refine wp_lits hs (enc := encB7) [oneB 0 3 1 x1, oneB 1 0 0 x2, oneB 2 4 1 x3, endB 3 3 2] fun y w' hs => ?_
    refine wp_call (ipick_c (v := v) y [oneB 0 3 1 x1, oneB 1 0 0 x2, oneB 2 4 1 x3, endB 3 3 2] (fun b hb => ?_) (by simp) (fun b hb => ?_) hs) fun _ w' h => ?_
    · simp only [List.mem_cons, List.not_mem_nil, or_false] at hb
      rcases hb with rfl | rfl | rfl | rfl
      · show FocR _ x1 4 ([rk].flatMap encR); infer_instance
      · show FocR _ x2 4 ([rk].flatMap encR); infer_instance
      · show FocR _ x3 4 ([rk].flatMap encR); infer_instance
      · exact FocR.nil' 4
    · simp only [List.mem_cons, List.not_mem_nil, or_false] at hb
      rcases hb with rfl | rfl | rfl | rfl <;> simp [oneB, endB]
    obtain ⟨z1, rfl, hs⟩ := h
    refine ret_of ?_
    rw [awp1] at hs
    have hz1 := hs.slen z1 (xs := [(⟨0, rk⟩ : AtM), ⟨1, rk⟩]) (enc := encAt)
    refine wp_call (istable_c (v := v) hs) fun _ _ hs => ?_
    obtain ⟨rfl, hs⟩ := hs
    refine ret_of ?_
    refine wp_lt ?_
    refine wp_lt ?_
    refine wp_mid (fun u w' => u = (true, ()) ∧ Sat w' (vw v ⟨5, [], [⟨4, 0, 2, 4⟩]⟩ :: slc T.api_Record 4 x1 ([rk].flatMap encR) :: slc T.api_Record 4 x2 ([rk].flatMap encR) :: slc T.api_Record 4 x3 ([rk].flatMap encR) ::
      pt a22 (.cells #[.int .i64 0, .int .i64 3, .int .i64 0, .int .i64 0, .int .i64 1, .int .i64 0, .slice x1.a x1.len x1.cap] T.api_Batch) ::
      pt a23 (.cells #[.int .i64 1, .int .i64 0, .int .i64 0, .int .i64 0, .int .i64 0, .int .i64 0, .slice x2.a x2.len x2.cap] T.api_Batch) ::
      pt a24 (.cells #[.int .i64 2, .int .i64 4, .int .i64 0, .int .i64 0, .int .i64 1, .int .i64 0, .slice x3.a x3.len x3.cap] T.api_Batch) ::
      pt a25 (.cells #[.int .i64 3, .int .i64 3, .int .i64 0, .int .i64 0, .int .i64 2, .int .i64 0, .slice none 0 0] T.api_Batch) ::
      pt a26 (.cells #[.int .i64 4, .int .i64 4, .int .i64 0, .int .i64 0, .int .i64 3, .int .i64 0, .slice none 0 0] T.api_Batch) :: l)) ?_ ?_
    · refine wp_ldG hs ?_
      refine wp_ifT ?_ trivial
      refine wp_call (take_e (v := v) (endB 4 4 3) (hb := FocR.nil' 4) aw5 hs) fun _ _ hs => ?_
      obtain ⟨rfl, hs⟩ := hs
      refine ret_of ?_
      refine wp_lt ?_
      exact wp_lv ⟨rfl, hs.sub⟩
    clear hs
    rintro _ w ⟨rfl, hs⟩
    refine wp_on ?_
    refine wp_ldG hs ?_
    refine wp_ldG hs ?_
    refine wp_ldG hs ?_
    refine wp_ldG hs ?_
    refine wp_ldG hs ?_
    refine wp_lits hs (enc := encB7) [oneB 0 3 1 x1, oneB 1 0 0 x2, oneB 2 4 1 x3, endB 3 3 2, endB 4 4 3] fun y w' hs => ?_
    refine wp_call (ipick_c (v := v) y [oneB 0 3 1 x1, oneB 1 0 0 x2, oneB 2 4 1 x3, endB 3 3 2, endB 4 4 3] (fun b hb => ?_) (by simp) (fun b hb => ?_) hs) fun _ w' h => ?_
    · simp only [List.mem_cons, List.not_mem_nil, or_false] at hb
      rcases hb with rfl | rfl | rfl | rfl | rfl
      · show FocR _ x1 4 ([rk].flatMap encR); infer_instance
      · show FocR _ x2 4 ([rk].flatMap encR); infer_instance
      · show FocR _ x3 4 ([rk].flatMap encR); infer_instance
      · exact FocR.nil' 4
      · exact FocR.nil' 4
    · simp only [List.mem_cons, List.not_mem_nil, or_false] at hb
      rcases hb with rfl | rfl | rfl | rfl | rfl <;> simp [oneB, endB]
    obtain ⟨z2, rfl, hs⟩ := h
    refine ret_of ?_
    rw [awp2] at hs
    have hz2 := hs.slen z2 (xs := [(⟨0, rk⟩ : AtM), ⟨1, rk⟩]) (enc := encAt)
    refine wp_call (ifallen_c (v := v) hs) fun _ _ hs => ?_
    obtain ⟨z3, rfl, hs⟩ := hs
    refine ret_of ?_
    have hz3 := hs.slen z3 (xs := [(⟨4, 0, 2, 4⟩ : TxnA)]) (enc := encX)
    refine wp_mid (fun u w' => u = (true, ()) ∧ Sat w' l) ?_ (by rintro _ w' ⟨rfl, hs⟩; refine wp_on ?_; exact ⟨rfl, rfl, hs⟩)
    have hz1 : z1.len = 2 := hz1
    have hz2 : z2.len = 2 := hz2
    have hz3 : z3.len = 1 := hz3
    refine wp_ixFc hs (xs := [(⟨0, rk⟩ : AtM), ⟨1, rk⟩]) (enc := encAt) 1 (by simp) ?_
    refine wp_ifT ?_ ?_
    rotate_left
    · refine ⟨⟨⟨⟨trivial, ?_⟩, rfl⟩, ?_⟩, rfl⟩
      · rw [hz1]; rfl
      · rw [hz2]; rfl
    refine wp_call (istable_c (v := v) hs) fun _ _ hs => ?_
    obtain ⟨rfl, hs⟩ := hs
    refine ret_of ?_
    refine wp_ixAc hs (xs := [(⟨4, 0, 2, 4⟩ : TxnA)]) (enc := encX) 0 (by simp) ?_
    refine wp_u4 _ _ _ _ ?_
    refine wp_ldG hs ?_
    refine wp_ifT ?_ ?_
    rotate_left
    · refine ⟨⟨rfl, ?_⟩, rfl, rfl, rfl, rfl⟩
      rw [hz3]; rfl
    refine wp_call (ifate_c (v := v) (oneB 2 4 1 x3) hs) fun _ _ hs => ?_
    obtain ⟨rfl, hs⟩ := hs
    refine ret_of ?_
    rw [awf]
    refine wp_lt ?_
    exact wp_lv ⟨rfl, hs.sub⟩

end
end Go.Dec
