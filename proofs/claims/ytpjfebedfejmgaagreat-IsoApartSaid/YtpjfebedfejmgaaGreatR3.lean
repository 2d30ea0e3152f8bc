/- Isolation: the law's records. -/
import Derived.Test.YtpjfebedfejmgaaGreatT2
namespace Go.Dec
set_option linter.unusedVariables false
set_option linter.unusedSimpArgs false

section
variable {P : Program} {w : World} {l r : List HP} {Q : Post} {S : World → Prop} {T : TypeId} {sz : Nat} {x : Sl}
theorem At.part {A : Addr} {vs : List Value} (h : At w A vs) (j q : Nat) : At w (A.add j) ((vs.drop j).take q) := by
  obtain ⟨b, o, arr, T', fr, rfl, hb, hc⟩ := h
  refine ⟨b, o + j, arr, T', fr, add_mk .., hb, fun i hi => ?_⟩
  rw [List.length_take, List.length_drop] at hi
  rw [List.getElem?_take, if_pos (by omega), List.getElem?_drop, Nat.add_assoc, hc (j + i) (by omega)]
/-- Cells of an element, read qs a struct. -/
theorem wp_ixP {α : Type} {enc : α → List Value} {xs : List α} {j q : Nat} {i i' : Int} {g g' : Prop} {ps : List Pr} {k : HL ps → Prog} (hs : Sat w l) [hf : FocR l x sz (xs.flatMap enc)] [hE : EncN enc sz] [hT : Agg P T q] (n : Nat) (hn : n < xs.length) (y : HL ps)
    (h : (k y).wp P S w Q) (hy : ((enc xs[n]).drop j).take q = HL.vals ps y := by rfl) (hq : (HL.vals ps y).length = q := by rfl) (hi : i = n := by first | rfl | omega) (hi' : i' = i := by rfl) :
    (Prog.ex [.adr] (c1 fun a => g → 0 ≤ i ∧ i < ((x.len : Nat) : Int) ∧ x.a = some a) (u1 fun a => .read g' (ld T (Addr.add (Addr.add a (Int.toNat i' * sz)) j)) (.one (.agg ps)) k)).wp P S w Q := by
  subst hi hi'
  have hr := hf.rd w hs
  have hl : x.len = xs.length := hr.len hE.len hE.pos
  obtain ⟨a, ha, he⟩ := hr.el hE.len (by omega)
  refine ⟨(a, ()), fun _ => ⟨by omega, by omega, ha⟩, y, fun _ => ?_, h⟩
  have h1 := At.part (he n hn) j q
  rw [hy] at h1
  exact At.ldA (P := P) (T := T) h1 hq
end

section
variable {w : World} {l r : List HP}
instance : EncF encAt 0 (.int .i64) (fun a => a.off) := ⟨fun _ => rfl⟩

theorem records_c (x y : Sl) (qs : List AtM) [hx : FocR l x 5 (qs.flatMap encAt)] [hy : FocR l y 5 (qs.flatMap encAt)] (hn : qs.length ≤ 1000000) (hs : Sat w l) : Ret P F.towpathlaw08_records #[x.v, y.v] w fun vs w' => vs = [.bool true] ∧ Sat w' l :=
  towpathlaw08_records_calls x y <| by
    unfold towpathlaw08_records
    have hxl := hs.slen x (xs := qs) (enc := encAt)
    have hyl := hs.slen y (xs := qs) (enc := encAt)
    refine wp_ifF ?_ (by omega)
    refine wp_mid (fun _ w' => Sat w' l) ?_ (by rintro _ w' hs; refine wp_on ?_; exact ⟨rfl, rfl, hs⟩)
    refine wp_loop (fun k p w => ∃ i : Nat, p = ((i : Int), ()) ∧ i ≤ qs.length ∧ qs.length - i = k ∧ Sat w l) qs.length ⟨0, rfl, by omega, rfl, hs⟩ ?_
    clear hs
    rintro k _ w ⟨i, rfl, hi, hk, hs⟩
    refine wp_on ?_
    refine wp_if (fun hc => ?_) fun hc => ?_
    rotate_left
    · exact wp_pass (wp_lv hs)
    have hil : i < qs.length := by omega
    refine wp_lt ?_
    refine wp_tk hs fun w' hs => ?_
    refine wp_ixF hs (xs := qs) (enc := encAt) i hil ?_
    refine wp_ixF hs (xs := qs) (enc := encAt) i hil ?_
    refine wp_ixP hs (xs := qs) (enc := encAt) i hil (qs[i].r.key, qs[i].r.value, qs[i].r.gone, qs[i].r.time, ()) ?_
    refine wp_on ?_
    refine wp_ixP hs (xs := qs) (enc := encAt) i hil (qs[i].r.key, qs[i].r.value, qs[i].r.gone, qs[i].r.time, ()) ?_
    refine wp_on ?_
    refine wp_untick ?_
    refine wp_ite_f ?_ ?_
    · simp [beq_bytes]
    refine wp_dn (us' := [.int .i64 ((i + 1 : Nat) : Int)]) (by (try simp (disch := omega) only [w64]); first | rfl | (congr; omega)) ?_
    refine wp_lp (qs.length - (i + 1)) ?_
    exact ⟨i + 1, rfl, by omega, rfl, hs⟩

end
end Go.Dec
