/- Wire: joins of two, three and four parts; numbers that are not negative. -/
import Derived.Test.YtpjfebedfejmgaaGreatWr2
namespace Go.Dec
set_option linter.unusedVariables false
set_option linter.unusedSimpArgs false

theorem wu64i {n : Int} (h : 0 ≤ n ∧ n < 9223372036854775808) : IntKind.wrap .u64 n = ((n.toNat : Nat) : Int) := by
  obtain ⟨m, rfl⟩ := Int.eq_ofNat_of_zero_le h.1
  show IntKind.wrap .u64 ((m : Nat) : Int) = _
  rw [wu64m]; omega
theorem flat_le {α : Type} {f : α → List UInt8} {n : Nat} : ∀ {ts : List α}, (∀ t ∈ ts, (f t).length ≤ n) → (ts.flatMap f).length ≤ ts.length * n
  | [], _ => by simp
  | t :: r, h => by
    have h1 := flat_le fun u hu => h u (List.mem_cons_of_mem _ hu)
    have h2 := h t (List.mem_cons_self ..)
    rw [List.flatMap_cons, List.length_append, List.length_cons, Nat.add_mul, Nat.one_mul]
    omega
/-- A number aa bytes. -/
def uI (n : Int) : List UInt8 := uintL n.toNat
theorem uI_len (n : Int) : 0 < (uI n).length ∧ (uI n).length ≤ 10 := uintL_len _

section
variable {w : World} {l r : List HP} {Q : Post} {S : World → Prop}
theorem wint_c (n : Int) (hn : 0 ≤ n ∧ n < 9223372036854775808) (hs : Sat w l) : Ret P F.wire_Uint #[.int .u64 (IntKind.wrap .u64 n)] w fun vs w' => ∃ z : Sl, vs = [z.v] ∧ Sat w' (slc T.uint8 1 z ((uI n).flatMap encU) :: l) := by
  rw [wu64i hn]
  exact wuint_c n.toNat (by omega) hs
theorem dint_c (n : Int) (hn : 0 ≤ n ∧ n < 9223372036854775808) (hs : Sat w l) : Ret P F.towpathref01_Uint #[.int .u64 (IntKind.wrap .u64 n)] w fun vs w' => ∃ z : Sl, vs = [z.v] ∧ Sat w' (slc T.uint8 1 z ((uI n).flatMap encU) :: l) := by
  rw [wu64i hn]
  exact duint_c 9 n.toNat (by omega) (by omega) hs
theorem wjoin2_c (x a b : Sl) (aa bs : List UInt8) [hx : FocR l x 1 ([a, b].flatMap encSl)] [ha : FocR l a 1 (aa.flatMap encU)] [hb : FocR l b 1 (bs.flatMap encU)] (hn : aa.length + bs.length ≤ 1000000000) (hs : Sat w l) :
    Ret P F.wire_Join #[x.v] w fun vs w' => ∃ z : Sl, vs = [z.v] ∧ Sat w' (slc T.uint8 1 z ((aa ++ bs).flatMap encU) :: l) := by
  have := @wjoin_c w l x [(a, aa), (b, bs)] hx (by
    intro p hp
    rcases List.mem_cons.1 hp with rfl | hp
    · exact ha
    · rw [List.mem_singleton.1 hp]; exact hb) (by simp) (by simp; omega) hs
  simpa using this
theorem wjoin3_c (x a b c : Sl) (aa bs cs : List UInt8) [hx : FocR l x 1 ([a, b, c].flatMap encSl)] [ha : FocR l a 1 (aa.flatMap encU)] [hb : FocR l b 1 (bs.flatMap encU)] [hc : FocR l c 1 (cs.flatMap encU)] (hn : aa.length + bs.length + cs.length ≤ 1000000000) (hs : Sat w l) :
    Ret P F.wire_Join #[x.v] w fun vs w' => ∃ z : Sl, vs = [z.v] ∧ Sat w' (slc T.uint8 1 z ((aa ++ (bs ++ cs)).flatMap encU) :: l) := by
  have := @wjoin_c w l x [(a, aa), (b, bs), (c, cs)] hx (by
    intro p hp
    rcases List.mem_cons.1 hp with rfl | hp
    · exact ha
    rcases List.mem_cons.1 hp with rfl | hp
    · exact hb
    · rw [List.mem_singleton.1 hp]; exact hc) (by simp) (by simp; omega) hs
  simpa using this
theorem wjoin4_c (x a b c d : Sl) (aa bs cs ds : List UInt8) [hx : FocR l x 1 ([a, b, c, d].flatMap encSl)] [ha : FocR l a 1 (aa.flatMap encU)] [hb : FocR l b 1 (bs.flatMap encU)] [hc : FocR l c 1 (cs.flatMap encU)] [hd : FocR l d 1 (ds.flatMap encU)]
    (hn : aa.length + bs.length + cs.length + ds.length ≤ 1000000000) (hs : Sat w l) :
    Ret P F.wire_Join #[x.v] w fun vs w' => ∃ z : Sl, vs = [z.v] ∧ Sat w' (slc T.uint8 1 z ((aa ++ (bs ++ (cs ++ ds))).flatMap encU) :: l) := by
  have := @wjoin_c w l x [(a, aa), (b, bs), (c, cs), (d, ds)] hx (by
    intro p hp
    rcases List.mem_cons.1 hp with rfl | hp
    · exact ha
    rcases List.mem_cons.1 hp with rfl | hp
    · exact hb
    rcases List.mem_cons.1 hp with rfl | hp
    · exact hc
    · rw [List.mem_singleton.1 hp]; exact hd) (by simp) (by simp; omega) hs
  simpa using this
/-- A literal of any length. -/
theorem wp_litx {P : Program} {t : TypeId} {sz : Nat} {α : Type} {enc : α → List Value} {n : Nat} {ps : Array (Nat × Value)} {el : TypeId} {bytes : Nat} {k : Sl → Prog} (hs : Sat w l) [ht : SlT P t el sz bytes] [hE : EncN enc sz] (xs : List α)
    (h : ∀ x w', Sat w' (slc el sz x (xs.flatMap enc) :: l) → (k x).wp P S w' Q) (hc : bsCells P t n ps = some (el, (xs.flatMap enc).toArray) := by kernel_rfl) (hn : xs.length = n := by rfl) (hS : ∀ w', S w' := by exact fun _ => trivial) :
    (Prog.act (Instr.buildSlice t n ps) sL (u1 k)).wp P S w Q := wp_slit hs xs hc (fun b w' hs => h _ w' hs) (by simp) hn hS
end
end Go.Dec
