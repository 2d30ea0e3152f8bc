/- Sorting, part B: elements read, compared, swapped. -/
import Derived.Test.YtpjfebedfejmgaaSortA
namespace Go.Dec
set_option linter.unusedVariables false
set_option linter.unusedSimpArgs false

abbrev SortI.E (I : SortI) : Type := HL I.s.prims
abbrev SortI.enc (I : SortI) (x : I.E) : List Value := HL.vals I.s.prims x
abbrev SortI.arr (I : SortI) (d : Sl) (xs : List I.E) : HP := slc I.T I.sz d (xs.flatMap I.enc)

/-- What is known of an element's type and of its comparison. -/
structure SortI.Ok (P : Program) (I : SortI) (lt : I.E → I.E → Bool) : Prop where
  pos : 0 < I.sz
  enc : ∀ x, (I.enc x).length = I.sz
  ld : ∀ w A (x : I.E), At w A (I.enc x) → (ld I.T A).run P w = .ok ((Sh.one I.s).mk x) w
  size : sizeOf? P I.T = some I.sz
  cells : ∀ x : I.E, ((Sh.one I.s).mk x).cells.toList = I.enc x
  one : ∀ (x : I.E), ∀ u ∈ I.enc x, u.oneCell' = true
  less : ∀ {x y : I.E} {k : Bool → Prog} {w : World} {l : List HP} {Q : Post}, Sat w l → (∀ w', Sat w' l → (k (lt x y)).wp P tt w' Q) → (I.less x y k).wp P tt w Q

def swapL {α : Type} (xs : List α) (i j : Nat) : List α := match xs[i]?, xs[j]? with
  | some x, some y => (xs.set i y).set j x
  | _, _ => xs
def ltAt {α : Type} (lt : α → α → Bool) (xs : List α) (i j : Nat) : Bool := match xs[i]?, xs[j]? with
  | some x, some y => lt x y
  | _, _ => false

section
variable {P : Program} {I : SortI} {lt : I.E → I.E → Bool} {w : World} {l : List HP} {Q : Post} {d : Sl} {xs : List I.E}

theorem SortI.Ok.len (ok : I.Ok P lt) (hs : Sat w (I.arr d xs :: l)) : d.len = xs.length := hs.rd.len ok.enc ok.pos

theorem wp_plain (ok : I.Ok P lt) {i j : Int} {k : Bool → Prog} (ni nj : Nat) (hi : i = ni) (hj : j = nj) (hil : ni < xs.length) (hjl : nj < xs.length) (hs : Sat w (I.arr d xs :: l))
    (h : ∀ w', Sat w' (I.arr d xs :: l) → (k (ltAt lt xs ni nj)).wp P tt w' Q) :
    (Prog.tick <| .ex [.adr] (c1 fun a => 0 ≤ i ∧ i < ((d.len : Nat) : Int) ∧ d.a = some a) (u1 fun a => .read True (ld I.T (Addr.add a (Int.toNat i * I.sz))) (.one I.s) (fun x =>
      .ex [.adr] (c1 fun a => 0 ≤ j ∧ j < ((d.len : Nat) : Int) ∧ d.a = some a) (u1 fun a => .read True (ld I.T (Addr.add a (Int.toNat j * I.sz))) (.one I.s) (fun y =>
      I.less x y (fun b => .untick (k b))))))).wp P tt w Q := by
  subst hi hj
  have hl := ok.len hs
  refine wp_tick fun w2 hw => ?_
  have hs := hs.heap hw
  obtain ⟨a, ha, ea⟩ := hs.rd.el ok.enc (by omega)
  refine wp_ex (a, ()) ⟨by omega, by omega, ha⟩ ?_
  refine wp_read xs[ni] (fun _ => ok.ld _ _ _ (ea ni hil)) ?_
  refine wp_ex (a, ()) ⟨by omega, by omega, ha⟩ ?_
  refine wp_read xs[nj] (fun _ => ok.ld _ _ _ (ea nj hjl)) ?_
  refine ok.less hs fun w' hs => ?_
  have := h w' hs
  simp only [ltAt, List.getElem?_eq_getElem hil, List.getElem?_eq_getElem hjl] at this
  exact this

/-- A comparison under a guard. -/
theorem wp_gcmp (ok : I.Ok P lt) {e : Nat} {g : Bool} {i j : Int} {f : Bool → Bool} {k : Bool × Unit → Prog} (ni nj : Nat) (hi : g = true → i = ni ∧ ni < xs.length) (hj : g = true → j = nj ∧ nj < xs.length) (x0 : I.E) (hs : Sat w (I.arr d xs :: l))
    (h : ∀ w', Sat w' (I.arr d xs :: l) → (k (g && f (ltAt lt xs ni nj), ())).wp P tt w' Q) :
    (Prog.bind e [.one .bool] (.tick <| .ex [.adr] (c1 fun a => g = true → 0 ≤ i ∧ i < ((d.len : Nat) : Int) ∧ d.a = some a) (u1 fun a => .read (g = true) (ld I.T (Addr.add a (Int.toNat i * I.sz))) (.one I.s) (fun x =>
      .ex [.adr] (c1 fun a => g = true → 0 ≤ j ∧ j < ((d.len : Nat) : Int) ∧ d.a = some a) (u1 fun a => .read (g = true) (ld I.T (Addr.add a (Int.toNat j * I.sz))) (.one I.s) (fun y =>
      .ite g (I.less x y (fun b => .untick (.done e [.bool (f b)]))) (.untick (.done e [.bool false]))))))) k).wp P tt w Q := by
  refine wp_mid (fun v w' => v = (g && f (ltAt lt xs ni nj), ()) ∧ Sat w' (I.arr d xs :: l)) ?_ (by rintro _ w' ⟨rfl, hs⟩; exact h w' hs)
  refine wp_tick fun w2 hw => ?_
  have hs := hs.heap hw
  have hl := ok.len hs
  cases hg : g with
  | false =>
    refine wp_ex (⟨0, 0, none⟩, ()) (fun h => by cases h) ?_
    refine wp_read x0 (fun h => by cases h) ?_
    refine wp_ex (⟨0, 0, none⟩, ()) (fun h => by cases h) ?_
    refine wp_read x0 (fun h => by cases h) ?_
    exact wp_ite_f rfl (wp_untick (wp_leave ⟨(false, ()), rfl, rfl, hs⟩))
  | true =>
    obtain ⟨rfl, hil⟩ := hi hg
    obtain ⟨rfl, hjl⟩ := hj hg
    obtain ⟨a, ha, ea⟩ := hs.rd.el ok.enc (by omega)
    refine wp_ex (a, ()) (fun _ => ⟨by omega, by omega, ha⟩) ?_
    refine wp_read xs[ni] (fun _ => ok.ld _ _ _ (ea ni hil)) ?_
    refine wp_ex (a, ()) (fun _ => ⟨by omega, by omega, ha⟩) ?_
    refine wp_read xs[nj] (fun _ => ok.ld _ _ _ (ea nj hjl)) ?_
    refine wp_ite_t rfl ?_
    refine ok.less hs fun w' hs => ?_
    refine wp_untick (wp_leave ⟨(f (lt xs[ni] xs[nj]), ()), rfl, ?_, hs⟩)
    simp only [ltAt, List.getElem?_eq_getElem hil, List.getElem?_eq_getElem hjl, Bool.true_and]

/-- 'd[i], d[j] = d[j], d[i]' -/
theorem wp_swap (ok : I.Ok P lt) {e : Nat} {i j : Int} {k : Unit → Prog} (ni nj : Nat) (hi : i = ni) (hj : j = nj) (hil : ni < xs.length) (hjl : nj < xs.length) (hs : Sat w (I.arr d xs :: l))
    (h : ∀ w', Sat w' (I.arr d (swapL xs ni nj) :: l) → (k ()).wp P tt w' Q) :
    (Prog.bind e [] (.tick <| .ex [.adr] (c1 fun a => 0 ≤ j ∧ j < ((d.len : Nat) : Int) ∧ d.a = some a) (u1 fun a => .read True (ld I.T (Addr.add a (Int.toNat j * I.sz))) (.one I.s) (fun x =>
      .ex [.adr] (c1 fun a => 0 ≤ i ∧ i < ((d.len : Nat) : Int) ∧ d.a = some a) (u1 fun a => .read True (ld I.T (Addr.add a (Int.toNat i * I.sz))) (.one I.s) (fun y =>
      .ex [.adr] (c1 fun a => 0 ≤ i ∧ i < ((d.len : Nat) : Int) ∧ d.a = some a) (u1 fun a => .actU (st I.T (Addr.add a (Int.toNat i * I.sz)) ((Sh.one I.s).mk x)) <|
      .ex [.adr] (c1 fun a => 0 ≤ j ∧ j < ((d.len : Nat) : Int) ∧ d.a = some a) (u1 fun a => .actU (st I.T (Addr.add a (Int.toNat j * I.sz)) ((Sh.one I.s).mk y)) <|
      .untick (.done e [])))))))) k).wp P tt w Q := by
  subst hi hj
  refine wp_mid (fun v w' => Sat w' (I.arr d (swapL xs ni nj) :: l)) ?_ (by rintro _ w' hs; exact h w' hs)
  refine wp_tick fun w2 hw => ?_
  have hs := hs.heap hw
  have hl := ok.len hs
  obtain ⟨a, ha, ea⟩ := hs.rd.el ok.enc (by omega)
  refine wp_ex (a, ()) ⟨by omega, by omega, ha⟩ ?_
  refine wp_read xs[nj] (fun _ => ok.ld _ _ _ (ea nj hjl)) ?_
  refine wp_ex (a, ()) ⟨by omega, by omega, ha⟩ ?_
  refine wp_read xs[ni] (fun _ => ok.ld _ _ _ (ea ni hil)) ?_
  refine wp_ex (a, ()) ⟨by omega, by omega, ha⟩ ?_
  refine wp_stE (enc := I.enc) (i := ni) (y := xs[nj]) ok.enc hs ha hil (fun b o h => by subst h; exact add_mk ..) ok.size (ok.cells _) (ok.one _) fun w' hs => ⟨trivial, ?_⟩
  refine wp_ex (a, ()) ⟨by omega, by omega, ha⟩ ?_
  refine wp_stE (enc := I.enc) (i := nj) (y := xs[ni]) ok.enc hs ha (by simp; omega) (fun b o h => by subst h; exact add_mk ..) ok.size (ok.cells _) (ok.one _) fun w' hs => ⟨trivial, ?_⟩
  refine wp_untick (wp_leave ⟨(), rfl, ?_⟩)
  simpa only [swapL, List.getElem?_eq_getElem hil, List.getElem?_eq_getElem hjl] using hs

end
end Go.Dec
