/- Ops, part R: ranges over maps. -/
import Derived.Maps.RangeRun
import Derived.Test.YtpjfebedfejmgaaOpsM
namespace Go.Dec
open Go.ChangeMaps (setBlock)
set_option linter.unusedVariables false
set_option linter.unusedSimpArgs false

section
variable {K V : Type}

/-- What a range over a map still has to come to. -/
structure ItOk (ek : K → Value) (ev : V → Value) (E : Array MapEntry) (c since c0 : Nat) (seen : Array Nat) (es todo : List (K × V)) (last : Option (K × V)) : Prop where
  ok : MOk ek ev E c es
  old : ∀ x ∈ E.toList, x.born < since
  look : since ≤ c0
  clk : since ≤ c
  lst : ∀ kv, last = some kv → c0 = c ∧ ∃ e ∈ E.toList, ∃ s' : Array Nat, seen = s'.push e.born ∧ e.key = ek kv.1 ∧ e.val = ev kv.2
  todo : ∃ ys : List (K × V), ys.Perm todo ∧ (leftOf E seen).toList.map (fun e => (e.key, e.val)) = ys.map (fun x => (ek x.1, ev x.2))

structure ItS where
  E : Array MapEntry
  c : Nat
  since : Nat
  c0 : Nat
  seen : Array Nat
/-- A map that is ranged over, and the range. -/
def itP (ek : K → Value) (ev : V → Value) (it m : Nat) (es todo : List (K × V)) (last : Option (K × V)) : HP := HP.ex fun M : ItS => HP.and (ItOk ek ev M.E M.c M.since M.c0 M.seen es todo last) (HP.star (pt it (.mapIter (some m) M.since M.seen M.c0)) (pt m (.map M.E M.c)))

class FoI (l : List HP) (it : Nat) {K V : outParam Type} (ek : outParam (K → Value)) (ev : outParam (V → Value)) (m : outParam Nat) (es todo : outParam (List (K × V))) (last : outParam (Option (K × V))) (r : outParam (List HP)) : Prop where
  perm : l.Perm (itP ek ev it m es todo last :: r)
instance FoI.head {K V : Type} {l : List HP} {it m : Nat} {ek : K → Value} {ev : V → Value} {es todo : List (K × V)} {last : Option (K × V)} : FoI (itP ek ev it m es todo last :: l) it ek ev m es todo last l := ⟨.refl _⟩
instance (priority := low) FoI.tail {K V : Type} {x : HP} {l r : List HP} {it m : Nat} {ek : K → Value} {ev : V → Value} {es todo : List (K × V)} {last : Option (K × V)} [h : FoI l it ek ev m es todo last r] : FoI (x :: l) it ek ev m es todo last (x :: r) :=
  ⟨(List.Perm.cons x h.perm).trans (.swap _ _ _)⟩

variable {ek : K → Value} {ev : V → Value} {m it : Nat} {es es' todo : List (K × V)} {last : Option (K × V)} {P : Program} {w : World} {l r : List HP} {Q : Post} {S : World → Prop} {T kt ty : TypeId} {z : Value} {g : Prop}

theorem Sat.itOpen (h : Sat w (itP ek ev it m es todo last :: l)) : ∃ E c since c0 seen, ItOk ek ev E c since c0 seen es todo last ∧ Sat w (pt it (.mapIter (some m) since seen c0) :: pt m (.map E c) :: l) := by
  obtain ⟨⟨E, c, since, c0, seen⟩, h⟩ := h.ex
  obtain ⟨hok, h⟩ := h.and
  exact ⟨E, c, since, c0, seen, hok, h.star⟩
theorem Sat.itShut {E : Array MapEntry} {c since c0 : Nat} {seen : Array Nat} (hm : ItOk ek ev E c since c0 seen es todo last) (h : Sat w (pt it (.mapIter (some m) since seen c0) :: pt m (.map E c) :: l)) : Sat w (itP ek ev it m es todo last :: l) :=
  .ex_mk ⟨E, c, since, c0, seen⟩ (.and_mk hm (.star_mk h))
/-- The map, the range done. -/
theorem Sat.itDone (h : Sat w (itP ek ev it m es todo last :: l)) : Sat w (mapP ek ev m es :: l) := by
  obtain ⟨E, c, since, c0, seen, hok, h⟩ := h.itOpen
  exact Sat.mapShut hok.ok h.tail

theorem leftOf_nil (E : Array MapEntry) : leftOf E #[] = E := by
  unfold leftOf
  exact Array.filter_eq_self.2 fun x hx => by simp

theorem wp_mrange {k : Addr → Prog} (hs : Sat w l) [ht : MapT P T kt z] [hf : FoM l m ek ev es r] (h : ∀ it w', Sat w' (itP ek ev it m es es none :: r) → (k ⟨it, 0, none⟩).wp P S w' Q) (hS : ∀ w', S w' := by exact fun _ => trivial) :
    (Prog.act (Instr.range T (.map (some m))) sA (u1 k)).wp P S w Q := by
  obtain ⟨et, hu, -⟩ := ht.ok
  obtain ⟨E, c, hok, hs⟩ := (hs.perm hf.perm).mapOpen
  have hp := hs.push (o := .mapIter (some m) c #[] c) (w' := w.alloc (.mapIter (some m) c #[] c)) rfl
  refine ⟨(⟨w.heap.size, 0, none⟩, ()), _, run_range_map w T kt et m E c hu hs.get, hS _, h _ _ ?_⟩
  refine Sat.itShut ⟨hok, ?_, Nat.le_refl _, Nat.le_refl _, (fun kv h => by cases h), ?_⟩ hp
  · obtain ⟨xs, -, -, -, -, h5⟩ := hok
    exact h5
  · obtain ⟨xs, h1, -, h3, -⟩ := hok
    exact ⟨xs, h1, by rw [leftOf_nil]; exact h3⟩

theorem left_push {E : Array MapEntry} {seen : Array Nat} {e : MapEntry} (hp : E.toList.Pairwise fun a b => a.born < b.born) (he : e ∈ (leftOf E seen).toList) :
    ((leftOf E seen).toList).Perm (e :: (leftOf E (seen.push e.born)).toList) := by
  unfold leftOf at he ⊢
  rw [Array.toList_filter] at he ⊢
  rw [Array.toList_filter]
  generalize E.toList = L at *
  induction L with
  | nil => cases he
  | cons x L ih =>
    rw [List.pairwise_cons] at hp
    rw [List.filter_cons, List.filter_cons]
    by_cases hx : x = e
    · subst hx
      have hrest : L.filter (fun y => !(seen.push x.born).contains y.born) = L.filter (fun y => !seen.contains y.born) := List.filter_congr fun y hy => by
        have := hp.1 y hy
        simp only [Array.contains_push]
        have : (y.born == x.born) = false := by rw [beq_eq_false_iff_ne]; omega
        simp [this]
      have hin : (!seen.contains x.born) = true := (List.mem_filter.1 he).2
      have hout : (!(seen.push x.born).contains x.born) = false := by simp
      rw [if_pos hin, if_neg (by rw [hout]; simp), hrest]
    · have heL : e ∈ L := by
        rcases List.mem_cons.1 (List.mem_filter.1 he).1 with h | h
        · exact absurd h.symm hx
        · exact h
      have hb : x.born ≠ e.born := by have := hp.1 e heL; omega
      have ih := ih hp.2 (List.mem_filter.2 ⟨heL, (List.mem_filter.1 he).2⟩)
      have hsame : (!(seen.push e.born).contains x.born) = !seen.contains x.born := by
        simp only [Array.contains_push]
        have : (x.born == e.born) = false := by rw [beq_eq_false_iff_ne]; exact hb
        simp [this]
      rw [hsame]
      split
      · exact (List.Perm.cons x ih).trans (.swap _ _ _)
      · exact ih

theorem wp_mnext {ss : List Sh1} {k1 : HL (prims ss) → Prog} {k0 : Prog} (hs : Sat w l) [hf : FoI l it ek ev m es todo last r] (dx : K → V → HL (prims ss))
    (h1 : ∀ k v todo' w', todo.Perm ((k, v) :: todo') → Sat w' (itP ek ev it m es todo' (some (k, v)) :: r) → (k1 (dx k v)).wp P tt w' Q) (h0 : todo = [] → k0.wp P tt w Q) (hx : ∀ k v, valsOf ss (dx k v) = [ek k, ev v] := by intros; rfl) :
    (Prog.next (Instr.next (.pointer (some ⟨it, 0, none⟩)) false ty) ss k1 k0).wp P tt w Q := by
  obtain ⟨E, c, since, c0, seen, hok, hs⟩ := (hs.perm hf.perm).itOpen
  have hit := hs.get
  have hm := hs.tail.get
  obtain ⟨hmok, hold, hlook, hclk, -, ys, hys, hleft⟩ := hok
  rcases run_next_at (P := P) w ty it m since c0 seen E c hit hm hold hlook with ⟨h, hrun⟩ | ⟨e, he, w1, hw1, hrun⟩
  · refine .inr ⟨w, hrun, trivial, h0 ?_⟩
    have h2 : ys.length = 0 := by
      have := congrArg List.length hleft
      rw [List.length_map, List.length_map, Array.length_toList, h] at this
      exact this.symm
    exact (hys.symm.trans (by rw [List.length_eq_zero_iff.1 h2])).eq_nil
  · obtain ⟨xs, hxs, hnd, hkv, hborn, hlt⟩ := hmok
    have hpush := left_push hborn he
    have hmem : (e.key, e.val) ∈ (leftOf E seen).toList.map fun e => (e.key, e.val) := List.mem_map.2 ⟨e, he, rfl⟩
    have hmap := hpush.map fun e => (e.key, e.val)
    rw [hleft, List.map_cons] at hmap
    obtain ⟨ys', hys', hmap'⟩ : ∃ ys' : List (K × V), ∃ kv : K × V, ys.Perm (kv :: ys') ∧ (e.key, e.val) = (ek kv.1, ev kv.2) ∧ (leftOf E (seen.push e.born)).toList.map (fun e => (e.key, e.val)) = ys'.map fun x => (ek x.1, ev x.2) := by
      rw [hleft] at hmem
      -- where it stands
      obtain ⟨a, b, hab⟩ := List.append_of_mem he
      have h3 : leftOf E seen = ⟨a ++ e :: b⟩ := by
        apply Array.toList_inj.1
        exact hab
      have h4 : (leftOf E (seen.push e.born)).toList = a ++ b := by
        have h5 : (leftOf E (seen.push e.born)).toList = (leftOf E seen).toList.filter fun y => !(y.born == e.born) := by
          unfold leftOf
          rw [Array.toList_filter, Array.toList_filter, List.filter_filter]
          refine List.filter_congr fun y _ => ?_
          simp only [Array.contains_push]
          cases seen.contains y.born <;> cases (y.born == e.born) <;> rfl
        rw [h5, hab, List.filter_append, List.filter_cons_of_neg (by simp)]
        have hpw : (a ++ e :: b).Pairwise fun a b => a.born < b.born := by
          rw [← hab]
          unfold leftOf
          rw [Array.toList_filter]
          exact hborn.filter _
        rw [List.pairwise_append, List.pairwise_cons] at hpw
        congr 1
        · exact List.filter_eq_self.2 fun y hy => by
            have := hpw.2.2 y hy e (List.mem_cons_self ..)
            have : (y.born == e.born) = false := by rw [beq_eq_false_iff_ne]; omega
            rw [this]; rfl
        · exact List.filter_eq_self.2 fun y hy => by
            have := hpw.2.1.1 y hy
            have : (y.born == e.born) = false := by rw [beq_eq_false_iff_ne]; omega
            rw [this]; rfl
      rw [hab, List.map_append, List.map_cons] at hleft
      -- ys is parted alike
      have hl : a.length < ys.length := by
        have := congrArg List.length hleft
        simp at this; omega
      have e1 := List.take_append_drop a.length ys
      have e2 : ys.drop a.length = ys[a.length] :: ys.drop (a.length + 1) := List.drop_eq_getElem_cons hl
      have h6 : (a.map fun e => (e.key, e.val)) ++ ((e.key, e.val) :: b.map fun e => (e.key, e.val)) = (ys.take a.length).map (fun x => (ek x.1, ev x.2)) ++ ((ek ys[a.length].1, ev ys[a.length].2) :: (ys.drop (a.length + 1)).map fun x => (ek x.1, ev x.2)) := by
        rw [hleft]
        conv => lhs; rw [← e1, e2]
        rw [List.map_append, List.map_cons]
      have h7 := List.append_inj h6 (by simp; omega)
      rw [List.cons.injEq] at h7
      refine ⟨ys.take a.length ++ ys.drop (a.length + 1), ys[a.length], ?_, h7.2.1, ?_⟩
      · conv => lhs; rw [← e1, e2]
        exact List.perm_middle
      · rw [h4, List.map_append, List.map_append, h7.1, h7.2.2]
    obtain ⟨hp, hkve, hl'⟩ := hmap'
    simp only [Prod.mk.injEq] at hkve
    refine .inl ⟨dx hys'.1 hys'.2, setBlock w1 it (.mapIter (some m) since (seen.push e.born) c), ?_, trivial, h1 hys'.1 hys'.2 ys' _ (hys.symm.trans hp) ?_⟩
    · rw [hrun, hkve.1, hkve.2]
      congr 2
      rw [hx]
    · have hs1 : Sat w1 (pt it (.mapIter (some m) since seen c0) :: pt m (.map E c) :: r) := by
        rcases hw1 with rfl | rfl
        · exact hs
        · exact hs.heap ⟨rfl, rfl, rfl⟩
      have hs2 := hs1.set (o' := .mapIter (some m) since (seen.push e.born) c)
      have heE : e ∈ E.toList := by
        unfold leftOf at he
        rw [Array.toList_filter] at he
        exact (List.mem_filter.1 he).1
      exact Sat.itShut ⟨⟨xs, hxs, hnd, hkv, hborn, hlt⟩, hold, hclk, hclk, (fun kv h => ⟨rfl, e, heE, seen, rfl, by obtain rfl := Option.some.inj h; exact hkve⟩), ys', .refl _, hl'⟩ hs2

theorem wp_ment {ss : List Sh1} {k : HL (prims ss) → Prog} {kk : K} {v : V} {p : Prog} (hs : Sat w l) [hf : FoI l it ek ev m es todo (some (kk, v)) r] (x : HL (prims ss)) [hA : App k x p] (h : p.wp P S w Q) (hx : valsOf ss x = [ek kk, ev v] := by rfl) (hS : ∀ w', S w' := by exact fun _ => trivial) :
    (Prog.act (Instr.entry (.pointer (some ⟨it, 0, none⟩))) (.tup ss) k).wp P S w Q := by
  obtain ⟨E, c, since, c0, seen, hok, hs⟩ := (hs.perm hf.perm).itOpen
  have hit := hs.get
  have hm := hs.tail.get
  obtain ⟨hmok, hold, hlook, hclk, hlst, -⟩ := hok
  obtain ⟨rfl, e, he, s', rfl, h1, h2⟩ := hlst _ rfl
  obtain ⟨xs, -, -, -, hborn, -⟩ := hmok
  have hnd : (E.toList.map (·.born)).Nodup := by
    rw [List.Nodup, List.pairwise_map]
    exact hborn.imp fun {a b} h => by omega
  have hrun := run_entry_at (P := P) w it m since s' E c0 e hit hm he hnd
  refine ⟨x, w, ?_, hS _, by rw [hA.ok]; exact h⟩
  rw [hrun, h1, h2]
  show Result.ok (Value.tuple #[ek kk, ev v]) w = Result.ok (Value.tuple (valsOf ss x).toArray) w
  rw [hx]

end
end Go.Dec
