/- Disks: Names, part 3: its contract. -/
import Derived.Test.YtnfaklmndojeaaaN2
import Derived.Test.YtnfaklmndojeaaaD5
import Derived.Test.YtnfaklmndojeaaaSortStr
namespace Go.Dec
open Go.Proofs Go.Proofs.Ytnfaklmndojeaaa
set_option linter.unusedVariables false
set_option linter.unusedSimpArgs false

/-- The names that begin so, rising. -/
def namesF (p : ByteArray) (fs : List FileA) : List ByteArray := (fs.map (·.name)).filter (preF p)

/-! ### A part of a world -/
def restr (W : World) (X : Nat → Bool) : PH := ⟨fun b => if X b then W.heap[b]? else none, World.env' W⟩
section
variable {w W : World} {l : List HP} {X : Nat → Bool}
theorem satR_old (hs : Sat w l) (hB : RowKit.Below w.heap.size w W) : satL l (restr W fun b => decide (b < w.heap.size)) := by
  refine satL_sub ⟨fun b o h => ?_, ?_⟩ hs
  · have h : w.heap[b]? = some o := h
    have hlt : b < w.heap.size := (Array.getElem?_eq_some_iff.1 h).1
    show (if decide (b < w.heap.size) = true then W.heap[b]? else none) = some o
    rw [if_pos (decide_eq_true hlt), hB.block b hlt, h]
  · show World.env' w = World.env' W
    unfold World.env'
    rw [hB.os, hB.output]
theorem satR_new {b : Nat} {o : Obj} (hs : satL l (restr W X)) (hX : X b = false) (hb : W.heap[b]? = some o) : satL (pt b o :: l) (restr W fun c => X c || decide (c = b)) := by
  refine ⟨⟨fun c => if c = b then some o else none, World.env' W⟩, restr W X, ⟨fun c u h => ?_, rfl⟩, ⟨fun c u h => ?_, rfl⟩, fun c => ?_, by simp [pt], hs⟩
  · simp only at h
    split at h
    · rename_i hc; subst hc
      obtain rfl := Option.some.inj h
      show (if (X c || decide (c = c)) = true then W.heap[c]? else none) = some o
      rw [if_pos (by simp), hb]
    · cases h
  · have h : (if X c = true then W.heap[c]? else none) = some u := h
    split at h
    · rename_i hc
      show (if (X c || decide (c = b)) = true then W.heap[c]? else none) = some u
      rw [if_pos (by rw [hc]; rfl), h]
    · cases h
  · by_cases hc : c = b
    · subst hc; right
      show (if X c = true then W.heap[c]? else none) = none
      rw [if_neg (by rw [hX]; simp)]
    · left; simp [hc]
theorem satR_done (hs : satL l (restr W X)) : Sat W l := by
  refine satL_sub (p := restr W X) ⟨fun b o h => ?_, rfl⟩ hs
  have h : (if X b = true then W.heap[b]? else none) = some o := h
  split at h
  · exact h
  · cases h
end

theorem sorted_unique : ∀ {a b : List ByteArray}, a.Perm b → (a.Pairwise fun x y => ltS y x = false) → (b.Pairwise fun x y => ltS x y = true) → a = b
  | a, [], hp, _, _ => hp.eq_nil
  | [], y :: b, hp, _, _ => absurd hp.symm.eq_nil (by simp)
  | x :: a, y :: b, hp, ha, hb => by
    rw [List.pairwise_cons] at ha hb
    have hxy : x = y := by
      by_cases h : x = y
      · exact h
      · have hx : x ∈ b := (List.mem_cons.1 (hp.mem_iff.1 (List.mem_cons_self ..))).resolve_left h
        have hy : y ∈ a := (List.mem_cons.1 (hp.mem_iff.2 (List.mem_cons_self ..))).resolve_left (fun e => h e.symm)
        have h1 := hb.1 x hx
        rw [ha.1 y hy] at h1; cases h1
    subst hxy
    rw [sorted_unique (List.Perm.cons_inv hp) ha.2 hb.2]

theorem ltE_ok : LtOk ltE where
  asymm {x y} h := ltS_asymm h
  trans {x y z} h1 h2 := by
    have h1 : ltS (ofEs x) (ofEs y) = false := h1
    have h2 : ltS (ofEs y) (ofEs z) = false := h2
    show ltS (ofEs x) (ofEs z) = false
    cases h : ltS (ofEs x) (ofEs z) with
    | false => rfl
    | true =>
      rcases ltS_total (ofEs x) (ofEs y) with h3 | h3 | h3
      · rw [h3] at h1; cases h1
      · rw [← h3, h] at h2; cases h2
      · have := ltS_trans h3 h; rw [this] at h2; cases h2

def bytesOf (x : List UInt8) : ByteArray := ⟨x.toArray⟩
theorem flat_encT (xs : List ByteArray) : xs.flatMap encT = xs.map Value.string := by
  induction xs with
  | nil => rfl
  | cons x r ih => rw [List.flatMap_cons, ih]; rfl

theorem pairwise_names {fs : List FileA} (h : fs.Pairwise fun a b => ltS a.name b.name = true) (p : ByteArray) : (namesF p fs).Pairwise fun x y => ltS x y = true := by
  unfold namesF
  refine List.Pairwise.filter _ ?_
  rw [List.pairwise_map]; exact h

/-- The map's datum, as the kit's contract for its keys wants it. -/
theorem owns_of {w : World} {m : Nat} {es : List (ByteArray × Nat)} {l : List HP} (hs : Sat w (mapP ekS evF m es :: l)) (hlen : es.length ≤ 1000) (hn : ∀ x ∈ es, x.1.size ≤ 24) :
    ∃ D0 : DataW Unit, w.ownsMap Try.prog 9 (fun _ => some (.lit (.bool true), [])) m 1000 D0 ∧ Maps.size D0 ≤ 1000 ∧ ((strKeys D0).map bytesOf).Perm (es.map Prod.fst) := by
  obtain ⟨E, c, hm, hs⟩ := hs.mapOpen
  have hsz := hm.size
  obtain ⟨xs, h1, h2, h3, h4, h5⟩ := hm
  have hE : E.size ≤ 1000 := by omega
  have hml : 1000 ≤ maxLen := by decide
  have hkeys : ∀ e ∈ E.toList, ∃ x ∈ xs, e.key = .string x.1 := fun e he => by
    have : (e.key, e.val) ∈ E.toList.map (fun e => (e.key, e.val)) := List.mem_map.2 ⟨e, he, rfl⟩
    rw [h3] at this
    obtain ⟨x, hx, hxe⟩ := List.mem_map.1 this
    exact ⟨x, hx, (Prod.mk.inj hxe).1.symm⟩
  have hrd : ∀ e ∈ E.toList, ∀ s, e.key = .string s → WideElems.rd (H := Unit) Try.prog 9 (fun _ => some (.lit (.bool true), [])) e = some (.string s.data.toList, .lit (.bool true)) := fun e he s hk => by
    obtain ⟨x, hx, hxe⟩ := hkeys e he
    rw [hk] at hxe
    obtain rfl : s = x.1 := by cases hxe; rfl
    have h24 := hn x (h1.mem_iff.1 hx)
    have : keyOf Try.prog 9 (.string x.1) = some (.string x.1.data.toList) := WideMaps.keyOf_string_mk (by kernel_rfl) (by omega)
    unfold WideElems.rd
    rw [hk, this]; rfl
  refine ⟨.map ((E.toList.map (WideElems.rg Try.prog 9 fun _ => some (.lit (.bool true), []))).foldr DataW.insert []), ⟨E, c, hs.get, ⟨by omega, ⟨h5, ?_, ?_⟩, fun e he => ?_⟩, hE, rfl⟩, ?_, ?_⟩
  · rw [List.Nodup, List.pairwise_map]
    exact h4.imp fun h => Nat.ne_of_lt h
  · have hk : E.toList.map (·.key) = xs.map fun x => Value.string x.1 := by
      have := congrArg (List.map Prod.fst) h3
      rw [List.map_map, List.map_map] at this
      exact this
    rw [hk, List.Nodup, List.pairwise_map]
    rw [List.Nodup, List.pairwise_map] at h2
    exact h2.imp fun h e => h (Value.string.inj e)
  · obtain ⟨x, hx, hxe⟩ := hkeys e he
    exact ⟨_, hrd e he x.1 hxe⟩
  · show ((E.toList.map _).foldr DataW.insert []).length ≤ 1000
    rw [length_sorted, List.length_map, Array.length_toList]; exact hE
  · have hp := (WideShapes.sorted_perm (E.toList.map (WideElems.rg (H := Unit) Try.prog 9 fun _ => some (.lit (.bool true), [])))).map (fun p : Lit × DataW Unit => bytesOf (Go.strOf p.1))
    have e1 : (strKeys (DataW.map ((E.toList.map (WideElems.rg (H := Unit) Try.prog 9 fun _ => some (.lit (.bool true), []))).foldr DataW.insert []))).map bytesOf = ((E.toList.map (WideElems.rg (H := Unit) Try.prog 9 fun _ => some (.lit (.bool true), []))).foldr DataW.insert []).map (fun p : Lit × DataW Unit => bytesOf (Go.strOf p.1)) := by
      simp only [strKeys, List.map_map]; rfl
    rw [e1]
    refine hp.trans ?_
    rw [List.map_map]
    have e2 : E.toList.map ((fun p : Lit × DataW Unit => bytesOf (Go.strOf p.1)) ∘ WideElems.rg Try.prog 9 fun _ => some (.lit (.bool true), [])) = xs.map Prod.fst := by
      have h6 : E.toList.map (fun e => match e.key with | .string s => s | _ => ⟨#[]⟩) = xs.map Prod.fst := by
        have := congrArg (List.map fun x : Value × Value => match x.1 with | .string s => s | _ => ⟨#[]⟩) h3
        rw [List.map_map, List.map_map] at this
        exact this
      rw [← h6]
      refine List.map_congr_left fun e he => ?_
      obtain ⟨x, hx, hxe⟩ := hkeys e he
      show bytesOf (Go.strOf (WideElems.rg (H := Unit) Try.prog 9 (fun _ => some (.lit (.bool true), [])) e).1) = _
      rw [WideElems.rg_of (hrd e he x.1 hxe), hxe]
      show bytesOf x.1.data.toList = x.1
      exact bytes_ext rfl
    rw [e2]
    exact h1.map _

section
variable {w : World} {l r : List HP} {d : Nat} {A : DiskA}

theorem names_c (p : ByteArray) [hf : Fo l dk d A r] (hs : Sat w l) : Ret P F.disk_Disk_Names #[.pointer (some ⟨d, 0, none⟩), .string p] w fun vs w' => ∃ x : Sl, vs = [x.v] ∧ Sat w' (slc T.string 1 x ((namesF p A.fs).flatMap encT) :: dk d A :: r) := by
  have hs0 := hs.perm hf.perm
  obtain ⟨m, FS, hp, hok, hs1⟩ := dk_open hs0
  have hkv : (FS.map fun t => (t.f.name, t.at_)).map Prod.fst = (FS.map FileM.f).map (·.name) := by rw [List.map_map, List.map_map]; rfl
  have hlen : (FS.map fun t => (t.f.name, t.at_)).length ≤ 1000 := by
    have := hp.length_eq; have := hok.many; simp at *; omega
  obtain ⟨D0, hown, hsz, hkeys⟩ := owns_of (hs1.pick [1]) hlen fun x hx => by
    obtain ⟨t, ht, rfl⟩ := List.mem_map.1 hx
    exact hok.names _ (hp.mem_iff.1 (List.mem_map.2 ⟨t, ht, rfl⟩))
  rw [hkv] at hkeys
  have hkeys := hkeys.trans (hp.map (·.name))
  have hb := hs1.get
  have hd : d < w.heap.size := (Array.getElem?_eq_some_iff.1 hb).1
  have hc : w.cell? ⟨d, 4, none⟩ = some (.map (some m)) := by rw [cell_of hb]; rfl
  have hfin := callsIn_wide.1 (names_in (n := 3) (Nat.le_refl _) d m 1000 p w D0 hown hd hc hsz (fun v W => ∃ x : Sl, v = x.v ∧ Sat W (slc T.string 1 x ((namesF p A.fs).flatMap encT) :: dk d A :: r)) ?_)
  · exact Calls.mono hfin fun e w' ⟨v, he, x, hv, hs⟩ => ⟨[x.v], by rw [he, hv]; rfl, x, rfl, hs⟩
  intro D ss v W hD hS hbox hrow hB hK
  have hsR := satR_old hs0 hB
  have hsR := satR_new hsR (b := w.heap.size + 1) (by simp) hbox
  have hDB : D ≠ w.heap.size + 1 := by omega
  have hsR := satR_new hsR (b := D) (by simp; omega) hK
  have hpS : ((posF p ss).map bytesOf).Perm (namesF p A.fs) := by
    have h1 := ((hS.map bytesOf).trans hkeys).filter (preF p)
    rw [List.filter_map] at h1
    exact h1
  have hflat : ((posF p ss).map bytesOf).flatMap encT = (posF p ss).map encStr := by
    rw [flat_encT, List.map_map]; rfl
  have hlen2 : ((posF p ss).map bytesOf).length < 576460752303423488 := by
    rw [hpS.length_eq]
    have h1 : (namesF p A.fs).length ≤ A.fs.length := by unfold namesF; exact Nat.le_trans (List.length_filter_le _ _) (by simp)
    have := hok.many
    omega
  obtain ⟨x, rfl, hsx⟩ : ∃ x : Sl, v = x.v ∧ Sat W (slc T.string 1 x (((posF p ss).map bytesOf).flatMap encT) :: pt D (.deferred (some [])) :: pt (w.heap.size + 1) (.cells #[v] 35) :: dk d A :: r) := by
    rw [hflat]
    obtain ⟨hxl, h | ⟨g, cap, cur, rfl, hg, hgb, hcap, -, hcur, htk⟩⟩ := hrow
    · obtain ⟨rfl, hn0⟩ := h
      have : posF p ss = [] := List.length_eq_zero_iff.1 hn0
      rw [this]
      exact ⟨⟨none, 0, 0⟩, rfl, (satR_done hsR).slc_nil⟩
    · have hgB : g ≠ w.heap.size + 1 := fun e => by
        subst e
        have hbox : W.heap[w.heap.size + 1]? = some (.cells #[_] 35 (0, 0)) := hbox
        rw [hbox] at hgb
        cases hgb
      have hgD : g ≠ D := fun e => by subst e; rw [hK] at hgb; cases hgb
      have hsR := satR_done (satR_new hsR (b := g) (by simp; omega) hgb)
      refine ⟨⟨some ⟨g, 0, none⟩, (posF p ss).length, cap⟩, rfl, hsR.imp fun q hq => .inr ⟨g, 0, cur, (0, 0), rfl, hq, by simp, hcap, by simp [hcur], fun i hi => ?_, unfrozen_zero _ _⟩⟩
      rw [← htk, List.length_take] at hi
      rw [← htk, Nat.zero_add, List.getElem?_take, if_pos (by omega)]
      simp
  refine callsIn_wide.2 (Calls.mono (sort_string_c x _ ltE_ok hlen2 hsx) ?_)
  rintro e w' ⟨vs, rfl, rfl, ys, hys, hso, hs'⟩
  have hB1 := (hs'.pick [2]).get
  have hD1 := (hs'.pick [1]).get
  refine ⟨rfl, by rw [cell_of hB1]; rfl, hD1, x, rfl, ?_⟩
  have hset : Sat (setB w' D (.deferred none)) _ := (hs'.pick [1]).set (o' := .deferred none)
  rw [sorted_unique (hys.trans hpS) hso (pairwise_names hok.sorted p)] at hset
  exact hset.sub

end
end Go.Dec
