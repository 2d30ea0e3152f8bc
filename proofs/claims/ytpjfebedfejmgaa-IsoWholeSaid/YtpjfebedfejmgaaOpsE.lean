/- Ops, part E: stores into slices that own their array. -/
import Derived.Test.YtpjfebedfejmgaaOpsD
namespace Go.Dec
set_option linter.unusedVariables false
set_option linter.unusedSimpArgs false

section
variable {P : Program} {w : World} {l r : List HP} {Q : Post} {S : World → Prop} {T T' : TypeId} {sz : Nat} {x : Sl} {cs : List Value} {a A : Addr} {q : Nat}

theorem run_stS {v : Value} {vs : List Value} (hs : Sat w (slc T sz x cs :: l)) (hx : x.a = some a) (hA : ∀ b o, a = ⟨b, o, none⟩ → A = ⟨b, o + q, none⟩) (hn : sizeOf? P T' = some vs.length) (hv : v.cells.toList = vs)
    (hone : ∀ u ∈ vs, u.oneCell' = true) (hq : q + vs.length ≤ cs.length) :
    ∃ w', (st T' A v).run P w = .ok () w' ∧ Sat w' (slc T sz x (cs.take q ++ vs ++ cs.drop (q + vs.length)) :: l) := by
  obtain ⟨p1, p2, h1, h2, hd, hH, hl⟩ := hs
  rcases hH with ⟨ha, -⟩ | ⟨b, off, arr, fr, ha, hb, hlen, hle, hsz, hcs, hf⟩
  · rw [ha] at hx; cases hx
  · rw [ha] at hx
    obtain rfl := Option.some.inj hx
    obtain rfl := hA b off rfl
    have hbw : w.heap[b]? = some (.cells arr T fr) := h1 b _ hb
    have hcl : cs.length ≤ x.cap * sz := by rw [hlen]; exact Nat.mul_le_mul_right _ hle
    have hvs : v.cells.size = vs.length := by rw [← hv]; simp
    have hrun := run_st (P := P) (off := off + q) hn hbw (by omega) hvs (by rw [hv]; exact hone) (fun i hi1 hi2 => hf i (by omega) (by omega))
    rw [hv] at hrun
    refine ⟨_, hrun, ?_⟩
    have hset : Sat w (pt b (.cells arr T fr) :: l) := ⟨p1, p2, h1, h2, hd, hb, hl⟩
    refine hset.set.imp fun p hp => .inr ⟨b, off, _, fr, ha, hp, ?_, hle, ?_, fun i hi => ?_, hf⟩
    · simp only [List.length_append, List.length_take, List.length_drop]; omega
    · rw [size_putCells]; exact hsz
    · simp only [List.length_append, List.length_take, List.length_drop] at hi
      rw [getElem?_putCells vs (by omega)]
      by_cases h1 : i < q
      · rw [if_neg (by omega), hcs i (by omega), List.append_assoc, List.getElem?_append_left (by rw [List.length_take]; omega), List.getElem?_take, if_pos h1]
      · by_cases h2 : i < q + vs.length
        · rw [if_pos (by omega), List.append_assoc, List.getElem?_append_right (by rw [List.length_take]; omega), List.length_take, List.getElem?_append_left (by omega)]
          congr 1; omega
        · rw [if_neg (by omega), hcs i (by omega), List.getElem?_append_right (by rw [List.length_append, List.length_take]; omega), List.getElem?_drop, List.length_append, List.length_take]
          congr 1; omega

/-- A store of a struct or of one cell into a slice. -/
theorem wp_stS {v : Value} {vs : List Value} {k : Prog} (hs : Sat w l) [hf : FocS l x T sz cs r] (hx : x.a = some a) (hA : ∀ b o, a = ⟨b, o, none⟩ → A = ⟨b, o + q, none⟩) (hn : sizeOf? P T' = some vs.length) (hv : v.cells.toList = vs)
    (hone : ∀ u ∈ vs, u.oneCell' = true) (hq : q + vs.length ≤ cs.length) (h : ∀ w', Sat w' (slc T sz x (cs.take q ++ vs ++ cs.drop (q + vs.length)) :: r) → S w' ∧ k.wp P S w' Q) :
    (Prog.actU (st T' A v) k).wp P S w Q := by
  obtain ⟨w', hrun, hs'⟩ := run_stS (P := P) (hs.focS x) hx hA hn hv hone hq
  have h' := h w' hs'
  exact ⟨w', hrun, h'.1, h'.2⟩

theorem wp_lw {k' : IntKind} {x y : Int} {k : Int → Prog} (hxy : x = y) (h : (k y).wp P S w Q) : (Prog.lt (.int k') x k).wp P S w Q := by subst hxy; exact h

theorem wp_dn {e : Nat} {us us' : List Value} (hv : us = us') (h : (Prog.done e us').wp P S w Q) : (Prog.done e us).wp P S w Q := by rw [hv]; exact h

theorem flat_set {α : Type} {enc : α → List Value} (henc : ∀ x, (enc x).length = sz) (y : α) : ∀ (xs : List α) (i : Nat), i < xs.length →
    (xs.flatMap enc).take (i * sz) ++ enc y ++ (xs.flatMap enc).drop (i * sz + sz) = (xs.set i y).flatMap enc
  | x :: r, 0, hi => by simp [List.drop_left' (henc x)]
  | x :: r, i + 1, hi => by
    have ih := flat_set henc y r i (by simpa using hi)
    simp only [List.flatMap_cons, List.set_cons_succ]
    rw [← ih, show (i + 1) * sz = sz + i * sz by rw [Nat.add_mul, Nat.one_mul, Nat.add_comm], List.take_append, List.take_of_length_le (by rw [henc]; omega), henc, Nat.add_sub_cancel_left,
      show sz + i * sz + sz = sz + (i * sz + sz) by omega, List.drop_append, List.drop_eq_nil_of_le (by rw [henc]; omega), henc, Nat.add_sub_cancel_left, List.nil_append]
    simp only [List.append_assoc]

/-- A store of an element. -/
theorem wp_stE {α : Type} {enc : α → List Value} {xs : List α} {i : Nat} {y : α} {v : Value} {k : Prog} (henc : ∀ x, (enc x).length = sz) (hs : Sat w l) [hf : FocS l x T sz (xs.flatMap enc) r] (hx : x.a = some a) (hi : i < xs.length)
    (hA : ∀ b o, a = ⟨b, o, none⟩ → A = ⟨b, o + i * sz, none⟩) (hn : sizeOf? P T' = some sz) (hv : v.cells.toList = enc y) (hone : ∀ u ∈ enc y, u.oneCell' = true)
    (h : ∀ w', Sat w' (slc T sz x ((xs.set i y).flatMap enc) :: r) → S w' ∧ k.wp P S w' Q) : (Prog.actU (st T' A v) k).wp P S w Q := by
  refine wp_stS (q := i * sz) (vs := enc y) hs hx hA (by rw [henc]; exact hn) hv hone ?_ ?_
  · rw [henc, flat_length henc]
    calc i * sz + sz = (i + 1) * sz := by rw [Nat.add_mul, Nat.one_mul]
      _ ≤ xs.length * sz := Nat.mul_le_mul_right _ hi
  · intro w' hs'
    rw [henc, flat_set henc y xs i hi] at hs'
    exact h w' hs'

theorem foldl_put : ∀ (vs : List Value) (k : Nat) (arr : Array Value), (vs.zipIdx k).foldl (fun cs (c, j) => cs.setIfInBounds j c) arr = putCells arr k vs
  | [], _, _ => rfl
  | v :: r, k, arr => by rw [List.zipIdx_cons, List.foldl_cons, putCells]; exact foldl_put r (k + 1) _

theorem putCells_all {arr vs : Array Value} (h : arr.size = vs.size) : putCells arr 0 vs.toList = vs := by
  apply Array.ext_getElem?
  intro i
  rw [getElem?_putCells _ (by simp [h])]
  split
  · simp
  · rename_i h'
    rw [Array.getElem?_eq_none (by simp at h'; omega), Array.getElem?_eq_none (by simp at h'; omega)]

theorem bs1 {t : TypeId} {bytes : Nat} {v : Value} {arr : Array Value} [ht : SlT P t T sz bytes] (hv : v.cells = arr) (h0 : Nat.beq sz 0 = false) (h1 : Nat.ble sz 16777216 = true) (hsz : arr.size = sz := by rfl) : bsCells P t 1 #[(0, v)] = some (T, arr) := by
  obtain ⟨i, z, hi, h2, h3, h4, h5⟩ := ht.parts
  have h0 := Nat.ne_of_beq_eq_false h0
  have h1 := Nat.le_of_ble_eq_true h1
  subst h2
  unfold bsCells
  simp only [ht.ok.1, hi, Nat.one_mul]
  rw [if_neg (by omega), if_neg h0, h4]
  have : ∀ a : Array Value, a.size = i.size → Instr.fill (fun j => some (j * i.size, i.size)) a [(0, v)] = some arr := fun a ha => by
    simp only [Instr.fill]
    rw [hv, if_neg (by simp [hsz, ha])]
    congr 1
    simp only [Nat.zero_mul, Nat.zero_add, ← Array.foldl_toList]
    rw [Array.toList_zipIdx, foldl_put arr.toList 0 a, putCells_all (by rw [ha, hsz])]
  rw [Option.map_some]
  dsimp only
  rw [this _ (by simp)]

/-- 'append(x, y)', by elements. -/
theorem wp_apE {α : Type} {enc : α → List Value} {xs : List α} {y : α} {t ty : TypeId} {bytes : Nat} {ps : Array (Nat × Value)} {arr : Array Value} {k : Sl × Unit → Prog} [ht : SlT P t T sz bytes] (henc : ∀ x, (enc x).length = sz) (hsz : 0 < sz) (hs : Sat w l)
    [hf : FocS l x T sz (xs.flatMap enc) r] (hps : bsCells P t 1 ps = some (T, arr)) (harr : arr.toList = enc y) (h1 : ∀ u ∈ enc y, u.oneCell' = true) (hb : (xs.length + 1) * bytes ≤ 140737488355328) (h63 : xs.length + 1 ≤ 9223372036854775807)
    (h : ∀ z w', Sat w' (slc T sz z ((xs ++ [y]).flatMap enc) :: r) → S w' ∧ (k (z, ())).wp P S w' Q) (hS : ∀ w', Sat w' l → S w') :
    (Prog.act (Instr.buildSlice t 1 ps) sL (u1 fun y => .act (app t t ty x.v y.v) sL k)).wp P S w Q := by
  have hl : x.len = xs.length := (hs.focS x).rd.len henc hsz
  refine wp_ap1 hs hps (by rw [← Array.length_toList, harr, henc]) (by rw [harr]; exact h1) (by rw [hl]; exact hb) (by rw [hl]; exact h63) (fun z w' _ hs' => h z w' ?_) hS
  rw [harr] at hs'
  simpa using hs'

end
end Go.Dec
