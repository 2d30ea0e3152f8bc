/- What the rows' frames ask of a world behind a walk. What stands where nothing old was changed is read as before. Parameters, opened for rows' frames. Parameters that are slices of structs, opened for rows' frames. Slices of structs of whatever fields, opened for rows' frames. -/
import Derived.RowKit3
import Derived.Test.YtpjfebedfejmgaaGreatOpsZ
import Derived.ChangeSlices
import Derived.ChangeMaps5
import Derived.ChangeSame
import Derived.Deep.Slices
import Derived.Deep.Fields
namespace Go.Dec
set_option linter.unusedVariables false

theorem kept_of {W w' : World} {l : List HP} (hs : Sat w' (whole W :: l)) (may : MemPlace → Prop) : W.keptBut w' may := by
  obtain ⟨h, ho, hu, hz⟩ := hs.of_whole
  refine ⟨ho, hu, fun i hi => ?_⟩
  have hg : W.heap[i]? = some W.heap[i] := by simp [hi]
  have hg' := h i _ hg
  rw [hg, hg']
  cases W.heap[i] with
  | cells c t fr => exact ⟨rfl, rfl, rfl, fun _ _ => rfl⟩
  | map es c => exact .inr ⟨rfl, rfl⟩
  | _ => rfl

section
open Go.ChangeShapes
variable {H : Type} {enc : TypeId × Value → H} {P : Program}
/-- What a row's frame asks where nothing old was changed: a result told, the arguments as they were. -/
theorem post_keep {f : Func} {s : ChangeSpec} {apart fresh handsOn again : Bool} {W W' : World} {args : Array Value} {v : Value} {ds gs : List (DataW H)} {before pa pv : List MemPlace} {l : List HP}
    (hW : DataW.Whole enc P f.params.toList s.vars apart W args.toList ds gs before) (hs : Sat W' (whole W :: l))
    (hres : ∀ (b : Nat) (sp : Nat → Bool) (hd : Bool), DataW.TrodAll enc P W' b sp hd f.resultTypes.toList (v.resultList f.resultTypes.size) (s.fn H (ds ++ gs)).results [])
    (hargs : ∀ sp : Nat → Bool, (∀ p ∈ before, sp p.block = true) → DataW.TrodAll enc P W' 0 sp true f.params.toList args.toList (s.fn H (ds ++ gs)).args pa)
    (hvars : ∀ sp : Nat → Bool, (∀ p ∈ before, sp p.block = true) → DataW.TrodVars enc P W' sp s.vars (s.fn H (ds ++ gs)).vars pv)
    (hps : before = pa ++ pv)
    (hok : ∀ (j : Nat) (t : TypeId) (r : Value), f.resultTypes[j]? = some t → (v.resultList f.resultTypes.size)[j]? = some r → Value.okWide P W' .any 0 t r) :
    s.post enc P f apart fresh handsOn again W args v W' := by
  have hlt := hW.lt
  have hz := hs.of_whole.2.2.2
  have hkeep := kept_of hs
  refine ⟨ds, gs, before, [], pa, pv, hW, hres _ _ _, hargs _ fun p hp => decide_eq_true (hlt p hp), hvars _ fun p hp => decide_eq_true (hlt p hp), World.keptBut_mono (fun p hp => ⟨hp, .inr (by rw [hps] at hp; exact List.mem_append.1 hp)⟩) (hkeep (· ∈ before)), fun _ => ?_⟩
  obtain ⟨_, _, _, _, _, hfz, hnd⟩ := hW
  refine ⟨hok, _, _, ([] ++ pa) ++ pv, ⟨[] ++ pa, pv, trodAll_append (hargs _ fun _ _ => rfl) (hres _ _ _), hvars _ fun _ _ => rfl, rfl, fun b off hp => ?_, fun ha => ?_⟩, fun p hp _ => ?_⟩
  · have hmem : MemPlace.cell b off ∈ before := by rw [hps]; simpa using hp
    rw [hz _ (hlt _ hmem)]
    exact hfz b off hmem
  · have := hnd ha
    rw [hps] at this
    simpa using this
  · rw [hps]; simpa using hp
end

theorem wf64 {n : Int} (h : (Lit.int .i64 n).wf = true) : -9223372036854775808 ≤ n ∧ n < 9223372036854775808 := by
  have h : IntKind.min .i64 ≤ n ∧ n ≤ IntKind.max .i64 := by simpa only [Lit.wf, Bool.and_eq_true, decide_eq_true_eq] using h
  have h1 : IntKind.min .i64 = -9223372036854775808 := by decide
  have h2 : IntKind.max .i64 = 9223372036854775807 := by decide
  omega

end Go.Dec

namespace Go.Dec
set_option linter.unusedVariables false
set_option linter.unusedSimpArgs false

theorem mapM_keep {α β : Type} {f g : α → Option β} : ∀ {l : List α} {ys : List β}, l.mapM f = some ys → (∀ a y, a ∈ l → y ∈ ys → f a = some y → g a = some y) → l.mapM g = some ys
  | [], ys, h, _ => by simpa using h
  | a :: r, ys, h, hk => by
    rw [List.mapM_cons] at h ⊢
    cases ha : f a with
    | none => rw [ha] at h; cases h
    | some y =>
      rw [ha] at h
      cases hr : r.mapM f with
      | none => rw [hr] at h; cases h
      | some zs =>
        rw [hr] at h
        obtain rfl : y :: zs = ys := by simpa using h
        rw [hk a y (List.mem_cons_self ..) (List.mem_cons_self ..) ha, mapM_keep hr fun b z hb hz hf => hk b z (List.mem_cons_of_mem _ hb) (List.mem_cons_of_mem _ hz) hf]
        rfl

section
variable {H : Type} {enc : TypeId × Value → H} {P : Program} {W W' : World} {base : Nat} {sp : Nat → Bool} {L : List TypeId}

theorem cell_keep (hb : ∀ (b : Nat) (o : Obj), W.heap[b]? = some o → W'.heap[b]? = some o) {a : Addr} {v : Value} (h : W.cell? a = some v) : W'.cell? a = some v := by
  unfold World.cell? at h ⊢
  cases ho : W.heap[a.block]? with
  | none => rw [ho] at h; cases h
  | some o => rw [ho] at h; rw [hb _ _ ho]; exact h

theorem cells_keep (hb : ∀ (b : Nat) (o : Obj), W.heap[b]? = some o → W'.heap[b]? = some o) {a : Addr} {n : Nat} {cs : List Value} (h : W.cells? base a n = some cs) : W'.cells? base a n = some cs := by
  unfold World.cells? at h ⊢
  split at h
  · rename_i hc
    rw [if_pos hc]
    exact mapM_keep h fun i v _ _ hv => cell_keep hb hv
  · cases h

/-- A list of types with all that their values are made of; slices' elements have cells. -/
def celledB (P : Program) (L : List TypeId) : Bool := L.all fun t => match P.underlying t with
  | some (.pointer e) => L.any (Nat.beq e)
  | some (.slice e) => L.any (Nat.beq e) && Nat.blt 0 (P.cellsOf e)
  | some (.array _ e) => L.any (Nat.beq e)
  | some (.struct fs) => fs.toList.all fun f => L.any (Nat.beq f.type)
  | some (.map _ e) => L.any (Nat.beq e)
  | _ => true

theorem memB {L : List TypeId} {e : TypeId} (h : L.any (Nat.beq e) = true) : e ∈ L := by
  obtain ⟨x, hx, he⟩ := List.any_eq_true.1 h
  rwa [Nat.eq_of_beq_eq_true he]

theorem trod_keep (hz : celledB P L = true) (hb : ∀ (b : Nat) (o : Obj), W.heap[b]? = some o → W'.heap[b]? = some o) : ∀ (fuel : Nat) (t : TypeId) (cs : List Value) (x : DataW H × List MemPlace), t ∈ L →
    DataW.trod enc P W base (fun _ => true) true fuel t cs = some x → (∀ p ∈ x.2, sp p.block = true) → DataW.trod enc P W' base sp true fuel t cs = some x
  | 0, t, cs, x, ht, h, hp => by simp [DataW.trod] at h
  | fuel + 1, t, cs, x, ht, h, hp => by
    have ih := trod_keep hz hb fuel
    have hk := List.all_eq_true.1 hz t ht
    unfold DataW.trod at h ⊢
    have here : ∀ {e : TypeId} {a : Addr} {n : Nat} {y : DataW H × List MemPlace}, e ∈ L → (W.cells? base a n).bind (DataW.trod enc P W base (fun _ => true) true fuel e) = some y → (∀ p ∈ y.2, sp p.block = true) →
        (W'.cells? base a n).bind (DataW.trod enc P W' base sp true fuel e) = some y := fun {e a n y} he h hp => by
      cases hc : W.cells? base a n with
      | none => rw [hc] at h; cases h
      | some cs => rw [hc] at h; rw [cells_keep hb hc]; exact ih e cs y he h hp
    split at h
    all_goals first | exact h | skip
    case h_6 =>
      rename_i e a hu
      rw [hu] at hk
      have he : e ∈ L := memB hk
      cases hc : (W.cells? base a (P.cellsOf e)).bind (DataW.trod enc P W base (fun _ => true) true fuel e) with
      | none => rw [hc] at h; cases h
      | some y =>
        rw [hc] at h
        obtain rfl := Option.some.inj h
        rw [here he hc fun p h => hp p (List.mem_append_right _ h)]
        rfl
    case h_8 =>
      rename_i e a len cap hu
      rw [hu] at hk
      have hk : (L.any (Nat.beq e) && Nat.blt 0 (P.cellsOf e)) = true := hk
      rw [Bool.and_eq_true] at hk
      have he : e ∈ L := memB hk.1
      dsimp only at h ⊢
      split at h
      · rename_i hc
        rw [if_pos rfl] at h
        cases h1 : (List.range len).mapM (fun i => (W.cells? base (a.add (i * P.cellsOf e)) (P.cellsOf e)).bind (DataW.trod enc P W base (fun _ => true) true fuel e)) with
        | none => rw [h1] at h; cases h
        | some elems =>
          rw [h1] at h
          simp only [Option.bind_some] at h
          cases h2 : (List.range (cap - len)).mapM (fun j => (W.cells? base (a.add ((len + j) * P.cellsOf e)) (P.cellsOf e)).bind (DataW.trod enc P W base (fun _ => true) true fuel e)) with
          | none => rw [h2] at h; cases h
          | some rest =>
            rw [h2] at h
            obtain rfl := Option.some.inj h
            have hin : ∀ y, y ∈ elems ++ rest → ∀ p ∈ y.2, sp p.block = true := fun y hy p hpy => hp p (List.mem_append_right _ (List.mem_flatMap.2 ⟨y, hy, hpy⟩))
            rw [mapM_keep h1 fun i y _ hy hf => here he hf (hin y (List.mem_append_left _ hy))]
            simp only [Option.bind_some]
            have hs : (if sp a.block = true then (List.range (cap - len)).mapM (fun j => (W'.cells? base (a.add ((len + j) * P.cellsOf e)) (P.cellsOf e)).bind (DataW.trod enc P W' base sp true fuel e)) else some []) = some rest := by
              split
              · exact mapM_keep h2 fun i y _ hy hf => here he hf (hin y (List.mem_append_right _ hy))
              · rename_i hsp
                cases hr : rest with
                | nil => rfl
                | cons y r =>
                  exfalso
                  have hpos : 0 < P.cellsOf e := Nat.le_of_ble_eq_true hk.2
                  refine hsp (hp (.cell a.block (a.off + 0)) (List.mem_append_left _ ?_))
                  unfold MemPlace.row
                  refine List.mem_map.2 ⟨0, List.mem_range.2 ?_, rfl⟩
                  rw [hr]
                  exact Nat.mul_pos (by rw [List.length_cons]; omega) hpos
            rw [hs, if_pos hc]
            rfl
      · cases h
    case h_9 =>
      rename_i fs hu
      rw [hu] at hk
      have hk := List.all_eq_true.1 hk
      split at h
      · rename_i hc
        rw [if_pos hc]
        obtain ⟨xs, h1, rfl⟩ := Option.map_eq_some_iff.1 h
        rw [mapM_keep h1 fun f y hf' hy hf => ih _ _ y (memB (hk f hf')) hf fun p hpy => hp p (List.mem_flatMap.2 ⟨y, hy, hpy⟩)]
        rfl
      · cases h
    case h_10 =>
      rename_i n e hu
      rw [hu] at hk
      split at h
      · rename_i hc
        rw [if_pos hc]
        obtain ⟨xs, h1, rfl⟩ := Option.map_eq_some_iff.1 h
        rw [mapM_keep h1 fun f y _ hy hf => ih _ _ y (memB hk) hf fun p hpy => hp p (List.mem_flatMap.2 ⟨y, hy, hpy⟩)]
        rfl
      · cases h
    case h_14 =>
      rename_i b hu
      rw [hu] at hk
      cases ho : W.heap[b]? with
      | none => rw [ho] at h; cases h
      | some o =>
        rw [hb _ _ ho]
        rw [ho] at h
        cases o with
        | map es clock =>
          dsimp only at h ⊢
          split at h
          · rename_i hc
            rw [if_pos hc]
            obtain ⟨entries, h1, h⟩ := Option.bind_eq_some_iff.1 h
            split at h
            · rename_i hr
              obtain rfl := Option.some.inj h
              rw [mapM_keep h1 fun f y _ hy hf => ?_]
              · simp only [Option.bind_some]
                rw [if_pos hr]
              · obtain ⟨key, hkey, hf⟩ := Option.bind_eq_some_iff.1 hf
                rw [hkey]
                simp only [Option.bind_some]
                split at hf
                · rename_i hfm
                  rw [if_pos hfm]
                  obtain ⟨z, hz', rfl⟩ := Option.map_eq_some_iff.1 hf
                  rw [ih _ _ z (memB hk) hz' fun p hpz => hp p (List.mem_cons_of_mem _ (List.mem_flatMap.2 ⟨_, hy, hpz⟩))]
                  rfl
                · cases hf
            · cases h
          · cases h
        | _ => cases h

theorem trodAll_keep (hz : celledB P L = true) (hb : ∀ (b : Nat) (o : Obj), W.heap[b]? = some o → W'.heap[b]? = some o) : ∀ (ts : List TypeId) (vs : List Value) (ds : List (DataW H)) (ps : List MemPlace), (∀ t ∈ ts, t ∈ L) →
    DataW.TrodAll enc P W base (fun _ => true) true ts vs ds ps → (∀ p ∈ ps, sp p.block = true) → DataW.TrodAll enc P W' base sp true ts vs ds ps
  | [], [], [], ps, _, h, _ => h
  | t :: ts, v :: vs, d :: ds, ps, hL, ⟨p, q, ⟨fuel, h1⟩, h2, he⟩, hp => by
    subst he
    exact ⟨p, q, ⟨fuel, trod_keep hz hb fuel t _ (d, p) (hL t (List.mem_cons_self ..)) h1 fun x hx => hp x (List.mem_append_left _ hx)⟩, trodAll_keep hz hb ts vs ds q (fun t ht => hL t (List.mem_cons_of_mem _ ht)) h2 fun x hx => hp x (List.mem_append_right _ hx), rfl⟩
  | [], [], _ :: _, _, _, h, _ => h.elim
  | [], _ :: _, _, _, _, h, _ => h.elim
  | _ :: _, [], _, _, _, h, _ => h.elim
  | _ :: _, _ :: _, [], _, _, h, _ => h.elim

end
end Go.Dec

namespace Go.Dec
open Go.ChangeShapes Go.WideShapes Go.RowKit
set_option linter.unusedVariables false
section
variable {H : Type} {enc : TypeId × Value → H} {P : Program} {w : World} {base : Nat} {sp : Nat → Bool} {held : Bool}

theorem open_ints2 {r : Reach} {b0 : Nat} {t : TypeId} {f0 f1 : Field} {k : IntKind} {v : Value} {d : DataW H} {ps : List MemPlace} (ht : P.underlying t = some (.struct #[f0, f1])) (h0 : P.underlying f0.type = some (.int k)) (h1 : P.underlying f1.type = some (.int k))
    (o0 : f0.offset = 0) (o1 : f1.offset = 1) (c0 : P.cellsOf f0.type = 1) (c1 : P.cellsOf f1.type = 1) (ct : P.cellsOf t = 2) (hval : Value.okWide P w r b0 t v) (hd : DataW.Trod enc P w base sp held t v d ps) :
    ∃ x y : Int, v = .agg #[.int k x, .int k y] ∧ ps = [] ∧ (Lit.int k x).wf = true ∧ (Lit.int k y).wf = true := by
  unfold Value.okWide at hval
  rw [ht] at hval
  obtain ⟨cs, rfl, hsz, _⟩ := hval
  obtain ⟨fuel, hf⟩ := hd
  obtain ⟨y0, y1, n, he, hl, hy0, hy1⟩ := trod_struct2 ht hf
  rw [o0, c0] at hy0
  rw [o1, c1] at hy1
  obtain ⟨x, e0, rfl, wx⟩ := DataW.trod_int h0 hy0
  obtain ⟨y, e1, rfl, wy⟩ := DataW.trod_int h1 hy1
  simp only [Prod.mk.injEq] at he
  refine ⟨x, y, ?_, by simpa using he.2, wx, wy⟩
  have hcs : (Value.agg cs).cells.toList = cs.toList := rfl
  rw [hcs] at e0 e1 hl
  rw [ct] at hl
  congr 1
  apply Array.ext'
  match hc : cs.toList, hl with
  | [a, b], _ =>
    rw [hc] at e0 e1
    simp at e0 e1
    subst e0 e1
    rfl

theorem open_islice {r : Reach} {b0 : Nat} {t e : TypeId} {k : IntKind} {v : Value} {d : DataW H} {ps : List MemPlace} (ht : P.underlying t = some (.slice e)) (he : P.underlying e = some (.int k)) (hc : P.cellsOf e = 1)
    (hval : Value.okWide P w r b0 t v) (hd : DataW.Trod enc P w base (fun _ => true) held t v d ps) :
    ∃ (x : Sl) (zs : List Int), v = x.v ∧ x.len ≤ x.cap ∧ zs.length = x.len ∧ (∀ n ∈ zs, (Lit.int k n).wf = true) ∧ Rd w 1 x (zs.flatMap fun n => [Value.int k n]) := by
  obtain ⟨a0, len, cap, rfl⟩ := okWide_slice ht hval
  obtain ⟨fuel, hf⟩ := hd
  rcases open_ints ht he hc hf with ⟨hcs, -⟩ | ⟨a, len', cap', zs, hcs, _, hl, hm, hz, -, hcell, hw⟩
  · have hcs : (Value.slice a0 len cap) = .slice none 0 0 := by simpa [Value.cells] using hcs
    injection hcs with h1 h2 h3
    subst h1 h2 h3
    exact ⟨⟨none, 0, 0⟩, [], rfl, Nat.le_refl _, rfl, (fun n hn => by cases hn), rfl, .inl rfl⟩
  · have hcs : (Value.slice a0 len cap) = .slice (some a) len' cap' := by simpa [Value.cells] using hcs
    injection hcs with h1 h2 h3
    subst h1 h2 h3
    have hz : zs.length = cap := by simpa using hz
    refine ⟨⟨some a, len, cap⟩, zs.take len, rfl, hl, by simp; omega, fun n hn => hw n (List.mem_of_mem_take hn), ?_⟩
    have hmap : ∀ zs : List Int, (zs.flatMap fun n => [Value.int k n]) = zs.map (Value.int k) := fun zs => by induction zs with
      | nil => rfl
      | cons z r ih => rw [List.flatMap_cons, ih]; rfl
    rw [hmap]
    refine ⟨by simp; omega, ?_⟩
    by_cases h0 : len = 0
    · exact .inl h0
    · right
      have hc0 := hcell 0 (by omega)
      obtain ⟨b, off, spot⟩ := a
      have e0 : (Addr.mk b off spot).add 0 = ⟨b, off, spot⟩ := rfl
      rw [e0] at hc0
      unfold World.cell? at hc0
      dsimp only at hc0
      cases hb : w.heap[b]? with
      | none => rw [hb] at hc0; cases hc0
      | some o =>
        rw [hb] at hc0
        cases o with
        | cells arr T fr =>
          dsimp only at hc0
          cases spot with
          | some x => simp at hc0
          | none =>
            refine ⟨b, off, arr, T, fr, rfl, hb, fun i hi => ?_⟩
            simp only [List.length_map, List.length_take] at hi
            have hci := hcell i (by omega)
            rw [add_mk, cell_of hb] at hci
            rw [hci]
            simp [show i < len by omega, show i < zs.length by omega]
        | _ => cases hc0

theorem rd_keep {W W' : World} (hb : ∀ (b : Nat) (o : Obj), W.heap[b]? = some o → W'.heap[b]? = some o) {sz : Nat} {x : Sl} {cs : List Value} (h : Rd W sz x cs) : Rd W' sz x cs :=
  ⟨h.1, h.2.imp id fun ⟨b, off, arr, T, fr, ha, h1, h2⟩ => ⟨b, off, arr, T, fr, ha, hb _ _ h1, h2⟩⟩

end
end Go.Dec

namespace Go.Dec
open Go.ChangeShapes Go.WideShapes Go.RowKit Go.Deep
set_option linter.unusedVariables false
section
variable {H : Type} {enc : TypeId × Value → H} {P : Program} {w : World} {base : Nat} {spare : Nat → Bool} {held : Bool}

theorem rd_cells {a : Addr} {cs : List Value} {len cap sz : Nat} (hlen : cs.length = len * sz) (hpos : 0 < sz) (hcell : ∀ i, i < cs.length → w.cell? (a.add i) = cs[i]?) : Rd w sz ⟨some a, len, cap⟩ cs := by
  refine ⟨hlen, ?_⟩
  by_cases h0 : len = 0
  · exact .inl h0
  · right
    have hpos2 : 0 < cs.length := by rw [hlen]; exact Nat.mul_pos (by omega) hpos
    have hc0 := hcell 0 hpos2
    obtain ⟨b, off, spot⟩ := a
    have e0 : (Addr.mk b off spot).add 0 = ⟨b, off, spot⟩ := rfl
    rw [e0, List.getElem?_eq_getElem hpos2] at hc0
    unfold World.cell? at hc0
    dsimp only at hc0
    cases hb : w.heap[b]? with
    | none => rw [hb] at hc0; cases hc0
    | some o =>
      rw [hb] at hc0
      cases o with
      | cells arr T fr =>
        dsimp only at hc0
        cases spot with
        | some x => simp at hc0
        | none =>
          refine ⟨b, off, arr, T, fr, rfl, hb, fun i hi => ?_⟩
          have hci := hcell i hi
          rw [add_mk, cell_of hb] at hci
          rw [hci]
      | _ => cases hc0

theorem open_rows {α : Type} {encA : α → List Value} {good : α → Prop} {r : Reach} {b0 : Nat} {t e : TypeId} {fs : Array Field} {v : Value} {d : DataW H} {ps : List MemPlace} (ht : P.underlying t = some (.slice e)) (he : P.underlying e = some (.struct fs))
    (hone : oneCellFields P fs = true) (hC : P.cellsOf e = fs.size) (hpos : 0 < fs.size)
    (hread : ∀ (n : Nat) (vs : List Value), vs.length = fs.size → (∀ (j : Nat) (f : Field), fs[j]? = some f → ∃ (u : Value) (y : DataW H × List MemPlace), vs[j]? = some u ∧ DataW.trod enc P w base spare held n f.type [u] = some y) → ∃ o : α, vs = encA o ∧ good o)
    (hval : Value.okWide P w r b0 t v) (hd : DataW.Trod enc P w base spare held t v d ps) :
    ∃ (x : Sl) (xs : List α), v = x.v ∧ x.len ≤ x.cap ∧ x.len = xs.length ∧ x.cap ≤ maxLen ∧ (∀ o ∈ xs, good o) ∧ Rd w fs.size x (xs.flatMap encA) := by
  obtain ⟨a0, len0, cap0, rfl⟩ := okWide_slice ht hval
  obtain ⟨fuel, hf⟩ := hd
  rcases DataW.trod_slice ht hf with ⟨hcs, -⟩ | ⟨a, len, cap, elems, rest, n, _, hcs, -, hb, hl, hm, hlen, hel, -, -⟩
  · have hcs : (Value.slice a0 len0 cap0) = .slice none 0 0 := by simpa [Value.cells] using hcs
    injection hcs with h1 h2 h3
    subst h1 h2 h3
    exact ⟨⟨none, 0, 0⟩, [], rfl, Nat.le_refl _, rfl, Nat.zero_le _, (fun o ho => by cases ho), (Nat.zero_mul _).symm, .inl rfl⟩
  · have hcs : (Value.slice a0 len0 cap0) = .slice (some a) len cap := by simpa [Value.cells] using hcs
    injection hcs with h1 h2 h3
    subst h1 h2 h3
    have each : ∀ i, i < len0 → ∃ o : α, good o ∧ (encA o).length = fs.size ∧ ∀ j, j < fs.size → w.cell? (a.add (i * fs.size + j)) = (encA o)[j]? := by
      intro i hi
      have h1 := hel i hi
      rw [List.getElem?_eq_getElem (by omega), Option.bind_eq_some_iff] at h1
      obtain ⟨cs', hc, ht'⟩ := h1
      rw [hC] at hc
      obtain ⟨ys, n', hn', hy, hlen', hyl, hf⟩ := DataW.trod_struct he ht'
      obtain ⟨_, hcl, hat⟩ := World.cells?_some hc
      obtain ⟨o, ho, hg⟩ := hread n' cs' hcl fun j f hj => by
        obtain ⟨ho, hk⟩ := hone_of hone j f hj
        have hjl : j < fs.size := (Array.getElem?_eq_some_iff.1 hj).1
        have h1 := hf j f hj
        rw [ho, hk] at h1
        have hone' : (cs'.drop j).take 1 = [cs'[j]'(by omega)] := by
          rw [List.drop_eq_getElem_cons (by omega)]; rfl
        rw [hone', List.getElem?_eq_getElem (by omega)] at h1
        exact ⟨_, _, List.getElem?_eq_getElem (by omega), h1⟩
      refine ⟨o, hg, by rw [← ho]; exact hcl, fun j hj => ?_⟩
      rw [← Go.Deep.add_add, hat j hj, ho]
    have hall : ∀ k, k ≤ len0 → ∃ xs : List α, xs.length = k ∧ (∀ o ∈ xs, good o) ∧ (xs.flatMap encA).length = k * fs.size ∧ ∀ i, i < k * fs.size → w.cell? (a.add i) = (xs.flatMap encA)[i]? := by
      intro k
      induction k with
      | zero => exact fun _ => ⟨[], rfl, (fun o ho => by cases ho), by simp, fun i hi => by omega⟩
      | succ k ih =>
        intro hk
        obtain ⟨xs, h1, h2, h3, h4⟩ := ih (by omega)
        obtain ⟨o, ho, hol, hc⟩ := each k (by omega)
        refine ⟨xs ++ [o], by simp [h1], fun u hu => ?_, by simp [h3, hol, Nat.succ_mul], fun i hi => ?_⟩
        · rcases List.mem_append.1 hu with hu | hu
          · exact h2 u hu
          · rw [List.mem_singleton.1 hu]; exact ho
        · rw [List.flatMap_append, List.flatMap_singleton]
          by_cases hik : i < k * fs.size
          · rw [List.getElem?_append_left (by omega), h4 i hik]
          · rw [List.getElem?_append_right (by omega), h3]
            rw [Nat.succ_mul] at hi
            have := hc (i - k * fs.size) (by omega)
            rw [show k * fs.size + (i - k * fs.size) = i by omega] at this
            exact this
    obtain ⟨xs, h1, h2, h3, h4⟩ := hall len0 (Nat.le_refl _)
    exact ⟨⟨some a, len0, cap0⟩, xs, rfl, hl, h1.symm, hm, h2, rd_cells h3 hpos fun i hi => h4 i (by rw [← h3]; exact hi)⟩

/-- A field that is a slice of numbers. -/
theorem trod_islice {t e : TypeId} {k : IntKind} {fuel : Nat} {v : Value} {y : DataW H × List MemPlace} (ht : P.underlying t = some (.slice e)) (he : P.underlying e = some (.int k)) (hc : P.cellsOf e = 1)
    (hd : DataW.trod enc P w base spare held fuel t [v] = some y) :
    ∃ (x : Sl) (zs : List Int), v = x.v ∧ x.len ≤ x.cap ∧ zs.length = x.len ∧ (∀ n ∈ zs, (Lit.int k n).wf = true) ∧ Rd w 1 x (zs.flatMap fun n => [Value.int k n]) := by
  rcases open_ints ht he hc hd with ⟨hcs, -⟩ | ⟨a, len, cap, zs, hcs, _, hl, hm, hz, -, hcell, hw⟩
  · obtain rfl : v = .slice none 0 0 := by simpa using hcs
    exact ⟨⟨none, 0, 0⟩, [], rfl, Nat.le_refl _, rfl, (fun n hn => by cases hn), rfl, .inl rfl⟩
  · obtain rfl : v = .slice (some a) len cap := by simpa using hcs
    have hz : len ≤ zs.length := by rw [hz]; split <;> omega
    have hmap : ∀ zs : List Int, (zs.flatMap fun n => [Value.int k n]) = zs.map (Value.int k) := fun zs => by induction zs with
      | nil => rfl
      | cons z r ih => rw [List.flatMap_cons, ih]; rfl
    refine ⟨⟨some a, len, cap⟩, zs.take len, rfl, hl, by simp; omega, fun n hn => hw n (List.mem_of_mem_take hn), rd_cells (by rw [hmap]; simp; omega) (by decide) fun i hi => ?_⟩
    rw [hmap] at hi ⊢
    simp only [List.length_map, List.length_take] at hi
    rw [hcell i (by omega)]
    simp [show i < len by omega, show i < zs.length by omega]

end
end Go.Dec

namespace Go.Dec
open Go.ChangeShapes Go.WideShapes Go.RowKit Go.Deep
set_option linter.unusedVariables false
section
variable {H : Type} {enc : TypeId × Value → H} {P : Program} {w : World} {base : Nat} {spare : Nat → Bool} {held : Bool}

theorem trod_rows {α : Type} {encA : α → List Value} {good : α → Prop} {C : Nat} {t e : TypeId} {fuel : Nat} {v : Value} {y : DataW H × List MemPlace} (ht : P.underlying t = some (.slice e)) (hC : P.cellsOf e = C) (hpos : 0 < C)
    (hread : ∀ (n : Nat) (cs : List Value) (y : DataW H × List MemPlace), cs.length = C → DataW.trod enc P w base spare held n e cs = some y → ∃ o : α, cs = encA o ∧ good o)
    (hd : DataW.trod enc P w base spare held fuel t [v] = some y) :
    ∃ (x : Sl) (xs : List α), v = x.v ∧ x.len ≤ x.cap ∧ x.len = xs.length ∧ x.cap ≤ maxLen ∧ (∀ o ∈ xs, good o) ∧ Rd w C x (xs.flatMap encA) := by
  rcases DataW.trod_slice ht hd with ⟨hcs, -⟩ | ⟨a, len, cap, elems, rest, n, _, hcs, -, hb, hl, hm, hlen, hel, -, -⟩
  · obtain rfl : v = .slice none 0 0 := by simpa using hcs
    exact ⟨⟨none, 0, 0⟩, [], rfl, Nat.le_refl _, rfl, Nat.zero_le _, (fun o ho => by cases ho), (Nat.zero_mul _).symm, .inl rfl⟩
  · obtain rfl : v = .slice (some a) len cap := by simpa using hcs
    have each : ∀ i, i < len → ∃ o : α, good o ∧ (encA o).length = C ∧ ∀ j, j < C → w.cell? (a.add (i * C + j)) = (encA o)[j]? := by
      intro i hi
      have h1 := hel i hi
      rw [List.getElem?_eq_getElem (by omega), Option.bind_eq_some_iff] at h1
      obtain ⟨cs', hc, ht'⟩ := h1
      rw [hC] at hc
      obtain ⟨_, hcl, hat⟩ := World.cells?_some hc
      obtain ⟨o, ho, hg⟩ := hread n cs' _ hcl ht'
      refine ⟨o, hg, by rw [← ho]; exact hcl, fun j hj => ?_⟩
      rw [← Go.Deep.add_add, hat j hj, ho]
    have hall : ∀ k, k ≤ len → ∃ xs : List α, xs.length = k ∧ (∀ o ∈ xs, good o) ∧ (xs.flatMap encA).length = k * C ∧ ∀ i, i < k * C → w.cell? (a.add i) = (xs.flatMap encA)[i]? := by
      intro k
      induction k with
      | zero => exact fun _ => ⟨[], rfl, (fun o ho => by cases ho), by simp, fun i hi => by omega⟩
      | succ k ih =>
        intro hk
        obtain ⟨xs, h1, h2, h3, h4⟩ := ih (by omega)
        obtain ⟨o, ho, hol, hc⟩ := each k (by omega)
        refine ⟨xs ++ [o], by simp [h1], fun u hu => ?_, by simp [h3, hol, Nat.succ_mul], fun i hi => ?_⟩
        · rcases List.mem_append.1 hu with hu | hu
          · exact h2 u hu
          · rw [List.mem_singleton.1 hu]; exact ho
        · rw [List.flatMap_append, List.flatMap_singleton]
          by_cases hik : i < k * C
          · rw [List.getElem?_append_left (by omega), h4 i hik]
          · rw [List.getElem?_append_right (by omega), h3]
            rw [Nat.succ_mul] at hi
            have := hc (i - k * C) (by omega)
            rw [show k * C + (i - k * C) = i by omega] at this
            exact this
    obtain ⟨xs, h1, h2, h3, h4⟩ := hall len (Nat.le_refl _)
    exact ⟨⟨some a, len, cap⟩, xs, rfl, hl, h1.symm, hm, h2, rd_cells h3 hpos fun i hi => h4 i (by rw [← h3]; exact hi)⟩
end
end Go.Dec
