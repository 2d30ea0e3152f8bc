/- What stands where nothing old was changed is read as before. -/
import Derived.RowKit3
namespace Go.Dec
set_option linter.unusedVariables false
set_option linter.unusedSimpArgs false

theorem mapM_keep {α β : Type} {f g : α → Option β} : ∀ {l : List α} {ys : List β}, l.mapM f = some ys → (∀ a y, a ∈ l → y ∈ ys → f a = some y → g a = some y) → l.mapM g = some ys
  | [], ys, h, _ => by simpa using h
  | a :: r, ys, h, hk => by
    rw [List.mapM_cons] at h ⊢
    cases ha : f a with
    | none => rw [ha] at h; cases h
    | some y =>
      rw [ha] at h
      cases hr : r.mapM f with
      | none => rw [hr] at h; cases h
      | some zs =>
        rw [hr] at h
        obtain rfl : y :: zs = ys := by simpa using h
        rw [hk a y (List.mem_cons_self ..) (List.mem_cons_self ..) ha, mapM_keep hr fun b z hb hz hf => hk b z (List.mem_cons_of_mem _ hb) (List.mem_cons_of_mem _ hz) hf]
        rfl

section
variable {H : Type} {enc : TypeId × Value → H} {P : Program} {W W' : World} {base : Nat} {sp : Nat → Bool} {L : List TypeId}

theorem cell_keep (hb : ∀ (b : Nat) (o : Obj), W.heap[b]? = some o → W'.heap[b]? = some o) {a : Addr} {v : Value} (h : W.cell? a = some v) : W'.cell? a = some v := by
  unfold World.cell? at h ⊢
  cases ho : W.heap[a.block]? with
  | none => rw [ho] at h; cases h
  | some o => rw [ho] at h; rw [hb _ _ ho]; exact h

theorem cells_keep (hb : ∀ (b : Nat) (o : Obj), W.heap[b]? = some o → W'.heap[b]? = some o) {a : Addr} {n : Nat} {cs : List Value} (h : W.cells? base a n = some cs) : W'.cells? base a n = some cs := by
  unfold World.cells? at h ⊢
  split at h
  · rename_i hc
    rw [if_pos hc]
    exact mapM_keep h fun i v _ _ hv => cell_keep hb hv
  · cases h

/-- A list of types with all that their values are made of; slices' elements have cells. -/
def celledB (P : Program) (L : List TypeId) : Bool := L.all fun t => match P.underlying t with
  | some (.pointer e) => L.any (Nat.beq e)
  | some (.slice e) => L.any (Nat.beq e) && Nat.blt 0 (P.cellsOf e)
  | some (.array _ e) => L.any (Nat.beq e)
  | some (.struct fs) => fs.toList.all fun f => L.any (Nat.beq f.type)
  | some (.map _ e) => L.any (Nat.beq e)
  | _ => true

theorem memB {L : List TypeId} {e : TypeId} (h : L.any (Nat.beq e) = true) : e ∈ L := by
  obtain ⟨x, hx, he⟩ := List.any_eq_true.1 h
  rwa [Nat.eq_of_beq_eq_true he]

theorem trod_keep (hz : celledB P L = true) (hb : ∀ (b : Nat) (o : Obj), W.heap[b]? = some o → W'.heap[b]? = some o) : ∀ (fuel : Nat) (t : TypeId) (cs : List Value) (x : DataW H × List MemPlace), t ∈ L →
    DataW.trod enc P W base (fun _ => true) true fuel t cs = some x → (∀ p ∈ x.2, sp p.block = true) → DataW.trod enc P W' base sp true fuel t cs = some x
  | 0, t, cs, x, ht, h, hp => by simp [DataW.trod] at h
  | fuel + 1, t, cs, x, ht, h, hp => by
    have ih := trod_keep hz hb fuel
    have hk := List.all_eq_true.1 hz t ht
    unfold DataW.trod at h ⊢
    have here : ∀ {e : TypeId} {a : Addr} {n : Nat} {y : DataW H × List MemPlace}, e ∈ L → (W.cells? base a n).bind (DataW.trod enc P W base (fun _ => true) true fuel e) = some y → (∀ p ∈ y.2, sp p.block = true) →
        (W'.cells? base a n).bind (DataW.trod enc P W' base sp true fuel e) = some y := fun {e a n y} he h hp => by
      cases hc : W.cells? base a n with
      | none => rw [hc] at h; cases h
      | some cs => rw [hc] at h; rw [cells_keep hb hc]; exact ih e cs y he h hp
    split at h
    all_goals first | exact h | skip
    case h_6 =>
      rename_i e a hu
      rw [hu] at hk
      have he : e ∈ L := memB hk
      cases hc : (W.cells? base a (P.cellsOf e)).bind (DataW.trod enc P W base (fun _ => true) true fuel e) with
      | none => rw [hc] at h; cases h
      | some y =>
        rw [hc] at h
        obtain rfl := Option.some.inj h
        rw [here he hc fun p h => hp p (List.mem_append_right _ h)]
        rfl
    case h_8 =>
      rename_i e a len cap hu
      rw [hu] at hk
      have hk : (L.any (Nat.beq e) && Nat.blt 0 (P.cellsOf e)) = true := hk
      rw [Bool.and_eq_true] at hk
      have he : e ∈ L := memB hk.1
      dsimp only at h ⊢
      split at h
      · rename_i hc
        rw [if_pos rfl] at h
        cases h1 : (List.range len).mapM (fun i => (W.cells? base (a.add (i * P.cellsOf e)) (P.cellsOf e)).bind (DataW.trod enc P W base (fun _ => true) true fuel e)) with
        | none => rw [h1] at h; cases h
        | some elems =>
          rw [h1] at h
          simp only [Option.bind_some] at h
          cases h2 : (List.range (cap - len)).mapM (fun j => (W.cells? base (a.add ((len + j) * P.cellsOf e)) (P.cellsOf e)).bind (DataW.trod enc P W base (fun _ => true) true fuel e)) with
          | none => rw [h2] at h; cases h
          | some rest =>
            rw [h2] at h
            obtain rfl := Option.some.inj h
            have hin : ∀ y, y ∈ elems ++ rest → ∀ p ∈ y.2, sp p.block = true := fun y hy p hpy => hp p (List.mem_append_right _ (List.mem_flatMap.2 ⟨y, hy, hpy⟩))
            rw [mapM_keep h1 fun i y _ hy hf => here he hf (hin y (List.mem_append_left _ hy))]
            simp only [Option.bind_some]
            have hs : (if sp a.block = true then (List.range (cap - len)).mapM (fun j => (W'.cells? base (a.add ((len + j) * P.cellsOf e)) (P.cellsOf e)).bind (DataW.trod enc P W' base sp true fuel e)) else some []) = some rest := by
              split
              · exact mapM_keep h2 fun i y _ hy hf => here he hf (hin y (List.mem_append_right _ hy))
              · rename_i hsp
                cases hr : rest with
                | nil => rfl
                | cons y r =>
                  exfalso
                  have hpos : 0 < P.cellsOf e := Nat.le_of_ble_eq_true hk.2
                  refine hsp (hp (.cell a.block (a.off + 0)) (List.mem_append_left _ ?_))
                  unfold MemPlace.row
                  refine List.mem_map.2 ⟨0, List.mem_range.2 ?_, rfl⟩
                  rw [hr]
                  exact Nat.mul_pos (by rw [List.length_cons]; omega) hpos
            rw [hs, if_pos hc]
            rfl
      · cases h
    case h_9 =>
      rename_i fs hu
      rw [hu] at hk
      have hk := List.all_eq_true.1 hk
      split at h
      · rename_i hc
        rw [if_pos hc]
        obtain ⟨xs, h1, rfl⟩ := Option.map_eq_some_iff.1 h
        rw [mapM_keep h1 fun f y hf' hy hf => ih _ _ y (memB (hk f hf')) hf fun p hpy => hp p (List.mem_flatMap.2 ⟨y, hy, hpy⟩)]
        rfl
      · cases h
    case h_10 =>
      rename_i n e hu
      rw [hu] at hk
      split at h
      · rename_i hc
        rw [if_pos hc]
        obtain ⟨xs, h1, rfl⟩ := Option.map_eq_some_iff.1 h
        rw [mapM_keep h1 fun f y _ hy hf => ih _ _ y (memB hk) hf fun p hpy => hp p (List.mem_flatMap.2 ⟨y, hy, hpy⟩)]
        rfl
      · cases h
    case h_14 =>
      rename_i b hu
      rw [hu] at hk
      cases ho : W.heap[b]? with
      | none => rw [ho] at h; cases h
      | some o =>
        rw [hb _ _ ho]
        rw [ho] at h
        cases o with
        | map es clock =>
          dsimp only at h ⊢
          split at h
          · rename_i hc
            rw [if_pos hc]
            obtain ⟨entries, h1, h⟩ := Option.bind_eq_some_iff.1 h
            split at h
            · rename_i hr
              obtain rfl := Option.some.inj h
              rw [mapM_keep h1 fun f y _ hy hf => ?_]
              · simp only [Option.bind_some]
                rw [if_pos hr]
              · obtain ⟨key, hkey, hf⟩ := Option.bind_eq_some_iff.1 hf
                rw [hkey]
                simp only [Option.bind_some]
                split at hf
                · rename_i hfm
                  rw [if_pos hfm]
                  obtain ⟨z, hz', rfl⟩ := Option.map_eq_some_iff.1 hf
                  rw [ih _ _ z (memB hk) hz' fun p hpz => hp p (List.mem_cons_of_mem _ (List.mem_flatMap.2 ⟨_, hy, hpz⟩))]
                  rfl
                · cases hf
            · cases h
          · cases h
        | _ => cases h

theorem trodAll_keep (hz : celledB P L = true) (hb : ∀ (b : Nat) (o : Obj), W.heap[b]? = some o → W'.heap[b]? = some o) : ∀ (ts : List TypeId) (vs : List Value) (ds : List (DataW H)) (ps : List MemPlace), (∀ t ∈ ts, t ∈ L) →
    DataW.TrodAll enc P W base (fun _ => true) true ts vs ds ps → (∀ p ∈ ps, sp p.block = true) → DataW.TrodAll enc P W' base sp true ts vs ds ps
  | [], [], [], ps, _, h, _ => h
  | t :: ts, v :: vs, d :: ds, ps, hL, ⟨p, q, ⟨fuel, h1⟩, h2, he⟩, hp => by
    subst he
    exact ⟨p, q, ⟨fuel, trod_keep hz hb fuel t _ (d, p) (hL t (List.mem_cons_self ..)) h1 fun x hx => hp x (List.mem_append_left _ hx)⟩, trodAll_keep hz hb ts vs ds q (fun t ht => hL t (List.mem_cons_of_mem _ ht)) h2 fun x hx => hp x (List.mem_append_right _ hx), rfl⟩
  | [], [], _ :: _, _, _, h, _ => h.elim
  | [], _ :: _, _, _, _, h, _ => h.elim
  | _ :: _, [], _, _, _, h, _ => h.elim
  | _ :: _, _ :: _, [], _, _, h, _ => h.elim

end
end Go.Dec
