/- What the claim of this folder leans on: our own texts, joined, without what it does not use. -/
import Derived.Test.YtfnldnodhfkojaaGreatRows
import Derived.WalkKit
import Derived.ProofKit
import Derived.OpenShut
import Derived.RowKit3
import Derived.OrdersHeld
import Derived.Scope
import Derived.KernelRfl
import Derived.Laws.Sem
import Derived.Laws.StructEq
import Derived.Deep.AppendSrc
import Derived.Laws.BytesArg
import Derived.Laws.RangeString
import Derived.Maps.RangeRun
import Derived.Lib.ConvBytes
import Derived.Lib.SlBytesConst
import Derived.ChangeSlices
import Derived.ChangeMaps5
import Derived.ChangeSame
import Derived.Deep.Slices
import Derived.Deep.Fields
import Derived.Test.YtfnldnodhfkojaaGreatProg
import Derived.Laws.MakeOwn
import Derived.Sort.MapsRangeIn
import Derived.Sort.KeysCollected
import Derived.RangeFuncNested
import Derived.RangeFuncBound
import Derived.RangeFuncCalls
import Derived.RangeFuncLeaves
import Derived.RangeFuncBox
import Derived.OwnWalkIn
import Derived.TacticsInMore
import Derived.RegionIn
import Derived.LoopNIn
import Derived.LoopIn
import Derived.Maps.AppendAt
import Derived.Shelf.Abstract
import Derived.Test.YtfnldnodhfkojaaGreatQReads1
set_option linter.unusedVariables false
set_option linter.unusedSimpArgs false
namespace Go.Dec
theorem kept_of {W w':World} {l:List HP} (hs:Sat w' (whole W::l)) (may:MemPlace→Prop):W.keptBut w' may:=by
 obtain ⟨h,ho,hu,hz⟩:=hs.of_whole
 refine ⟨ho,hu,fun i hi=>?_⟩
 have hg:W.heap[i]? = some W.heap[i]:=by simp [hi]
 have hg':=h i _ hg
 rw [hg,hg']
 cases W.heap[i] with
 | cells c t fr=>exact ⟨rfl,rfl,rfl,fun _ _=>rfl⟩
 | map es c=>exact .inr ⟨rfl,rfl⟩
 | _=>rfl
section
open Go.ChangeShapes
variable {H:Type} {enc:TypeId × Value→H} {P:Program}
theorem post_keep {f:Func} {s:ChangeSpec} {apart fresh handsOn again:Bool} {W W':World} {args:Array Value} {v:Value} {ds gs:List (DataW H)} {before pa pv:List MemPlace} {l:List HP}
  (hW:DataW.Whole enc P f.params.toList s.vars apart W args.toList ds gs before) (hs:Sat W' (whole W::l))
  (hres:∀ (b:Nat) (sp:Nat→Bool) (hd:Bool),DataW.TrodAll enc P W' b sp hd f.resultTypes.toList (v.resultList f.resultTypes.size) (s.fn H (ds++gs)).results [])
  (hargs:∀ sp:Nat→Bool,(∀ p ∈ before,sp p.block=true)→DataW.TrodAll enc P W' 0 sp true f.params.toList args.toList (s.fn H (ds++gs)).args pa)
  (hvars:∀ sp:Nat→Bool,(∀ p ∈ before,sp p.block=true)→DataW.TrodVars enc P W' sp s.vars (s.fn H (ds++gs)).vars pv)
  (hps:before=pa++pv)
  (hok:∀ (j:Nat) (t:TypeId) (r:Value),f.resultTypes[j]? = some t→(v.resultList f.resultTypes.size)[j]? = some r→Value.okWide P W' .any 0 t r) :
  s.post enc P f apart fresh handsOn again W args v W':=by
 have hlt:=hW.lt
 have hz:=hs.of_whole.2.2.2
 have hkeep:=kept_of hs
 refine ⟨ds,gs,before,[],pa,pv,hW,hres _ _ _,hargs _ fun p hp=>decide_eq_true (hlt p hp),hvars _ fun p hp=>decide_eq_true (hlt p hp),World.keptBut_mono (fun p hp=>⟨hp,.inr (by rw [hps] at hp;exact List.mem_append.1 hp)⟩) (hkeep (· ∈ before)),fun _=>?_⟩
 obtain ⟨_,_,_,_,_,hfz,hnd⟩:=hW
 refine ⟨hok,_,_,([]++pa)++pv,⟨[]++pa,pv,trodAll_append (hargs _ fun _ _=>rfl) (hres _ _ _),hvars _ fun _ _=>rfl,rfl,fun b off hp=>?_,fun ha=>?_⟩,fun p hp _=>?_⟩
 ·have hmem:MemPlace.cell b off ∈ before:=by rw [hps];simpa using hp
  rw [hz _ (hlt _ hmem)]
  exact hfz b off hmem
 ·have:=hnd ha
  rw [hps] at this
  simpa using this
 ·rw [hps];simpa using hp
end
theorem wf64 {n:Int} (h:(Lit.int .i64 n).wf=true) : -9223372036854775808≤n∧n<9223372036854775808:=by
 have h:IntKind.min .i64≤n∧n≤IntKind.max .i64:=by simpa only [Lit.wf,Bool.and_eq_true,decide_eq_true_eq] using h
 have h1:IntKind.min .i64 = -9223372036854775808:=by decide
 have h2:IntKind.max .i64=9223372036854775807:=by decide
 omega
theorem mapM_keep {α β:Type} {f g:α→Option β}:∀ {l:List α} {ys:List β},l.mapM f=some ys→(∀ a y,a ∈ l→y ∈ ys→f a=some y→g a=some y)→l.mapM g=some ys
 | [],ys,h,_=>by simpa using h
 | a::r,ys,h,hk=>by
  rw [List.mapM_cons] at h ⊢
  cases ha:f a with
  | none=>rw [ha] at h;cases h
  | some y =>
   rw [ha] at h
   cases hr:r.mapM f with
   | none=>rw [hr] at h;cases h
   | some zs =>
    rw [hr] at h
    obtain rfl:y::zs=ys:=by simpa using h
    rw [hk a y (List.mem_cons_self ..) (List.mem_cons_self ..) ha,mapM_keep hr fun b z hb hz hf=>hk b z (List.mem_cons_of_mem _ hb) (List.mem_cons_of_mem _ hz) hf]
    rfl
section
variable {H:Type} {enc:TypeId × Value→H} {P:Program} {W W':World} {base:Nat} {sp:Nat→Bool} {L:List TypeId}
theorem cell_keep (hb:∀ (b:Nat) (o:Obj),W.heap[b]? = some o→W'.heap[b]? = some o) {a:Addr} {v:Value} (h:W.cell? a=some v):W'.cell? a=some v:=by
 unfold World.cell? at h ⊢
 cases ho:W.heap[a.block]? with
 | none=>rw [ho] at h;cases h
 | some o=>rw [ho] at h;rw [hb _ _ ho];exact h
theorem cells_keep (hb:∀ (b:Nat) (o:Obj),W.heap[b]? = some o→W'.heap[b]? = some o) {a:Addr} {n:Nat} {cs:List Value} (h:W.cells? base a n=some cs):W'.cells? base a n=some cs:=by
 unfold World.cells? at h ⊢
 split at h
 ·rename_i hc
  rw [if_pos hc]
  exact mapM_keep h fun i v _ _ hv=>cell_keep hb hv
 ·cases h
def celledB (P:Program) (L:List TypeId):Bool:=L.all fun t=>match P.underlying t with
 | some (.pointer e)=>L.any (Nat.beq e)
 | some (.slice e)=>L.any (Nat.beq e) && Nat.blt 0 (P.cellsOf e)
 | some (.array _ e)=>L.any (Nat.beq e)
 | some (.struct fs)=>fs.toList.all fun f=>L.any (Nat.beq f.type)
 | some (.map _ e)=>L.any (Nat.beq e)
 | _=>true
theorem memB {L:List TypeId} {e:TypeId} (h:L.any (Nat.beq e)=true):e ∈ L:=by
 obtain ⟨x,hx,he⟩:=List.any_eq_true.1 h
 rwa [Nat.eq_of_beq_eq_true he]
theorem trod_keep (hz:celledB P L=true) (hb:∀ (b:Nat) (o:Obj),W.heap[b]? = some o→W'.heap[b]? = some o):∀ (fuel:Nat) (t:TypeId) (cs:List Value) (x:DataW H × List MemPlace),t ∈ L →
  DataW.trod enc P W base (fun _=>true) true fuel t cs=some x→(∀ p ∈ x.2,sp p.block=true)→DataW.trod enc P W' base sp true fuel t cs=some x
 | 0,t,cs,x,ht,h,hp=>by simp [DataW.trod] at h
 | fuel+1,t,cs,x,ht,h,hp=>by
  have ih:=trod_keep hz hb fuel
  have hk:=List.all_eq_true.1 hz t ht
  unfold DataW.trod at h ⊢
  have here:∀ {e:TypeId} {a:Addr} {n:Nat} {y:DataW H × List MemPlace},e ∈ L→(W.cells? base a n).bind (DataW.trod enc P W base (fun _=>true) true fuel e)=some y→(∀ p ∈ y.2,sp p.block=true) →
    (W'.cells? base a n).bind (DataW.trod enc P W' base sp true fuel e)=some y:=fun {e a n y} he h hp=>by
   cases hc:W.cells? base a n with
   | none=>rw [hc] at h;cases h
   | some cs=>rw [hc] at h;rw [cells_keep hb hc];exact ih e cs y he h hp
  split at h
  all_goals first|exact h|skip
  case h_6 =>
   rename_i e a hu
   rw [hu] at hk
   have he:e ∈ L:=memB hk
   cases hc:(W.cells? base a (P.cellsOf e)).bind (DataW.trod enc P W base (fun _=>true) true fuel e) with
   | none=>rw [hc] at h;cases h
   | some y =>
    rw [hc] at h
    obtain rfl:=Option.some.inj h
    rw [here he hc fun p h=>hp p (List.mem_append_right _ h)]
    rfl
  case h_8 =>
   rename_i e a len cap hu
   rw [hu] at hk
   have hk:(L.any (Nat.beq e) && Nat.blt 0 (P.cellsOf e))=true:=hk
   rw [Bool.and_eq_true] at hk
   have he:e ∈ L:=memB hk.1
   dsimp only at h ⊢
   split at h
   ·rename_i hc
    rw [if_pos rfl] at h
    cases h1:(List.range len).mapM (fun i=>(W.cells? base (a.add (i*P.cellsOf e)) (P.cellsOf e)).bind (DataW.trod enc P W base (fun _=>true) true fuel e)) with
    | none=>rw [h1] at h;cases h
    | some elems =>
     rw [h1] at h
     simp only [Option.bind_some] at h
     cases h2:(List.range (cap-len)).mapM (fun j=>(W.cells? base (a.add ((len+j)*P.cellsOf e)) (P.cellsOf e)).bind (DataW.trod enc P W base (fun _=>true) true fuel e)) with
     | none=>rw [h2] at h;cases h
     | some rest =>
      rw [h2] at h
      obtain rfl:=Option.some.inj h
      have hin:∀ y,y ∈ elems++rest→∀ p ∈ y.2,sp p.block=true:=fun y hy p hpy=>hp p (List.mem_append_right _ (List.mem_flatMap.2 ⟨y,hy,hpy⟩))
      rw [mapM_keep h1 fun i y _ hy hf=>here he hf (hin y (List.mem_append_left _ hy))]
      simp only [Option.bind_some]
      have hs:(if sp a.block=true then (List.range (cap-len)).mapM (fun j=>(W'.cells? base (a.add ((len+j)*P.cellsOf e)) (P.cellsOf e)).bind (DataW.trod enc P W' base sp true fuel e)) else some [])=some rest:=by
       split
       ·exact mapM_keep h2 fun i y _ hy hf=>here he hf (hin y (List.mem_append_right _ hy))
       ·rename_i hsp
        cases hr:rest with
        | nil=>rfl
        | cons y r =>
         exfalso
         have hpos:0<P.cellsOf e:=Nat.le_of_ble_eq_true hk.2
         refine hsp (hp (.cell a.block (a.off+0)) (List.mem_append_left _ ?_))
         unfold MemPlace.row
         refine List.mem_map.2 ⟨0,List.mem_range.2 ?_,rfl⟩
         rw [hr]
         exact Nat.mul_pos (by rw [List.length_cons];omega) hpos
      rw [hs,if_pos hc]
      rfl
   ·cases h
  case h_9 =>
   rename_i fs hu
   rw [hu] at hk
   have hk:=List.all_eq_true.1 hk
   split at h
   ·rename_i hc
    rw [if_pos hc]
    obtain ⟨xs,h1,rfl⟩:=Option.map_eq_some_iff.1 h
    rw [mapM_keep h1 fun f y hf' hy hf=>ih _ _ y (memB (hk f hf')) hf fun p hpy=>hp p (List.mem_flatMap.2 ⟨y,hy,hpy⟩)]
    rfl
   ·cases h
  case h_10 =>
   rename_i n e hu
   rw [hu] at hk
   split at h
   ·rename_i hc
    rw [if_pos hc]
    obtain ⟨xs,h1,rfl⟩:=Option.map_eq_some_iff.1 h
    rw [mapM_keep h1 fun f y _ hy hf=>ih _ _ y (memB hk) hf fun p hpy=>hp p (List.mem_flatMap.2 ⟨y,hy,hpy⟩)]
    rfl
   ·cases h
  case h_14 =>
   rename_i b hu
   rw [hu] at hk
   cases ho:W.heap[b]? with
   | none=>rw [ho] at h;cases h
   | some o =>
    rw [hb _ _ ho]
    rw [ho] at h
    cases o with
    | map es clock =>
     dsimp only at h ⊢
     split at h
     ·rename_i hc
      rw [if_pos hc]
      obtain ⟨entries,h1,h⟩:=Option.bind_eq_some_iff.1 h
      split at h
      ·rename_i hr
       obtain rfl:=Option.some.inj h
       rw [mapM_keep h1 fun f y _ hy hf=>?_]
       ·simp only [Option.bind_some]
        rw [if_pos hr]
       ·obtain ⟨key,hkey,hf⟩:=Option.bind_eq_some_iff.1 hf
        rw [hkey]
        simp only [Option.bind_some]
        split at hf
        ·rename_i hfm
         rw [if_pos hfm]
         obtain ⟨z,hz',rfl⟩:=Option.map_eq_some_iff.1 hf
         rw [ih _ _ z (memB hk) hz' fun p hpz=>hp p (List.mem_cons_of_mem _ (List.mem_flatMap.2 ⟨_,hy,hpz⟩))]
         rfl
        ·cases hf
      ·cases h
     ·cases h
    | _=>cases h
theorem trodAll_keep (hz:celledB P L=true) (hb:∀ (b:Nat) (o:Obj),W.heap[b]? = some o→W'.heap[b]? = some o):∀ (ts:List TypeId) (vs:List Value) (ds:List (DataW H)) (ps:List MemPlace),(∀ t ∈ ts,t ∈ L) →
  DataW.TrodAll enc P W base (fun _=>true) true ts vs ds ps→(∀ p ∈ ps,sp p.block=true)→DataW.TrodAll enc P W' base sp true ts vs ds ps
 | [],[],[],ps,_,h,_=>h
 | t::ts,v::vs,d::ds,ps,hL,⟨p,q,⟨fuel,h1⟩,h2,he⟩,hp=>by
  subst he
  exact ⟨p,q,⟨fuel,trod_keep hz hb fuel t _ (d,p) (hL t (List.mem_cons_self ..)) h1 fun x hx=>hp x (List.mem_append_left _ hx)⟩,trodAll_keep hz hb ts vs ds q (fun t ht=>hL t (List.mem_cons_of_mem _ ht)) h2 fun x hx=>hp x (List.mem_append_right _ hx),rfl⟩
 | [],[],_::_,_,_,h,_=>h.elim
 | [],_::_,_,_,_,h,_=>h.elim
 | _::_,[],_,_,_,h,_=>h.elim
 | _::_,_::_,[],_,_,h,_=>h.elim
end
open Go.ChangeShapes Go.WideShapes Go.RowKit
section
variable {H:Type} {enc:TypeId × Value→H} {P:Program} {w:World} {base:Nat} {sp:Nat→Bool} {held:Bool}
theorem rd_keep {W W':World} (hb:∀ (b:Nat) (o:Obj),W.heap[b]? = some o→W'.heap[b]? = some o) {sz:Nat} {x:Sl} {cs:List Value} (h:Rd W sz x cs):Rd W' sz x cs :=
 ⟨h.1,h.2.imp id fun ⟨b,off,arr,T,fr,ha,h1,h2⟩=>⟨b,off,arr,T,fr,ha,hb _ _ h1,h2⟩⟩
end
open Go.ChangeShapes Go.WideShapes Go.RowKit Go.Deep
section
variable {H:Type} {enc:TypeId × Value→H} {P:Program} {w:World} {base:Nat} {spare:Nat→Bool} {held:Bool}
theorem rd_cells {a:Addr} {cs:List Value} {len cap sz:Nat} (hlen:cs.length=len*sz) (hpos:0<sz) (hcell:∀ i,i<cs.length→w.cell? (a.add i)=cs[i]?):Rd w sz ⟨some a,len,cap⟩ cs:=by
 refine ⟨hlen,?_⟩
 by_cases h0:len=0
 ·exact .inl h0
 ·right
  have hpos2:0<cs.length:=by rw [hlen];exact Nat.mul_pos (by omega) hpos
  have hc0:=hcell 0 hpos2
  obtain ⟨b,off,spot⟩:=a
  have e0:(Addr.mk b off spot).add 0=⟨b,off,spot⟩:=rfl
  rw [e0,List.getElem?_eq_getElem hpos2] at hc0
  unfold World.cell? at hc0
  dsimp only at hc0
  cases hb:w.heap[b]? with
  | none=>rw [hb] at hc0;cases hc0
  | some o =>
   rw [hb] at hc0
   cases o with
   | cells arr T fr =>
    dsimp only at hc0
    cases spot with
    | some x=>simp at hc0
    | none =>
     refine ⟨b,off,arr,T,fr,rfl,hb,fun i hi=>?_⟩
     have hci:=hcell i hi
     rw [add_mk,cell_of hb] at hci
     rw [hci]
   | _=>cases hc0
end
open Go.ChangeShapes Go.WideShapes Go.RowKit Go.Deep
section
variable {H:Type} {enc:TypeId × Value→H} {P:Program} {w:World} {base:Nat} {spare:Nat→Bool} {held:Bool}
theorem trod_rows {α:Type} {encA:α→List Value} {good:α→Prop} {C:Nat} {t e:TypeId} {fuel:Nat} {v:Value} {y:DataW H × List MemPlace} (ht:P.underlying t=some (.slice e)) (hC:P.cellsOf e=C) (hpos:0<C)
  (hread:∀ (n:Nat) (cs:List Value) (y:DataW H × List MemPlace),cs.length=C→DataW.trod enc P w base spare held n e cs=some y→∃ o:α,cs=encA o∧good o)
  (hd:DataW.trod enc P w base spare held fuel t [v]=some y) :
  ∃ (x:Sl) (xs:List α),v=x.v∧x.len≤x.cap∧x.len=xs.length∧x.cap≤maxLen∧(∀ o ∈ xs,good o)∧Rd w C x (xs.flatMap encA):=by
 rcases DataW.trod_slice ht hd with ⟨hcs,-⟩|⟨a,len,cap,elems,rest,n,_,hcs,-,hb,hl,hm,hlen,hel,-,-⟩
 ·obtain rfl:v=.slice none 0 0:=by simpa using hcs
  exact ⟨⟨none,0,0⟩,[],rfl,Nat.le_refl _,rfl,Nat.zero_le _,(fun o ho=>by cases ho),(Nat.zero_mul _).symm,.inl rfl⟩
 ·obtain rfl:v=.slice (some a) len cap:=by simpa using hcs
  have each:∀ i,i<len→∃ o:α,good o∧(encA o).length=C∧∀ j,j<C→w.cell? (a.add (i*C+j))=(encA o)[j]? := by
   intro i hi
   have h1:=hel i hi
   rw [List.getElem?_eq_getElem (by omega),Option.bind_eq_some_iff] at h1
   obtain ⟨cs',hc,ht'⟩:=h1
   rw [hC] at hc
   obtain ⟨_,hcl,hat⟩:=World.cells?_some hc
   obtain ⟨o,ho,hg⟩:=hread n cs' _ hcl ht'
   refine ⟨o,hg,by rw [← ho];exact hcl,fun j hj=>?_⟩
   rw [← Go.Deep.add_add,hat j hj,ho]
  have hall:∀ k,k≤len→∃ xs:List α,xs.length=k∧(∀ o ∈ xs,good o)∧(xs.flatMap encA).length=k*C∧∀ i,i<k*C→w.cell? (a.add i)=(xs.flatMap encA)[i]? := by
   intro k
   induction k with
   | zero=>exact fun _=>⟨[],rfl,(fun o ho=>by cases ho),by simp,fun i hi=>by omega⟩
   | succ k ih =>
    intro hk
    obtain ⟨xs,h1,h2,h3,h4⟩:=ih (by omega)
    obtain ⟨o,ho,hol,hc⟩:=each k (by omega)
    refine ⟨xs++[o],by simp [h1],fun u hu=>?_,by simp [h3,hol,Nat.succ_mul],fun i hi=>?_⟩
    ·rcases List.mem_append.1 hu with hu|hu
     ·exact h2 u hu
     ·rw [List.mem_singleton.1 hu];exact ho
    ·rw [List.flatMap_append,List.flatMap_singleton]
     by_cases hik:i<k*C
     ·rw [List.getElem?_append_left (by omega),h4 i hik]
     ·rw [List.getElem?_append_right (by omega),h3]
      rw [Nat.succ_mul] at hi
      have:=hc (i-k*C) (by omega)
      rw [show k*C+(i-k*C)=i by omega] at this
      exact this
  obtain ⟨xs,h1,h2,h3,h4⟩:=hall len (Nat.le_refl _)
  exact ⟨⟨some a,len,cap⟩,xs,rfl,hl,h1.symm,hm,h2,rd_cells h3 hpos fun i hi=>h4 i (by rw [← h3];exact hi)⟩
end
end Go.Dec
namespace Go.T
abbrev a35:Go.TypeId:=0
abbrev a11:Go.TypeId:=2
abbrev a10:Go.TypeId:=3
abbrev a4:Go.TypeId:=4
abbrev a34:Go.TypeId:=5
abbrev a31:Go.TypeId:=9
abbrev a18:Go.TypeId:=22
abbrev a27:Go.TypeId:=24
abbrev a13:Go.TypeId:=26
abbrev a2:Go.TypeId:=27
abbrev a16:Go.TypeId:=30
abbrev a19:Go.TypeId:=36
abbrev a1:Go.TypeId:=38
abbrev a25:Go.TypeId:=52
abbrev a32:Go.TypeId:=54
abbrev a26:Go.TypeId:=65
abbrev a24:Go.TypeId:=68
abbrev a33:Go.TypeId:=71
abbrev a21:Go.TypeId:=105
abbrev a12:Go.TypeId:=110
abbrev a5:Go.TypeId:=112
abbrev a22:Go.TypeId:=113
abbrev a28:Go.TypeId:=115
abbrev a17:Go.TypeId:=116
abbrev a15:Go.TypeId:=117
abbrev a29:Go.TypeId:=119
abbrev a7:Go.TypeId:=121
abbrev a3:Go.TypeId:=125
abbrev a23:Go.TypeId:=143
abbrev a14:Go.TypeId:=157
abbrev a6:Go.TypeId:=160
abbrev a9:Go.TypeId:=182
abbrev a20:Go.TypeId:=183
abbrev a8:Go.TypeId:=185
abbrev a0:Go.TypeId:=226
abbrev a36:Go.TypeId:=249
abbrev a30:Go.TypeId:=251
end Go.T
namespace Go.F
abbrev a94:Go.FuncId:=4
abbrev a97:Go.FuncId:=13
abbrev a14:Go.FuncId:=14
abbrev a98:Go.FuncId:=15
abbrev a96:Go.FuncId:=17
abbrev a50:Go.FuncId:=19
abbrev a108:Go.FuncId:=20
abbrev a51:Go.FuncId:=21
abbrev a113:Go.FuncId:=22
abbrev a112:Go.FuncId:=23
abbrev a67:Go.FuncId:=24
abbrev a48:Go.FuncId:=25
abbrev a95:Go.FuncId:=26
abbrev a118:Go.FuncId:=27
abbrev a3:Go.FuncId:=30
abbrev a7:Go.FuncId:=33
abbrev a8:Go.FuncId:=34
abbrev a99:Go.FuncId:=37
abbrev a120:Go.FuncId:=39
abbrev a123:Go.FuncId:=40
abbrev a116:Go.FuncId:=41
abbrev a119:Go.FuncId:=42
abbrev a68:Go.FuncId:=44
abbrev a55:Go.FuncId:=45
abbrev a6:Go.FuncId:=48
abbrev a49:Go.FuncId:=56
abbrev a54:Go.FuncId:=57
abbrev a117:Go.FuncId:=58
abbrev a60:Go.FuncId:=60
abbrev a74:Go.FuncId:=61
abbrev a114:Go.FuncId:=62
abbrev a109:Go.FuncId:=63
abbrev a110:Go.FuncId:=64
abbrev a92:Go.FuncId:=65
abbrev a52:Go.FuncId:=66
abbrev a66:Go.FuncId:=67
abbrev a73:Go.FuncId:=68
abbrev a53:Go.FuncId:=69
abbrev a35:Go.FuncId:=70
abbrev a111:Go.FuncId:=71
abbrev a72:Go.FuncId:=72
abbrev a58:Go.FuncId:=73
abbrev a9:Go.FuncId:=74
abbrev a61:Go.FuncId:=75
abbrev a64:Go.FuncId:=76
abbrev a57:Go.FuncId:=77
abbrev a62:Go.FuncId:=78
abbrev a59:Go.FuncId:=79
abbrev a65:Go.FuncId:=80
abbrev a69:Go.FuncId:=81
abbrev a63:Go.FuncId:=82
abbrev a75:Go.FuncId:=83
abbrev a122:Go.FuncId:=84
abbrev a107:Go.FuncId:=87
abbrev a104:Go.FuncId:=88
abbrev a12:Go.FuncId:=89
abbrev a13:Go.FuncId:=90
abbrev a5:Go.FuncId:=91
abbrev a15:Go.FuncId:=92
abbrev a29:Go.FuncId:=97
abbrev a93:Go.FuncId:=98
abbrev a76:Go.FuncId:=99
abbrev a0:Go.FuncId:=100
abbrev a103:Go.FuncId:=101
abbrev a121:Go.FuncId:=102
abbrev a10:Go.FuncId:=103
abbrev a25:Go.FuncId:=112
abbrev a115:Go.FuncId:=114
abbrev a16:Go.FuncId:=115
abbrev a33:Go.FuncId:=116
abbrev a22:Go.FuncId:=117
abbrev a38:Go.FuncId:=118
abbrev a36:Go.FuncId:=119
abbrev a41:Go.FuncId:=120
abbrev a32:Go.FuncId:=121
abbrev a43:Go.FuncId:=122
abbrev a56:Go.FuncId:=123
abbrev a11:Go.FuncId:=124
abbrev a70:Go.FuncId:=125
abbrev a4:Go.FuncId:=126
abbrev a34:Go.FuncId:=127
abbrev a18:Go.FuncId:=128
abbrev a26:Go.FuncId:=129
abbrev a138:Go.FuncId:=130
abbrev a71:Go.FuncId:=131
abbrev a24:Go.FuncId:=132
abbrev a101:Go.FuncId:=133
abbrev a100:Go.FuncId:=134
abbrev a102:Go.FuncId:=135
abbrev a106:Go.FuncId:=136
abbrev a105:Go.FuncId:=137
abbrev a28:Go.FuncId:=144
abbrev a88:Go.FuncId:=145
abbrev a30:Go.FuncId:=146
abbrev a21:Go.FuncId:=150
abbrev a19:Go.FuncId:=151
abbrev a127:Go.FuncId:=152
abbrev a128:Go.FuncId:=153
abbrev a46:Go.FuncId:=154
abbrev a130:Go.FuncId:=155
abbrev a44:Go.FuncId:=156
abbrev a129:Go.FuncId:=157
abbrev a23:Go.FuncId:=158
abbrev a42:Go.FuncId:=159
abbrev a40:Go.FuncId:=160
abbrev a45:Go.FuncId:=161
abbrev a37:Go.FuncId:=162
abbrev a134:Go.FuncId:=163
abbrev a126:Go.FuncId:=164
abbrev a39:Go.FuncId:=165
abbrev a125:Go.FuncId:=166
abbrev a124:Go.FuncId:=167
abbrev a137:Go.FuncId:=168
abbrev a20:Go.FuncId:=169
abbrev a27:Go.FuncId:=170
abbrev a80:Go.FuncId:=177
abbrev a79:Go.FuncId:=178
abbrev a77:Go.FuncId:=179
abbrev a78:Go.FuncId:=180
abbrev a89:Go.FuncId:=181
abbrev a85:Go.FuncId:=182
abbrev a1:Go.FuncId:=183
abbrev a86:Go.FuncId:=184
abbrev a87:Go.FuncId:=185
abbrev a31:Go.FuncId:=187
abbrev a17:Go.FuncId:=188
abbrev a136:Go.FuncId:=189
abbrev a140:Go.FuncId:=190
abbrev a139:Go.FuncId:=191
abbrev a141:Go.FuncId:=192
abbrev a135:Go.FuncId:=193
abbrev a131:Go.FuncId:=194
abbrev a133:Go.FuncId:=195
abbrev a47:Go.FuncId:=196
abbrev a142:Go.FuncId:=197
abbrev a90:Go.FuncId:=198
abbrev a83:Go.FuncId:=199
abbrev a91:Go.FuncId:=200
abbrev a81:Go.FuncId:=201
abbrev a82:Go.FuncId:=202
abbrev a2:Go.FuncId:=203
abbrev a132:Go.FuncId:=204
abbrev a84:Go.FuncId:=205
end Go.F
namespace Go.Dec
noncomputable abbrev P:Program:=Go.Proofs.Tryz.prog
def okFs:List FuncId:=[2,3,4,5,6,7,8,9,10,11,12,13,14,15,16,17,18,19,20,21,22,23,24,25,26,27,28,29,30,31,32,33,34,35,36,37,38,39,40,41,42,43,44,45,46,47,48,49,50,51,52,53,54,55,56,57,58,59,60,61,62,63,64,65,66,67,68,69,70,71,72,73,74,75,76,77,78,79,80,81,82,83,84,85,86,87,88,89,90,91,92,93,94,95,96,97,98,99,100,101,102,103,104,105,106,107,108,109,110,111,112,113,114,115,116,117,118,119,120,121,122,123,124,125,126,127,128,129,130,131,132,133,134,135,136,137,138,139,140,141,142,143,144,145,146,147,148,149,150,151,152,153,154,155,156,157,158,159,160,161,162,163,164,165,166,167,168,169,170,171,172,173,174,175,176,177,178,179,180,181,182,183,184,185,186,187,188,189,190,191,192,193,194,195,196,197,198,199,200,201,202,203,204,205]
theorem okFs_all:okFs.all (callOk P)=true:=by kernel_rfl
theorem okFs_ok:∀ f ∈ okFs,callOk P f=true:=List.all_eq_true.1 okFs_all
theorem mix:P.follows .mixedOrders=true:=by kernel_rfl
theorem dS {f:FuncId} {fn:Func} {n:Nat} {rv:List RV} {p:Prog} {w:World} {R:List Value→World→Prop} (H:Hints) (args:List Base) (hf:P.funcs[f]? = some fn) (hb:fn.body.isSome=true) (hn:fn.ntmps=n) (hr:rvOf fn.results.toList=rv) (he:zf3 P n ⟨okFs,[]⟩ H rv (bodyOf fn) args=p) (h:p.wp P (fun _=>True) w fun e vs w'=>e=0∧R vs w'):Ret P f (args.map Base.v).toArray w R:=decomp_sound (isFn_of hf hb hn hr) okFs_ok mix args (by rw [he];exact h)
def zf104 (seg gap:Int) (l:Sl) (offset:Int) (most:Int):Prog :=
.call F.a97 [.int .i64 seg,.int .i64 gap] (sG [.int .i64,.int .i64]) (u2 fun (n0 n1:Int) =>
.act (new T.a27) sA (u1 fun a2 =>
.actU (st T.a27 a2 (.agg #[.int .i64 n0,.int .i64 n1])) <|
.call F.a14 [.int .i64 1048576] (.tup [.one .ptr,.one (.int .i64)]) (u2 fun p3 (n4:Int) =>
.lt (.int .i64) (n4) fun (n5:Int) =>
.read True (ld T.a27 a2) (sG [.int .i64,.int .i64]) (u2 fun (n6 n7:Int) =>
.call F.a98 [.pointer p3,.agg #[.int .i64 n6,.int .i64 n7],l.v,.slice none 0 0] (.tup [.one .ptr,.one .slc,.one (.int .i64)]) (u3 fun p8 l9 (n10:Int) =>
.lt (.int .i64) (n10) fun (n11:Int) =>
.ite (Option.isNone p8) (
.done 0 [.bool false]) (
.lt (.int .i64) (Int.tmod most 5) fun (n12:Int) =>
.bind 1 [.one (.int .i64)] (
.ite (decide (n12<0)) (
.lt (.int .i64) (IntKind.wrap .i64 (0-n12)) fun (n13:Int) =>
.done 1 [.int .i64 n13]) (
.done 1 [.int .i64 n12])) (u1 fun (n14:Int) =>
.lt (.int .i64) (IntKind.wrap .i64 (n14+1)) fun (n15:Int) =>
.call F.a50 [.pointer p8] (sI .i64) (u1 fun (n16:Int) =>
.bind 1 [.one (.int .i64)] (
.ite (decide (n16>0)) (
.call F.a50 [.pointer p8] (sI .i64) (u1 fun (n17:Int) =>
.must (n17≠0) <|
.lt (.int .i64) (Int.tmod offset n17) fun (n18:Int) =>
.done 1 [.int .i64 n18])) (
.done 1 [.int .i64 offset])) (u1 fun (n19:Int) =>
.bind 1 [.one .bool] (
.ite (decide (n19<0)) (
.done 1 [.bool true]) (
.call F.a50 [.pointer p8] (sI .i64) (u1 fun (n20:Int) =>
.done 1 [.bool (n20 == 0)]))) (u1 fun b21 =>
.bind 1 [.one (.int .i64)] (
.ite (b21) (
.done 1 [.int .i64 0]) (
.done 1 [.int .i64 n19])) (u1 fun (n22:Int) =>
.bind 1 [.one .slc] (
.loop 2 [.one .slc,.one (.int .i64)] (⟨none,0,0⟩,(0,())) (u2 fun l23 (n24:Int) =>
.ite (decide (n24<((l9.len:Nat):Int))) (
.ex [.adr] (c1 fun a25=>0≤n24∧n24<((l9.len:Nat):Int)∧l9.a=some a25) (u1 fun a26 =>
.read True (ld T.a1 (Addr.add a26 (Int.toNat n24*7))) (sG [.int .i64,.int .i64,.int .i64,.int .i64,.int .i64,.int .i64,.slc]) (u7 fun (n27 n28 n29 n30 n31 n32:Int) l33 =>
.act (new T.a1) sA (u1 fun a34 =>
.actU (st T.a1 a34 (.agg #[.int .i64 n27,.int .i64 n28,.int .i64 n29,.int .i64 n30,.int .i64 n31,.int .i64 n32,l33.v])) <|
.read True (ld T.a1 a34) (sG [.int .i64,.int .i64,.int .i64,.int .i64,.int .i64,.int .i64,.slc]) (u7 fun (n35 n36 n37 n38 n39 n40:Int) l41 =>
.call F.a108 [.agg #[.int .i64 n35,.int .i64 n36,.int .i64 n37,.int .i64 n38,.int .i64 n39,.int .i64 n40,l41.v],.int .i64 n22] (.tup [.agg [.int .i64,.int .i64,.int .i64,.int .i64,.int .i64,.int .i64,.slc],.one .bool]) (u8 fun (n42 n43 n44 n45 n46 n47:Int) l48 b49 =>
.act (new T.a1) sA (u1 fun a50 =>
.actU (st T.a1 a50 (.agg #[.int .i64 n42,.int .i64 n43,.int .i64 n44,.int .i64 n45,.int .i64 n46,.int .i64 n47,l48.v])) <|
.lt (.bool) (b49) fun b51 =>
.bind 3 [.one .slc] (
.ite (b51) (
.read True (ld T.a1 a50) (sG [.int .i64,.int .i64,.int .i64,.int .i64,.int .i64,.int .i64,.slc]) (u7 fun (n52 n53 n54 n55 n56 n57:Int) l58 =>
.act (Instr.buildSlice T.a18 1 #[(0,.agg #[.int .i64 n52,.int .i64 n53,.int .i64 n54,.int .i64 n55,.int .i64 n56,.int .i64 n57,l58.v])]) sL (u1 fun l59 =>
.act (app T.a18 T.a18 T.a18 l23.v l59.v) sL (u1 fun l60 =>
.done 3 [l60.v])))) (
.done 3 [l23.v])) (u1 fun l61 =>
.done 2 [l61.v,.int .i64 (IntKind.wrap .i64 (n24+1))])))))))) (
.done 1 [l23.v]))) (u1 fun l62 =>
.lt (.int .i64) (n22) fun (n63:Int) =>
.bind 1 [.one .slc] (
.loop 2 [.one .slc,.one (.int .i64),.one (.int .i64)] (⟨none,0,0⟩,(n63,(0,()))) (u3 fun l64 (n65 n66:Int) =>
.bind 3 [.one .bool] (
.ite (decide (n66<100)) (
.call F.a50 [.pointer p8] (sI .i64) (u1 fun (n67:Int) =>
.done 3 [.bool (decide (n65<n67))])) (
.done 3 [.bool false])) (u1 fun b68 =>
.ite (b68) (
.call F.a51 [.pointer p8,.int .i64 n65,.int .i64 n15] (.tup [.one .slc,.one (.int .i64)]) (u2 fun l69 (n70:Int) =>
.lt (.int .i64) (n70) fun (n71:Int) =>
.ite (n71 != 0 || ((l69.len:Nat):Int) == 0 || decide (((l69.len:Nat):Int)>n15)) (
.done 0 [.bool false]) (
.act (app T.a18 T.a18 T.a18 l64.v l69.v) sL (u1 fun l72 =>
.ex [.adr] (c1 fun a73=>0≤IntKind.wrap .i64 (((l69.len:Nat):Int)-1)∧IntKind.wrap .i64 (((l69.len:Nat):Int)-1)<((l69.len:Nat):Int)∧l69.a=some a73) (u1 fun a74 =>
.read True (ld T.a1 (Addr.add a74 (Int.toNat (IntKind.wrap .i64 (((l69.len:Nat):Int)-1))*7))) (sG [.int .i64,.int .i64,.int .i64,.int .i64,.int .i64,.int .i64,.slc]) (u7 fun (n75 n76 n77 n78 n79 n80:Int) l81 =>
.act (new T.a1) sA (u1 fun a82 =>
.actU (st T.a1 a82 (.agg #[.int .i64 n75,.int .i64 n76,.int .i64 n77,.int .i64 n78,.int .i64 n79,.int .i64 n80,l81.v])) <|
.tick <|
.hold True (ld T.a11 (Addr.add a82 0)) (sI .i64) (u1 fun (n83:Int) =>
.read True (ld T.a1 a82) (sG [.int .i64,.int .i64,.int .i64,.int .i64,.int .i64,.int .i64,.slc]) (u7 fun (n84 n85 n86 n87 n88 n89:Int) l90 =>
.call F.a113 [.agg #[.int .i64 n84,.int .i64 n85,.int .i64 n86,.int .i64 n87,.int .i64 n88,.int .i64 n89,l90.v]] (sI .i64) (u1 fun (n91:Int) =>
.lt (.int .i64) (IntKind.wrap .i64 (n83+n91)) fun (n92:Int) =>
.untick <|
.lt (.int .i64) (IntKind.wrap .i64 (n66+1)) fun (n93:Int) =>
.done 2 [l72.v,.int .i64 n92,.int .i64 n93])))))))))) (
.done 1 [l64.v])))) (u1 fun l94 =>
.call F.a50 [.pointer p8] (sI .i64) (u1 fun (n95:Int) =>
.call F.a51 [.pointer p8,.int .i64 n95,.int .i64 n15] (.tup [.one .slc,.one (.int .i64)]) (u2 fun l96 (n97:Int) =>
.lt (.int .i64) (n97) fun (n98:Int) =>
.call F.a50 [.pointer p8] (sI .i64) (u1 fun (n99:Int) =>
.call F.a51 [.pointer p8,.int .i64 (IntKind.wrap .i64 (n99+1)),.int .i64 n15] (.tup [.one .slc,.one (.int .i64)]) (u2 fun l100 (n101:Int) =>
.lt (.int .i64) (n101) fun (n102:Int) =>
.bind 1 [.one .bool] (
.call F.a112 [l94.v,l62.v] sB (u1 fun b103 =>
.ite (b103 && ((l96.len:Nat):Int) == 0 && n98 == 0 && n102 == 8) (
.call F.a96 [] sB (u1 fun b104 =>
.lt (.bool) (b104) fun b105 =>
.done 1 [.bool b105])) (
.done 1 [.bool false]))) (u1 fun b106 =>
.done 0 [.bool b106]))))))))))))))))))
theorem zf104_calls (seg gap:Int) (l:Sl) (offset most:Int) {w:World} {R:List Value→World→Prop} (h:(zf104 seg gap l offset most).wp P (fun _=>True) w fun e vs w'=>e=0∧R vs w'):Ret P F.a94 #[.int .i64 seg,.int .i64 gap,.slice l.a l.len l.cap,.int .i64 offset,.int .i64 most] w R:=dS (n:=170) (rv:=[.tmp 10]) { cnd:=[(32838,[(3,.one (.int .i64))]),(110680464442257375284,[(4,.one (.int .i64))]),(70835497243044678238267,[(3,.one (.int .i64))]),(1188422437713965063903696126035,[(17,.one .slc)])],blk:=[(0,[(17,.one .slc)]),(2,[(22,.one .slc)])],reg:=[(12,[(70,.one .bool)]),(25,[(97,.one .bool)]),(35,[(10,.one .bool)])],lps:=[(0,[(17,.one .slc),(73,.one (.int .i64))]),(2,[(22,.one .slc),(23,.one (.int .i64)),(24,.one (.int .i64))])] } [.val (.int .i64 seg),.val (.int .i64 gap),.val (.slice l.a l.len l.cap),.val (.int .i64 offset),.val (.int .i64 most)] Go.Proofs.Tryz.func4 (by kernel_rfl) (by kernel_rfl) (by kernel_rfl) (by kernel_rfl) h
def zf106 (seg:Int) (gap:Int):Prog :=
.act (new T.a27) sA (u1 fun a0 =>
.lt (.int .i64) (Int.tmod seg 400) fun (n1:Int) =>
.lt (.int .i64) (Int.tmod gap 100) fun (n2:Int) =>
.bind 1 [.one (.int .i64)] (
.ite (decide (n1<0)) (
.lt (.int .i64) (IntKind.wrap .i64 (0-n1)) fun (n3:Int) =>
.done 1 [.int .i64 n3]) (
.done 1 [.int .i64 n1])) (u1 fun (n4:Int) =>
.bind 1 [.one (.int .i64)] (
.ite (decide (n2<0)) (
.lt (.int .i64) (IntKind.wrap .i64 (0-n2)) fun (n5:Int) =>
.done 1 [.int .i64 n5]) (
.done 1 [.int .i64 n2])) (u1 fun (n6:Int) =>
.actU (st T.a27 a0 (.agg #[.int .i64 (IntKind.wrap .i64 (64+n4)),.int .i64 (IntKind.wrap .i64 (1+n6))])) <|
.read True (ld T.a27 a0) (sG [.int .i64,.int .i64]) (u2 fun (n7 n8:Int) =>
.done 0 [.agg #[.int .i64 n7,.int .i64 n8]]))))
theorem zf106_calls (seg gap:Int) {w:World} {R:List Value→World→Prop} (h:(zf106 seg gap).wp P (fun _=>True) w fun e vs w'=>e=0∧R vs w'):Ret P F.a97 #[.int .i64 seg,.int .i64 gap] w R:=dS (n:=22) (rv:=[.cell 4 24]) { cnd:=[(25169930,[(0,.one (.int .i64))]),(402661390,[(1,.one (.int .i64))])],blk:=[],reg:=[],lps:=[] } [.val (.int .i64 seg),.val (.int .i64 gap)] Go.Proofs.Tryz.func13 (by kernel_rfl) (by kernel_rfl) (by kernel_rfl) (by kernel_rfl) h
def zf14 (room:Int):Prog :=
.ite (decide (room<0) || decide (room>4194304)) (
.done 0 [.pointer none,.int .i64 2]) (
.act (Instr.makeMap T.a12 none) sM (u1 fun m0 =>
.act (Instr.box T.a5 (.agg #[.int .i64 (-1),.bool false,.int .i64 room,.int .i64 0,.map m0])) sA (u1 fun a1 =>
.done 0 [.pointer (some a1),.int .i64 0])))
theorem zf14_calls (room:Int) {w:World} {R:List Value→World→Prop} (h:(zf14 room).wp P (fun _=>True) w fun e vs w'=>e=0∧R vs w'):Ret P F.a14 #[.int .i64 room] w R:=dS (n:=15) (rv:=[.tmp 2,.tmp 3]) { cnd:=[],blk:=[],reg:=[],lps:=[] } [.val (.int .i64 room)] Go.Proofs.Tryz.func14 (by kernel_rfl) (by kernel_rfl) (by kernel_rfl) (by kernel_rfl) h
def zf107 (d:Option Addr) (c_0 c_1:Int) (l:Sl) (syncs:Sl):Prog :=
.act (Instr.box T.a27 (.agg #[.int .i64 c_0,.int .i64 c_1])) sA (u1 fun a0 =>
.read True (ld T.a27 a0) (sG [.int .i64,.int .i64]) (u2 fun (n1 n2:Int) =>
.call F.a67 [.pointer d,.string (ByteArray.mk #[113]),.agg #[.int .i64 n1,.int .i64 n2]] (.tup [.one .ptr,.one (.int .i64)]) (u2 fun p3 (n4:Int) =>
.lt (.int .i64) (n4) fun (n5:Int) =>
.ite (n5 != 0 || Option.isNone p3) (
.done 0 [.pointer none,.slice none 0 0,.int .i64 0]) (
.act (Instr.box T.a32 (.agg #[.int .i64 4194304,.int .i64 1,.slice none 0 0])) sA (u1 fun a6 =>
.bind 1 [.one (.int .i64)] (
.loop 2 [.one (.int .i64),.one (.int .i64)] (0,(0,())) (u2 fun (n7 n8:Int) =>
.ite (decide (n8<((l.len:Nat):Int))) (
.ex [.adr] (c1 fun a9=>0≤n8∧n8<((l.len:Nat):Int)∧l.a=some a9) (u1 fun a10 =>
.read True (ld T.a1 (Addr.add a10 (Int.toNat n8*7))) (sG [.int .i64,.int .i64,.int .i64,.int .i64,.int .i64,.int .i64,.slc]) (u7 fun (n11 n12 n13 n14 n15 n16:Int) l17 =>
.act (new T.a1) sA (u1 fun a18 =>
.lt (.int .i64) (n8) fun (n19:Int) =>
.actU (st T.a1 a18 (.agg #[.int .i64 n11,.int .i64 n12,.int .i64 n13,.int .i64 n14,.int .i64 n15,.int .i64 n16,l17.v])) <|
.ite (decide (n19≥20)) (
.done 1 [.int .i64 n7]) (
.read True (ld T.a1 a18) (sG [.int .i64,.int .i64,.int .i64,.int .i64,.int .i64,.int .i64,.slc]) (u7 fun (n20 n21 n22 n23 n24 n25:Int) l26 =>
.call F.a95 [.agg #[.int .i64 n20,.int .i64 n21,.int .i64 n22,.int .i64 n23,.int .i64 n24,.int .i64 n25,l26.v]] (sG [.int .i64,.int .i64,.int .i64,.int .i64,.int .i64,.int .i64,.slc]) (u7 fun (n27 n28 n29 n30 n31 n32:Int) l33 =>
.act (new T.a1) sA (u1 fun a34 =>
.actU (st T.a1 a34 (.agg #[.int .i64 n27,.int .i64 n28,.int .i64 n29,.int .i64 n30,.int .i64 n31,.int .i64 n32,l33.v])) <|
.bind 3 [.one (.int .i64)] (
.tick <|
.hold True (ld T.a25 (Addr.add a6 2)) sL (u1 fun l35 =>
.hold True (ld T.a1 a34) (sG [.int .i64,.int .i64,.int .i64,.int .i64,.int .i64,.int .i64,.slc]) (u7 fun (n36 n37 n38 n39 n40 n41:Int) l42 =>
.both (
.act (Instr.box T.a32 (.agg #[.int .i64 0,.int .i64 0,l35.v])) sA (u1 fun a43 =>
.act (Instr.buildSlice T.a18 1 #[(0,.agg #[.int .i64 n36,.int .i64 n37,.int .i64 n38,.int .i64 n39,.int .i64 n40,.int .i64 n41,l42.v])]) sL (u1 fun l44 =>
.untick <|
.call F.a120 [.pointer (some a43),l44.v] (.tup [.one .slc,.one (.int .i64)]) (u2 fun l45 (n46:Int) =>
.lt (.int .i64) (n46) fun (n47:Int) =>
.untick <|
.done 3 [.int .i64 n47])))) (
.act (Instr.buildSlice T.a18 1 #[(0,.agg #[.int .i64 n36,.int .i64 n37,.int .i64 n38,.int .i64 n39,.int .i64 n40,.int .i64 n41,l42.v])]) sL (u1 fun l48 =>
.act (Instr.box T.a32 (.agg #[.int .i64 0,.int .i64 0,l35.v])) sA (u1 fun a49 =>
.untick <|
.call F.a120 [.pointer (some a49),l48.v] (.tup [.one .slc,.one (.int .i64)]) (u2 fun l50 (n51:Int) =>
.lt (.int .i64) (n51) fun (n52:Int) =>
.untick <|
.done 3 [.int .i64 n52]))))))) (u1 fun (n53:Int) =>
.read True (ld T.a1 a34) (sG [.int .i64,.int .i64,.int .i64,.int .i64,.int .i64,.int .i64,.slc]) (u7 fun (n54 n55 n56 n57 n58 n59:Int) l60 =>
.act (Instr.buildSlice T.a18 1 #[(0,.agg #[.int .i64 n54,.int .i64 n55,.int .i64 n56,.int .i64 n57,.int .i64 n58,.int .i64 n59,l60.v])]) sL (u1 fun l61 =>
.call F.a48 [.pointer p3,l61.v] (.tup [.one (.int .i64),.one (.int .i64)]) (u2 fun (n62 n63:Int) =>
.lt (.int .i64) (n62) fun (n64:Int) =>
.lt (.int .i64) (n63) fun (n65:Int) =>
.ite (n65 == 9) (
.read True (ld T.a1 a34) (sG [.int .i64,.int .i64,.int .i64,.int .i64,.int .i64,.int .i64,.slc]) (u7 fun (n66 n67 n68 n69 n70 n71:Int) l72 =>
.act (Instr.buildSlice T.a18 1 #[(0,.agg #[.int .i64 n66,.int .i64 n67,.int .i64 n68,.int .i64 n69,.int .i64 n70,.int .i64 n71,l72.v])]) sL (u1 fun l73 =>
.call F.a118 [.pointer (some a6),l73.v] (.tup [.one (.int .i64),.one (.int .i64)]) (u2 fun (n74 n75:Int) =>
.done 1 [.int .i64 n7])))) (
.ite (n65 != n53) (
.done 0 [.pointer none,.slice none 0 0,.int .i64 0]) (
.read True (ld T.a1 a34) (sG [.int .i64,.int .i64,.int .i64,.int .i64,.int .i64,.int .i64,.slc]) (u7 fun (n76 n77 n78 n79 n80 n81:Int) l82 =>
.act (Instr.buildSlice T.a18 1 #[(0,.agg #[.int .i64 n76,.int .i64 n77,.int .i64 n78,.int .i64 n79,.int .i64 n80,.int .i64 n81,l82.v])]) sL (u1 fun l83 =>
.call F.a118 [.pointer (some a6),l83.v] (.tup [.one (.int .i64),.one (.int .i64)]) (u2 fun (n84 n85:Int) =>
.bind 3 [.one .bool] (
.ex [.adr] (c1 fun a86=>decide (n19<((syncs.len:Nat):Int))=true→0≤n19∧n19<((syncs.len:Nat):Int)∧syncs.a=some a86) (u1 fun a87 =>
.read (decide (n19<((syncs.len:Nat):Int))=true) (ld T.a4 (Addr.add a87 (Int.toNat n19*1))) sB (u1 fun b88 =>
.ite (decide (n19<((syncs.len:Nat):Int)) && b88) (
.call F.a55 [.pointer p3] (sI .i64) (u1 fun (n89:Int) =>
.done 3 [.bool (n89 == 0)])) (
.done 3 [.bool false])))) (u1 fun b90 =>
.bind 3 [.one (.int .i64)] (
.ite (b90) (
.call F.a117 [.pointer (some a6)] sL (u1 fun l91 =>
.lt (.int .i64) (((l91.len:Nat):Int)) fun (n92:Int) =>
.done 3 [.int .i64 n92])) (
.done 3 [.int .i64 n7])) (u1 fun (n93:Int) =>
.done 2 [.int .i64 n93,.int .i64 (IntKind.wrap .i64 (n8+1))]))))))))))))))))))) (
.done 1 [.int .i64 n7]))) (u1 fun (n94:Int) =>
.call F.a117 [.pointer (some a6)] sL (u1 fun l95 =>
.lt (.int .i64) (n94) fun (n96:Int) =>
.done 0 [.pointer p3,l95.v,.int .i64 n96])))))))
theorem zf107_calls (d:Option Addr) (c_0 c_1:Int) (l syncs:Sl) {w:World} {R:List Value→World→Prop} (h:(zf107 d c_0 c_1 l syncs).wp P (fun _=>True) w fun e vs w'=>e=0∧R vs w'):Ret P F.a98 #[.pointer d,.agg #[.int .i64 c_0,.int .i64 c_1],.slice l.a l.len l.cap,.slice syncs.a syncs.len syncs.cap] w R:=dS (n:=102) (rv:=[.tmp 8,.tmp 9,.tmp 10]) { cnd:=[(567907468902246771870523103117405,[(14,.one (.int .i64))])],blk:=[(0,[(14,.one (.int .i64))])],reg:=[(11,[(19,.one (.int .i64))]),(18,[(93,.one .bool)])],lps:=[(0,[(14,.one (.int .i64)),(38,.one (.int .i64))])] } [.val (.pointer d),.val (.agg #[.int .i64 c_0,.int .i64 c_1]),.val (.slice l.a l.len l.cap),.val (.slice syncs.a syncs.len syncs.cap)] Go.Proofs.Tryz.func15 (by kernel_rfl) (by kernel_rfl) (by kernel_rfl) (by kernel_rfl) h
def towpathlaw06_awake  : Prog :=
.call F.a14 [.int .i64 1000] (.tup [.one .ptr,.one (.int .i64)]) (u2 fun p0 (n1:Int) =>
.lt (.int .i64) (n1) fun (n2:Int) =>
.call F.a67 [.pointer p0,.string (ByteArray.mk #[112]),.agg #[.int .i64 64,.int .i64 1]] (.tup [.one .ptr,.one (.int .i64)]) (u2 fun p3 (n4:Int) =>
.lt (.int .i64) (n4) fun (n5:Int) =>
.ite (n5 != 0 || Option.isNone p3) (
.done 0 [.bool false]) (
.call F.a99 [.string (ByteArray.mk #[97]),.string (ByteArray.mk #[120])] (sG [.int .i64,.int .i64,.int .i64,.int .i64,.int .i64,.int .i64,.slc]) (u7 fun (n6 n7 n8 n9 n10 n11:Int) l12 =>
.act (Instr.buildSlice T.a18 1 #[(0,.agg #[.int .i64 n6,.int .i64 n7,.int .i64 n8,.int .i64 n9,.int .i64 n10,.int .i64 n11,l12.v])]) sL (u1 fun l13 =>
.call F.a48 [.pointer p3,l13.v] (.tup [.one (.int .i64),.one (.int .i64)]) (u2 fun (n14 n15:Int) =>
.lt (.int .i64) (n14) fun (n16:Int) =>
.lt (.int .i64) (n15) fun (n17:Int) =>
.call F.a99 [.string (ByteArray.mk #[97]),.string (ByteArray.mk #[120])] (sG [.int .i64,.int .i64,.int .i64,.int .i64,.int .i64,.int .i64,.slc]) (u7 fun (n18 n19 n20 n21 n22 n23:Int) l24 =>
.act (Instr.buildSlice T.a18 1 #[(0,.agg #[.int .i64 n18,.int .i64 n19,.int .i64 n20,.int .i64 n21,.int .i64 n22,.int .i64 n23,l24.v])]) sL (u1 fun l25 =>
.call F.a48 [.pointer p3,l25.v] (.tup [.one (.int .i64),.one (.int .i64)]) (u2 fun (n26 n27:Int) =>
.lt (.int .i64) (n26) fun (n28:Int) =>
.lt (.int .i64) (n27) fun (n29:Int) =>
.call F.a99 [.string (ByteArray.mk #[97]),.string (ByteArray.mk #[120])] (sG [.int .i64,.int .i64,.int .i64,.int .i64,.int .i64,.int .i64,.slc]) (u7 fun (n30 n31 n32 n33 n34 n35:Int) l36 =>
.act (Instr.buildSlice T.a18 1 #[(0,.agg #[.int .i64 n30,.int .i64 n31,.int .i64 n32,.int .i64 n33,.int .i64 n34,.int .i64 n35,l36.v])]) sL (u1 fun l37 =>
.call F.a48 [.pointer p3,l37.v] (.tup [.one (.int .i64),.one (.int .i64)]) (u2 fun (n38 n39:Int) =>
.lt (.int .i64) (n38) fun (n40:Int) =>
.lt (.int .i64) (n39) fun (n41:Int) =>
.call F.a54 [.pointer p3] sL (u1 fun l42 =>
.call F.a8 [.pointer p0,.string (ByteArray.mk #[112,45,48,48,48,48,48,48,48,48,48,48,48,46,108,111,103])] (.tup [.one .slc,.one (.int .i64)]) (u2 fun l43 (n44:Int) =>
.lt (.int .i64) (n44) fun (n45:Int) =>
.ex [.adr] (c1 fun a46=>(n16 == 0 && n17 == 0 && n28 == 1 && n29 == 0 && n40 == 2 && n41 == 0 && ((l42.len:Nat):Int) == 2)=true→(0:Int)≤1∧1<((l42.len:Nat):Int)∧l42.a=some a46) (u1 fun a47 =>
.read ((n16 == 0 && n17 == 0 && n28 == 1 && n29 == 0 && n40 == 2 && n41 == 0 && ((l42.len:Nat):Int) == 2)=true) (ld T.a11 (Addr.add a47 1)) (sI .i64) (u1 fun (n48:Int) =>
.ex [.adr] (c1 fun a49=>(n16 == 0 && n17 == 0 && n28 == 1 && n29 == 0 && n40 == 2 && n41 == 0 && ((l42.len:Nat):Int) == 2 && n48 == 2 && ((l43.len:Nat):Int) == 53)=true→(0:Int)≤0∧0<((l43.len:Nat):Int)∧l43.a=some a49) (u1 fun a50 =>
.read ((n16 == 0 && n17 == 0 && n28 == 1 && n29 == 0 && n40 == 2 && n41 == 0 && ((l42.len:Nat):Int) == 2 && n48 == 2 && ((l43.len:Nat):Int) == 53)=true) (ld T.a34 (Addr.add a50 0)) (sI .u8) (u1 fun (n51:Int) =>
.ex [.adr] (c1 fun a52=>(n16 == 0 && n17 == 0 && n28 == 1 && n29 == 0 && n40 == 2 && n41 == 0 && ((l42.len:Nat):Int) == 2 && n48 == 2 && ((l43.len:Nat):Int) == 53 && n51 == 3)=true→(0:Int)≤4∧4<((l43.len:Nat):Int)∧l43.a=some a52) (u1 fun a53 =>
.read ((n16 == 0 && n17 == 0 && n28 == 1 && n29 == 0 && n40 == 2 && n41 == 0 && ((l42.len:Nat):Int) == 2 && n48 == 2 && ((l43.len:Nat):Int) == 53 && n51 == 3)=true) (ld T.a34 (Addr.add a53 4)) (sI .u8) (u1 fun (n54:Int) =>
.lt (.bool) (n16 == 0 && n17 == 0 && n28 == 1 && n29 == 0 && n40 == 2 && n41 == 0 && ((l42.len:Nat):Int) == 2 && n48 == 2 && ((l43.len:Nat):Int) == 53 && n51 == 3 && n54 == 83) fun b55 =>
.done 0 [.bool b55]))))))))))))))))))))
theorem towpathlaw06_awake_calls  {w:World} {R:List Value→World→Prop} (h:(towpathlaw06_awake ).wp P (fun _=>True) w fun e vs w'=>e=0∧R vs w'):Ret P F.a96 #[] w R:=dS (n:=108) (rv:=[.tmp 0]) { cnd:=[],blk:=[],reg:=[],lps:=[] } [] Go.Proofs.Tryz.func17 (by kernel_rfl) (by kernel_rfl) (by kernel_rfl) (by kernel_rfl) h
def zf105 (b_0 b_1 b_2 b_3 b_4 b_5:Int) (b_6:Sl):Prog :=
.act (Instr.box T.a1 (.agg #[.int .i64 b_0,.int .i64 b_1,.int .i64 b_2,.int .i64 b_3,.int .i64 b_4,.int .i64 b_5,b_6.v])) sA (u1 fun a0 =>
.act (new T.a1) sA (u1 fun a1 =>
.read True (ld T.a1 a0) (sG [.int .i64,.int .i64,.int .i64,.int .i64,.int .i64,.int .i64,.slc]) (u7 fun (n2 n3 n4 n5 n6 n7:Int) l8 =>
.act (new T.a1) sA (u1 fun a9 =>
.actU (st T.a1 a9 (.agg #[.int .i64 n2,.int .i64 n3,.int .i64 n4,.int .i64 n5,.int .i64 n6,.int .i64 n7,l8.v])) <|
.actU (st T.a19 (Addr.add a9 6) (.slice none 0 0)) <|
.read True (ld T.a19 (Addr.add a0 6)) sL (u1 fun l10 =>
.bind 1 [] (
.loop 2 [.one (.int .i64)] (0,()) (u1 fun (n11:Int) =>
.ite (decide (n11<((l10.len:Nat):Int))) (
.ex [.adr] (c1 fun a12=>0≤n11∧n11<((l10.len:Nat):Int)∧l10.a=some a12) (u1 fun a13 =>
.read True (ld T.a3 (Addr.add a13 (Int.toNat n11*4))) (sG [.str,.str,.bool,.int .i64]) (u4 fun s14 s15 b16 (n17:Int) =>
.act (new T.a3) sA (u1 fun a18 =>
.lt (.int .i64) (n11) fun (n19:Int) =>
.actU (st T.a3 a18 (.agg #[.string s14,.string s15,.bool b16,.int .i64 n17])) <|
.ite (decide (n19≥6)) (
.done 1 []) (
.read True (ld T.a31 (Addr.add a18 0)) sS (u1 fun s20 =>
.bind 3 [] (
.ite (decide (((ByteArray.size s20:Nat):Int)>30)) (
.read True (ld T.a31 (Addr.add a18 0)) sS (u1 fun s21 =>
.must ((0:Int)≤30∧30≤((ByteArray.size s21:Nat):Int)) <|
.actU (st T.a31 (Addr.add a18 0) (.string (ByteArray.extract s21 0 30))) <|
.done 3 [])) (
.done 3 [])) (u0 <|
.read True (ld T.a31 (Addr.add a18 1)) sS (u1 fun s22 =>
.bind 3 [] (
.ite (decide (((ByteArray.size s22:Nat):Int)>30)) (
.read True (ld T.a31 (Addr.add a18 1)) sS (u1 fun s23 =>
.must ((0:Int)≤30∧30≤((ByteArray.size s23:Nat):Int)) <|
.actU (st T.a31 (Addr.add a18 1) (.string (ByteArray.extract s23 0 30))) <|
.done 3 [])) (
.done 3 [])) (u0 <|
.read True (ld T.a19 (Addr.add a9 6)) sL (u1 fun l24 =>
.read True (ld T.a3 a18) (sG [.str,.str,.bool,.int .i64]) (u4 fun s25 s26 b27 (n28:Int) =>
.act (Instr.buildSlice T.a19 1 #[(0,.agg #[.string s25,.string s26,.bool b27,.int .i64 n28])]) sL (u1 fun l29 =>
.act (app T.a19 T.a19 T.a19 l24.v l29.v) sL (u1 fun l30 =>
.actU (st T.a19 (Addr.add a9 6) l30.v) <|
.done 2 [.int .i64 (IntKind.wrap .i64 (n11+1))]))))))))))))) (
.done 1 []))) (u0 <|
.read True (ld T.a1 a9) (sG [.int .i64,.int .i64,.int .i64,.int .i64,.int .i64,.int .i64,.slc]) (u7 fun (n31 n32 n33 n34 n35 n36:Int) l37 =>
.actU (st T.a1 a1 (.agg #[.int .i64 n31,.int .i64 n32,.int .i64 n33,.int .i64 n34,.int .i64 n35,.int .i64 n36,l37.v])) <|
.read True (ld T.a1 a1) (sG [.int .i64,.int .i64,.int .i64,.int .i64,.int .i64,.int .i64,.slc]) (u7 fun (n38 n39 n40 n41 n42 n43:Int) l44 =>
.done 0 [.agg #[.int .i64 n38,.int .i64 n39,.int .i64 n40,.int .i64 n41,.int .i64 n42,.int .i64 n43,l44.v]]))))))))
theorem zf105_calls (b_0 b_1 b_2 b_3 b_4 b_5:Int) (b_6:Sl) {w:World} {R:List Value→World→Prop} (h:(zf105 b_0 b_1 b_2 b_3 b_4 b_5 b_6).wp P (fun _=>True) w fun e vs w'=>e=0∧R vs w'):Ret P F.a95 #[.agg #[.int .i64 b_0,.int .i64 b_1,.int .i64 b_2,.int .i64 b_3,.int .i64 b_4,.int .i64 b_5,.slice b_6.a b_6.len b_6.cap]] w R:=dS (n:=42) (rv:=[.cell 2 38]) { cnd:=[(257698037781,[]),(65970697666589,[])],blk:=[(0,[])],reg:=[],lps:=[(0,[(11,.one (.int .i64))])] } [.val (.agg #[.int .i64 b_0,.int .i64 b_1,.int .i64 b_2,.int .i64 b_3,.int .i64 b_4,.int .i64 b_5,.slice b_6.a b_6.len b_6.cap])] Go.Proofs.Tryz.func26 (by kernel_rfl) (by kernel_rfl) (by kernel_rfl) (by kernel_rfl) h
def zf127 (l:Option Addr) (bs:Sl):Prog :=
.ite (((bs.len:Nat):Int) == 0) (
.done 0 [.int .i64 0,.int .i64 3]) (
.call F.a120 [.pointer l,bs.v] (.tup [.one .slc,.one (.int .i64)]) (u2 fun l0 (n1:Int) =>
.lt (.int .i64) (n1) fun (n2:Int) =>
.ite (n2 != 0) (
.lt (.int .i64) (n2) fun (n3:Int) =>
.done 0 [.int .i64 0,.int .i64 n3]) (
.bind 1 [.one (.int .i64)] (
.loop 2 [.one (.int .i64),.one (.int .i64)] (0,(0,())) (u2 fun (n4 n5:Int) =>
.ite (decide (n5<((l0.len:Nat):Int))) (
.ex [.adr] (c1 fun a6=>0≤n5∧n5<((l0.len:Nat):Int)∧l0.a=some a6) (u1 fun a7 =>
.read True (ld T.a1 (Addr.add a7 (Int.toNat n5*7))) (sG [.int .i64,.int .i64,.int .i64,.int .i64,.int .i64,.int .i64,.slc]) (u7 fun (n8 n9 n10 n11 n12 n13:Int) l14 =>
.act (new T.a1) sA (u1 fun a15 =>
.actU (st T.a1 a15 (.agg #[.int .i64 n8,.int .i64 n9,.int .i64 n10,.int .i64 n11,.int .i64 n12,.int .i64 n13,l14.v])) <|
.read True (ld T.a1 a15) (sG [.int .i64,.int .i64,.int .i64,.int .i64,.int .i64,.int .i64,.slc]) (u7 fun (n16 n17 n18 n19 n20 n21:Int) l22 =>
.call F.a123 [.agg #[.int .i64 n16,.int .i64 n17,.int .i64 n18,.int .i64 n19,.int .i64 n20,.int .i64 n21,l22.v]] (sI .i64) (u1 fun (n23:Int) =>
.lt (.int .i64) (IntKind.wrap .i64 (n4+n23)) fun (n24:Int) =>
.done 2 [.int .i64 n24,.int .i64 (IntKind.wrap .i64 (n5+1))])))))) (
.done 1 [.int .i64 n4]))) (u1 fun (n25:Int) =>
.ex [.adr] (c1 fun a26=>l=some a26) (u1 fun a27 =>
.read True (ld T.a25 (Addr.add a27 2)) sL (u1 fun l28 =>
.lt (.int .i64) (IntKind.wrap .i64 (((l28.len:Nat):Int)-1)) fun (n29:Int) =>
.bind 1 [.one .bool] (
.tick <|
.ex [.adr] (c1 fun a30=>decide (n29<0)=false→l=some a30) (u1 fun a31 =>
.read (decide (n29<0)=false) (ld T.a25 (Addr.add a31 2)) sL (u1 fun l32 =>
.ex [.adr] (c1 fun a33=>decide (n29<0)=false→0≤n29∧n29<((l32.len:Nat):Int)∧l32.a=some a33) (u1 fun a34 =>
.read (decide (n29<0)=false) (ld T.a18 (Addr.add (Addr.add a34 (Int.toNat n29*3)) 2)) sL (u1 fun l35 =>
.ex [.adr] (c1 fun a36=>decide (n29<0)=false∧decide (((l35.len:Nat):Int)>0)=true→l=some a36) (u1 fun a37 =>
.read (decide (n29<0)=false∧decide (((l35.len:Nat):Int)>0)=true) (ld T.a25 (Addr.add a37 2)) sL (u1 fun l38 =>
.ex [.adr] (c1 fun a39=>decide (n29<0)=false∧decide (((l35.len:Nat):Int)>0)=true→0≤n29∧n29<((l38.len:Nat):Int)∧l38.a=some a39) (u1 fun a40 =>
.read (decide (n29<0)=false∧decide (((l35.len:Nat):Int)>0)=true) (ld T.a33 (Addr.add a40 (Int.toNat n29*3))) (sG [.int .i64,.int .i64,.slc]) (u3 fun (n41 n42:Int) l43 =>
.ex [.adr] (c1 fun a44=>decide (n29<0)=false∧decide (((l35.len:Nat):Int)>0)=true→l=some a44) (u1 fun a45 =>
.hold (decide (n29<0)=false∧decide (((l35.len:Nat):Int)>0)=true) (ld T.a10 (Addr.add a45 0)) (sI .i64) (u1 fun (n46:Int) =>
.ite (decide (n29<0)) (
.untick <|
.done 1 [.bool true]) (
.ite (decide (((l35.len:Nat):Int)>0)) (
.call F.a122 [.agg #[.int .i64 n41,.int .i64 n42,l43.v]] (sI .i64) (u1 fun (n47:Int) =>
.untick <|
.done 1 [.bool (decide (IntKind.wrap .i64 (n47+n25)>n46))])) (
.untick <|
.done 1 [.bool false]))))))))))))) (u1 fun b48 =>
.bind 1 [.one (.int .i64)] (
.ite (b48) (
.ex [.adr] (c1 fun a49=>l=some a49) (u1 fun a50 =>
.read True (ld T.a25 (Addr.add a50 2)) sL (u1 fun l51 =>
.act (app T.a25 T.a25 T.a25 (.slice none 0 0) l51.v) sL (u1 fun l52 =>
.call F.a119 [.pointer l] (sI .i64) (u1 fun (n53:Int) =>
.act (Instr.buildSlice T.a25 1 #[(0,.agg #[.int .i64 n53,.int .i64 0,.slice none 0 0])]) sL (u1 fun l54 =>
.act (app T.a25 T.a25 T.a25 l52.v l54.v) sL (u1 fun l55 =>
.ex [.adr] (c1 fun a56=>l=some a56) (u1 fun a57 =>
.actU (st T.a25 (Addr.add a57 2) l55.v) <|
.lt (.int .i64) (IntKind.wrap .i64 (n29+1)) fun (n58:Int) =>
.done 1 [.int .i64 n58])))))))) (
.done 1 [.int .i64 n29])) (u1 fun (n59:Int) =>
.ex [.adr] (c1 fun a60=>l=some a60) (u1 fun a61 =>
.read True (ld T.a25 (Addr.add a61 2)) sL (u1 fun l62 =>
.ex [.adr] (c1 fun a63=>0≤n59∧n59<((l62.len:Nat):Int)∧l62.a=some a63) (u1 fun a64 =>
.read True (ld T.a18 (Addr.add (Addr.add a64 (Int.toNat n59*3)) 2)) sL (u1 fun l65 =>
.act (app T.a18 T.a18 T.a18 (.slice none 0 0) l65.v) sL (u1 fun l66 =>
.bind 1 [] (
.tick <|
.ex [.adr] (c1 fun a67=>l=some a67) (u1 fun a68 =>
.hold True (ld T.a25 (Addr.add a68 2)) sL (u1 fun l69 =>
.act (app T.a18 T.a18 T.a18 l66.v l0.v) sL (u1 fun l70 =>
.ex [.adr] (c1 fun a71=>0≤n59∧n59<((l69.len:Nat):Int)∧l69.a=some a71) (u1 fun a72 =>
.untick <|
.actU (st T.a18 (Addr.add (Addr.add a72 (Int.toNat n59*3)) 2) l70.v) <|
.untick <|
.done 1 []))))) (u0 <|
.ex [.adr] (c1 fun a73=>(0:Int)≤0∧0<((l0.len:Nat):Int)∧l0.a=some a73) (u1 fun a74 =>
.read True (ld T.a11 (Addr.add (Addr.add a74 0) 0)) (sI .i64) (u1 fun (n75:Int) =>
.lt (.int .i64) (n75) fun (n76:Int) =>
.done 0 [.int .i64 n76,.int .i64 0]))))))))))))))))
theorem zf127_calls (l:Option Addr) (bs:Sl) {w:World} {R:List Value→World→Prop} (h:(zf127 l bs).wp P (fun _=>True) w fun e vs w'=>e=0∧R vs w'):Ret P F.a118 #[.pointer l,.slice bs.a bs.len bs.cap] w R:=dS (n:=115) (rv:=[.tmp 4,.tmp 5]) { cnd:=[(10141127430573379875706469613641,[(11,.one (.int .i64))])],blk:=[(0,[(8,.one (.int .i64))])],reg:=[(13,[(73,.one .bool)]),(20,[])],lps:=[(0,[(8,.one (.int .i64)),(28,.one (.int .i64))])] } [.val (.pointer l),.val (.slice bs.a bs.len bs.cap)] Go.Proofs.Tryz.func27 (by kernel_rfl) (by kernel_rfl) (by kernel_rfl) (by kernel_rfl) h
def zf4 (d:Option Addr) (name:ByteArray) (parts:Sl):Prog :=
.call F.a12 [.pointer d] (sI .i64) (u1 fun (n0:Int) =>
.lt (.int .i64) (n0) fun (n1:Int) =>
.ite (n1 != 0) (
.lt (.int .i64) (n1) fun (n2:Int) =>
.done 0 [.int .i64 n2]) (
.call F.a13 [.string name] sB (u1 fun b3 =>
.ite (not b3) (
.done 0 [.int .i64 2]) (
.bind 1 [.one (.int .i64)] (
.loop 2 [.one (.int .i64),.one (.int .i64)] (0,(0,())) (u2 fun (n4 n5:Int) =>
.ite (decide (n5<((parts.len:Nat):Int))) (
.ex [.adr] (c1 fun a6=>0≤n5∧n5<((parts.len:Nat):Int)∧parts.a=some a6) (u1 fun a7 =>
.read True (ld T.a26 (Addr.add a7 (Int.toNat n5*1))) sL (u1 fun l8 =>
.call F.a5 [.pointer d] (sI .i64) (u1 fun (n9:Int) =>
.ite (decide (((l8.len:Nat):Int)>IntKind.wrap .i64 (n9-n4))) (
.done 0 [.int .i64 5]) (
.lt (.int .i64) (IntKind.wrap .i64 (n4+((l8.len:Nat):Int))) fun (n10:Int) =>
.done 2 [.int .i64 n10,.int .i64 (IntKind.wrap .i64 (n5+1))]))))) (
.done 1 [.int .i64 n4]))) (u1 fun (n11:Int) =>
.ex [.adr] (c1 fun a12=>d=some a12) (u1 fun a13 =>
.read True (ld T.a12 (Addr.add a13 4)) sM (u1 fun m14 =>
.read True (Instr.lookup T.a12 (.map m14) (.string name) true) (.tup [.one .ptr,.one .bool]) (u2 fun p15 b16 =>
.lt (.bool) (b16) fun b17 =>
.bind 1 [.one .ptr] (
.ite (not b17) (
.ex [.adr] (c1 fun a18=>d=some a18) (u1 fun a19 =>
.read True (ld T.a12 (Addr.add a19 4)) sM (u1 fun m20 =>
.read True (Builtin.len_ #[T.a12] T.a10 #[.map m20]) (sI .i64) (u1 fun (n21:Int) =>
.ite (decide (n21≥128)) (
.done 0 [.int .i64 5]) (
.act (Instr.box T.a6 (.agg #[.slice none 0 0,.int .i64 0])) sA (u1 fun a22 =>
.ex [.adr] (c1 fun a23=>d=some a23) (u1 fun a24 =>
.read True (ld T.a12 (Addr.add a24 4)) sM (u1 fun m25 =>
.actU (Instr.mapUpdate T.a12 (.map m25) (.string name) (.pointer (some a22))) <|
.done 1 [.pointer (some a22)])))))))) (
.done 1 [.pointer p15])) (u1 fun p26 =>
.bind 1 [] (
.loop 2 [.one (.int .i64)] (0,()) (u1 fun (n27:Int) =>
.ite (decide (n27<((parts.len:Nat):Int))) (
.ex [.adr] (c1 fun a28=>0≤n27∧n27<((parts.len:Nat):Int)∧parts.a=some a28) (u1 fun a29 =>
.read True (ld T.a26 (Addr.add a29 (Int.toNat n27*1))) sL (u1 fun l30 =>
.ex [.adr] (c1 fun a31=>p26=some a31) (u1 fun a32 =>
.read True (ld T.a26 (Addr.add a32 0)) sL (u1 fun l33 =>
.act (app T.a26 T.a26 T.a26 l33.v l30.v) sL (u1 fun l34 =>
.ex [.adr] (c1 fun a35=>p26=some a35) (u1 fun a36 =>
.actU (st T.a26 (Addr.add a36 0) l34.v) <|
.done 2 [.int .i64 (IntKind.wrap .i64 (n27+1))]))))))) (
.done 1 []))) (u0 <|
.ex [.adr] (c1 fun a37=>d=some a37) (u1 fun a38 =>
.read True (ld T.a10 (Addr.add a38 3)) (sI .i64) (u1 fun (n39:Int) =>
.ex [.adr] (c1 fun a40=>d=some a40) (u1 fun a41 =>
.actU (st T.a10 (Addr.add a41 3) (.int .i64 (IntKind.wrap .i64 (n39+n11)))) <|
.ex [.adr] (c1 fun a42=>d=some a42) (u1 fun a43 =>
.call F.a15 [.pointer (some (Addr.add a43 0))] (.tup []) (u0 <|
.done 0 [.int .i64 0])))))))))))))))
theorem zf4_calls (d:Option Addr) (name:ByteArray) (parts:Sl) {w:World} {R:List Value→World→Prop} (h:(zf4 d name parts).wp P (fun _=>True) w fun e vs w'=>e=0∧R vs w'):Ret P F.a3 #[.pointer d,.string name,.slice parts.a parts.len parts.cap] w R:=dS (n:=96) (rv:=[.tmp 6]) { cnd:=[(604426016319167176900660,[(11,.one .ptr)])],blk:=[(0,[(8,.one (.int .i64))]),(2,[])],reg:=[],lps:=[(0,[(8,.one (.int .i64)),(26,.one (.int .i64))]),(2,[(69,.one (.int .i64))])] } [.val (.pointer d),.val (.string name),.val (.slice parts.a parts.len parts.cap)] Go.Proofs.Tryz.func30 (by kernel_rfl) (by kernel_rfl) (by kernel_rfl) (by kernel_rfl) h
def zf8 (d:Option Addr) (name:ByteArray):Prog :=
.ite (Option.isNone d) (
.done 0 [.slice none 0 0,.int .i64 1]) (
.ex [.adr] (c1 fun a0=>d=some a0) (u1 fun a1 =>
.read True (ld T.a12 (Addr.add a1 4)) sM (u1 fun m2 =>
.read True (Instr.lookup T.a12 (.map m2) (.string name) false) sP (u1 fun p3 =>
.ite (Option.isNone p3) (
.done 0 [.slice none 0 0,.int .i64 3]) (
.ex [.adr] (c1 fun a4=>p3=some a4) (u1 fun a5 =>
.read True (ld T.a26 (Addr.add a5 0)) sL (u1 fun l6 =>
.call F.a0 [l6.v] sL (u1 fun l7 =>
.done 0 [l7.v,.int .i64 0]))))))))
theorem zf8_calls (d:Option Addr) (name:ByteArray) {w:World} {R:List Value→World→Prop} (h:(zf8 d name).wp P (fun _=>True) w fun e vs w'=>e=0∧R vs w'):Ret P F.a8 #[.pointer d,.string name] w R:=dS (n:=22) (rv:=[.tmp 4,.tmp 5]) { cnd:=[],blk:=[],reg:=[],lps:=[] } [.val (.pointer d),.val (.string name)] Go.Proofs.Tryz.func34 (by kernel_rfl) (by kernel_rfl) (by kernel_rfl) (by kernel_rfl) h
def zf108 (key:ByteArray) (value:ByteArray):Prog :=
.act (new T.a1) sA (u1 fun a0 =>
.act (Instr.buildSlice T.a19 1 #[(0,.agg #[.string key,.string value,.bool false,.int .i64 0])]) sL (u1 fun l1 =>
.actU (st T.a1 a0 (.agg #[.int .i64 0,.int .i64 0,.int .i64 0,.int .i64 0,.int .i64 0,.int .i64 0,l1.v])) <|
.read True (ld T.a1 a0) (sG [.int .i64,.int .i64,.int .i64,.int .i64,.int .i64,.int .i64,.slc]) (u7 fun (n2 n3 n4 n5 n6 n7:Int) l8 =>
.done 0 [.agg #[.int .i64 n2,.int .i64 n3,.int .i64 n4,.int .i64 n5,.int .i64 n6,.int .i64 n7,l8.v]])))
theorem zf108_calls (key value:ByteArray) {w:World} {R:List Value→World→Prop} (h:(zf108 key value).wp P (fun _=>True) w fun e vs w'=>e=0∧R vs w'):Ret P F.a99 #[.string key,.string value] w R:=dS (n:=10) (rv:=[.cell 4 38]) { cnd:=[],blk:=[],reg:=[],lps:=[] } [.val (.string key),.val (.string value)] Go.Proofs.Tryz.func37 (by kernel_rfl) (by kernel_rfl) (by kernel_rfl) (by kernel_rfl) h
def zf129 (l:Option Addr) (bs:Sl):Prog :=
.call F.a119 [.pointer l] (sI .i64) (u1 fun (n0:Int) =>
.lt (.int .i64) (n0) fun (n1:Int) =>
.bind 1 [.one .slc] (
.loop 2 [.one (.int .i64),.one .slc,.one (.int .i64)] (n1,(⟨none,0,0⟩,(0,()))) (u3 fun (n2:Int) l3 (n4:Int) =>
.ite (decide (n4<((bs.len:Nat):Int))) (
.ex [.adr] (c1 fun a5=>0≤n4∧n4<((bs.len:Nat):Int)∧bs.a=some a5) (u1 fun a6 =>
.read True (ld T.a1 (Addr.add a6 (Int.toNat n4*7))) (sG [.int .i64,.int .i64,.int .i64,.int .i64,.int .i64,.int .i64,.slc]) (u7 fun (n7 n8 n9 n10 n11 n12:Int) l13 =>
.act (new T.a1) sA (u1 fun a14 =>
.actU (st T.a1 a14 (.agg #[.int .i64 n7,.int .i64 n8,.int .i64 n9,.int .i64 n10,.int .i64 n11,.int .i64 n12,l13.v])) <|
.actU (st T.a11 (Addr.add a14 0) (.int .i64 n2)) <|
.read True (ld T.a1 a14) (sG [.int .i64,.int .i64,.int .i64,.int .i64,.int .i64,.int .i64,.slc]) (u7 fun (n15 n16 n17 n18 n19 n20:Int) l21 =>
.call F.a114 [.agg #[.int .i64 n15,.int .i64 n16,.int .i64 n17,.int .i64 n18,.int .i64 n19,.int .i64 n20,l21.v]] (sI .i64) (u1 fun (n22:Int) =>
.lt (.int .i64) (n22) fun (n23:Int) =>
.ite (n23 != 0) (
.lt (.int .i64) (n23) fun (n24:Int) =>
.done 0 [.slice none 0 0,.int .i64 n24]) (
.read True (ld T.a1 a14) (sG [.int .i64,.int .i64,.int .i64,.int .i64,.int .i64,.int .i64,.slc]) (u7 fun (n25 n26 n27 n28 n29 n30:Int) l31 =>
.act (Instr.buildSlice T.a18 1 #[(0,.agg #[.int .i64 n25,.int .i64 n26,.int .i64 n27,.int .i64 n28,.int .i64 n29,.int .i64 n30,l31.v])]) sL (u1 fun l32 =>
.act (app T.a18 T.a18 T.a18 l3.v l32.v) sL (u1 fun l33 =>
.read True (ld T.a1 a14) (sG [.int .i64,.int .i64,.int .i64,.int .i64,.int .i64,.int .i64,.slc]) (u7 fun (n34 n35 n36 n37 n38 n39:Int) l40 =>
.call F.a113 [.agg #[.int .i64 n34,.int .i64 n35,.int .i64 n36,.int .i64 n37,.int .i64 n38,.int .i64 n39,l40.v]] (sI .i64) (u1 fun (n41:Int) =>
.lt (.int .i64) (IntKind.wrap .i64 (n2+n41)) fun (n42:Int) =>
.done 2 [.int .i64 n42,l33.v,.int .i64 (IntKind.wrap .i64 (n4+1))])))))))))))) (
.done 1 [l3.v]))) (u1 fun l43 =>
.done 0 [l43.v,.int .i64 0]))
theorem zf129_calls (l:Option Addr) (bs:Sl) {w:World} {R:List Value→World→Prop} (h:(zf129 l bs).wp P (fun _=>True) w fun e vs w'=>e=0∧R vs w'):Ret P F.a120 #[.pointer l,.slice bs.a bs.len bs.cap] w R:=dS (n:=36) (rv:=[.tmp 4,.tmp 5]) { cnd:=[],blk:=[(0,[(7,.one .slc)])],reg:=[],lps:=[(0,[(6,.one (.int .i64)),(7,.one .slc),(15,.one (.int .i64))])] } [.val (.pointer l),.val (.slice bs.a bs.len bs.cap)] Go.Proofs.Tryz.func39 (by kernel_rfl) (by kernel_rfl) (by kernel_rfl) (by kernel_rfl) h
def zf132 (b_0 b_1 b_2 b_3 b_4 b_5:Int) (b_6:Sl):Prog :=
.act (Instr.box T.a1 (.agg #[.int .i64 b_0,.int .i64 b_1,.int .i64 b_2,.int .i64 b_3,.int .i64 b_4,.int .i64 b_5,b_6.v])) sA (u1 fun a0 =>
.read True (ld T.a1 a0) (sG [.int .i64,.int .i64,.int .i64,.int .i64,.int .i64,.int .i64,.slc]) (u7 fun (n1 n2 n3 n4 n5 n6:Int) l7 =>
.call F.a107 [.agg #[.int .i64 n1,.int .i64 n2,.int .i64 n3,.int .i64 n4,.int .i64 n5,.int .i64 n6,l7.v]] (.tup [.one .slc,.one (.int .i64)]) (u2 fun l8 (n9:Int) =>
.lt (.int .i64) (n9) fun (n10:Int) =>
.lt (.int .i64) (IntKind.wrap .i64 (((l8.len:Nat):Int)+8)) fun (n11:Int) =>
.done 0 [.int .i64 n11])))
theorem zf132_calls (b_0 b_1 b_2 b_3 b_4 b_5:Int) (b_6:Sl) {w:World} {R:List Value→World→Prop} (h:(zf132 b_0 b_1 b_2 b_3 b_4 b_5 b_6).wp P (fun _=>True) w fun e vs w'=>e=0∧R vs w'):Ret P F.a123 #[.agg #[.int .i64 b_0,.int .i64 b_1,.int .i64 b_2,.int .i64 b_3,.int .i64 b_4,.int .i64 b_5,.slice b_6.a b_6.len b_6.cap]] w R:=dS (n:=13) (rv:=[.tmp 2]) { cnd:=[],blk:=[],reg:=[],lps:=[] } [.val (.agg #[.int .i64 b_0,.int .i64 b_1,.int .i64 b_2,.int .i64 b_3,.int .i64 b_4,.int .i64 b_5,.slice b_6.a b_6.len b_6.cap])] Go.Proofs.Tryz.func40 (by kernel_rfl) (by kernel_rfl) (by kernel_rfl) (by kernel_rfl) h
def zf125 (base:Int) (end_:Int):Prog :=
.act (Instr.buildSlice T.a26 1 #[(0,.int .u8 83)]) sL (u1 fun l0 =>
.call F.a103 [.int .u64 (IntKind.wrap .u64 base)] sL (u1 fun l1 =>
.act (app T.a26 T.a26 T.a26 l0.v l1.v) sL (u1 fun l2 =>
.call F.a103 [.int .u64 (IntKind.wrap .u64 end_)] sL (u1 fun l3 =>
.act (app T.a26 T.a26 T.a26 l2.v l3.v) sL (u1 fun l4 =>
.call F.a104 [l4.v] sL (u1 fun l5 =>
.done 0 [l5.v]))))))
theorem zf125_calls (base end_:Int) {w:World} {R:List Value→World→Prop} (h:(zf125 base end_).wp P (fun _=>True) w fun e vs w'=>e=0∧R vs w'):Ret P F.a116 #[.int .i64 base,.int .i64 end_] w R:=dS (n:=19) (rv:=[.tmp 4]) { cnd:=[],blk:=[],reg:=[],lps:=[] } [.val (.int .i64 base),.val (.int .i64 end_)] Go.Proofs.Tryz.func41 (by kernel_rfl) (by kernel_rfl) (by kernel_rfl) (by kernel_rfl) h
def zf128 (l:Option Addr):Prog :=
.ex [.adr] (c1 fun a0=>l=some a0) (u1 fun a1 =>
.read True (ld T.a25 (Addr.add a1 2)) sL (u1 fun l2 =>
.ite (((l2.len:Nat):Int) == 0) (
.done 0 [.int .i64 0]) (
.tick <|
.ex [.adr] (c1 fun a3=>l=some a3) (u1 fun a4 =>
.read True (ld T.a25 (Addr.add a4 2)) sL (u1 fun l5 =>
.ex [.adr] (c1 fun a6=>l=some a6) (u1 fun a7 =>
.read True (ld T.a25 (Addr.add a7 2)) sL (u1 fun l8 =>
.ex [.adr] (c1 fun a9=>0≤IntKind.wrap .i64 (((l8.len:Nat):Int)-1)∧IntKind.wrap .i64 (((l8.len:Nat):Int)-1)<((l5.len:Nat):Int)∧l5.a=some a9) (u1 fun a10 =>
.read True (ld T.a33 (Addr.add a10 (Int.toNat (IntKind.wrap .i64 (((l8.len:Nat):Int)-1))*3))) (sG [.int .i64,.int .i64,.slc]) (u3 fun (n11 n12:Int) l13 =>
.call F.a121 [.agg #[.int .i64 n11,.int .i64 n12,l13.v]] (sI .i64) (u1 fun (n14:Int) =>
.lt (.int .i64) (n14) fun (n15:Int) =>
.untick <|
.done 0 [.int .i64 n15]))))))))))
theorem zf128_calls (l:Option Addr) {w:World} {R:List Value→World→Prop} (h:(zf128 l).wp P (fun _=>True) w fun e vs w'=>e=0∧R vs w'):Ret P F.a119 #[.pointer l] w R:=dS (n:=22) (rv:=[.tmp 2]) { cnd:=[],blk:=[],reg:=[],lps:=[] } [.val (.pointer l)] Go.Proofs.Tryz.func42 (by kernel_rfl) (by kernel_rfl) (by kernel_rfl) (by kernel_rfl) h
def zf7 (d:Option Addr):Prog :=
.ex [.adr] (c1 fun a0=>Option.isNone d=false→d=some a0) (u1 fun a1 =>
.read (Option.isNone d=false) (ld T.a4 (Addr.add (Addr.add a1 0) 1)) sB (u1 fun b2 =>
.lt (.bool) (Option.isNone d || b2) fun b3 =>
.done 0 [.bool b3]))
theorem zf7_calls (d:Option Addr) {w:World} {R:List Value→World→Prop} (h:(zf7 d).wp P (fun _=>True) w fun e vs w'=>e=0∧R vs w'):Ret P F.a6 #[.pointer d] w R:=dS (n:=12) (rv:=[.tmp 2]) { cnd:=[],blk:=[],reg:=[],lps:=[] } [.val (.pointer d)] Go.Proofs.Tryz.func48 (by kernel_rfl) (by kernel_rfl) (by kernel_rfl) (by kernel_rfl) h
def zf126 (l:Option Addr):Prog :=
.ex [.adr] (c1 fun a0=>l=some a0) (u1 fun a1 =>
.read True (ld T.a25 (Addr.add a1 2)) sL (u1 fun l2 =>
.bind 1 [.one .slc] (
.loop 2 [.one .slc,.one (.int .i64)] (⟨none,0,0⟩,(0,())) (u2 fun l3 (n4:Int) =>
.ite (decide (n4<((l2.len:Nat):Int))) (
.ex [.adr] (c1 fun a5=>0≤n4∧n4<((l2.len:Nat):Int)∧l2.a=some a5) (u1 fun a6 =>
.read True (ld T.a33 (Addr.add a6 (Int.toNat n4*3))) (sG [.int .i64,.int .i64,.slc]) (u3 fun (n7 n8:Int) l9 =>
.act (new T.a33) sA (u1 fun a10 =>
.actU (st T.a33 a10 (.agg #[.int .i64 n7,.int .i64 n8,l9.v])) <|
.read True (ld T.a18 (Addr.add a10 2)) sL (u1 fun l11 =>
.act (app T.a18 T.a18 T.a18 l3.v l11.v) sL (u1 fun l12 =>
.done 2 [l12.v,.int .i64 (IntKind.wrap .i64 (n4+1))])))))) (
.done 1 [l3.v]))) (u1 fun l13 =>
.done 0 [l13.v])))
theorem zf126_calls (l:Option Addr) {w:World} {R:List Value→World→Prop} (h:(zf126 l).wp P (fun _=>True) w fun e vs w'=>e=0∧R vs w'):Ret P F.a117 #[.pointer l] w R:=dS (n:=21) (rv:=[.tmp 2]) { cnd:=[],blk:=[(0,[(3,.one .slc)])],reg:=[],lps:=[(0,[(3,.one .slc),(11,.one (.int .i64))])] } [.val (.pointer l)] Go.Proofs.Tryz.func58 (by kernel_rfl) (by kernel_rfl) (by kernel_rfl) (by kernel_rfl) h
def zf101 (n:Int) (f:Value):Prog :=
.lt (.int .i64) (n) fun (n0:Int) =>
.bind 1 [.one (.int .i64)] (
.loop 2 [.one (.int .i64),.one (.int .i64)] (0,(n0,())) (u2 fun (n1 n2:Int) =>
.ite (decide (n1<n2)) (
.lt (.int .i64) (IntKind.wrap .i64 (Int.fdiv (IntKind.wrap .u64 (IntKind.wrap .i64 (n1+n2))) 2)) fun (n3:Int) =>
.callv (f) [.int .i64 n3] sB (u1 fun b4 =>
.bind 3 [.one (.int .i64),.one (.int .i64)] (
.ite (not b4) (
.lt (.int .i64) (IntKind.wrap .i64 (n3+1)) fun (n5:Int) =>
.done 3 [.int .i64 n5,.int .i64 n2]) (
.lt (.int .i64) (n3) fun (n6:Int) =>
.done 3 [.int .i64 n1,.int .i64 n6])) (u2 fun (n7 n8:Int) =>
.done 2 [.int .i64 n7,.int .i64 n8]))) (
.done 1 [.int .i64 n1]))) (u1 fun (n9:Int) =>
.lt (.int .i64) (n9) fun (n10:Int) =>
.done 0 [.int .i64 n10])
theorem zf101_calls (n:Int) (f:Value) {w:World} {R:List Value→World→Prop} (h:(zf101 n f).wp P (fun _=>True) w fun e vs w'=>e=0∧R vs w'):Ret P F.a92 #[.int .i64 n,f] w R:=dS (n:=26) (rv:=[.tmp 4]) { cnd:=[(120259477525,[(5,.one (.int .i64)),(6,.one (.int .i64))])],blk:=[(0,[(5,.one (.int .i64))])],reg:=[],lps:=[(0,[(5,.one (.int .i64)),(6,.one (.int .i64))])] } [.val (.int .i64 n),.any f] Go.Proofs.Tryz.func65 (by kernel_rfl) (by kernel_rfl) (by kernel_rfl) (by kernel_rfl) h
def zf9 (d:Option Addr) (name:ByteArray):Prog :=
.call F.a12 [.pointer d] (sI .i64) (u1 fun (n0:Int) =>
.lt (.int .i64) (n0) fun (n1:Int) =>
.ite (n1 != 0) (
.lt (.int .i64) (n1) fun (n2:Int) =>
.done 0 [.int .i64 n2]) (
.ex [.adr] (c1 fun a3=>d=some a3) (u1 fun a4 =>
.read True (ld T.a12 (Addr.add a4 4)) sM (u1 fun m5 =>
.read True (Instr.lookup T.a12 (.map m5) (.string name) false) sP (u1 fun p6 =>
.ite (Option.isNone p6) (
.done 0 [.int .i64 3]) (
.call F.a11 [.pointer d,.string name] (.tup []) (u0 <|
.ex [.adr] (c1 fun a7=>d=some a7) (u1 fun a8 =>
.call F.a15 [.pointer (some (Addr.add a8 0))] (.tup []) (u0 <|
.done 0 [.int .i64 0])))))))))
theorem zf9_calls (d:Option Addr) (name:ByteArray) {w:World} {R:List Value→World→Prop} (h:(zf9 d name).wp P (fun _=>True) w fun e vs w'=>e=0∧R vs w'):Ret P F.a9 #[.pointer d,.string name] w R:=dS (n:=25) (rv:=[.tmp 4]) { cnd:=[],blk:=[],reg:=[],lps:=[] } [.val (.pointer d),.val (.string name)] Go.Proofs.Tryz.func74 (by kernel_rfl) (by kernel_rfl) (by kernel_rfl) (by kernel_rfl) h
def zf131 (s_0 s_1:Int) (s_2:Sl):Prog :=
.act (Instr.box T.a33 (.agg #[.int .i64 s_0,.int .i64 s_1,s_2.v])) sA (u1 fun a0 =>
.read True (ld T.a11 (Addr.add a0 0)) (sI .i64) (u1 fun (n1:Int) =>
.read True (ld T.a11 (Addr.add a0 1)) (sI .i64) (u1 fun (n2:Int) =>
.call F.a116 [.int .i64 n1,.int .i64 n2] sL (u1 fun l3 =>
.lt (.int .i64) (((l3.len:Nat):Int)) fun (n4:Int) =>
.read True (ld T.a18 (Addr.add a0 2)) sL (u1 fun l5 =>
.bind 1 [.one (.int .i64)] (
.loop 2 [.one (.int .i64),.one (.int .i64)] (n4,(0,())) (u2 fun (n6 n7:Int) =>
.ite (decide (n7<((l5.len:Nat):Int))) (
.ex [.adr] (c1 fun a8=>0≤n7∧n7<((l5.len:Nat):Int)∧l5.a=some a8) (u1 fun a9 =>
.read True (ld T.a1 (Addr.add a9 (Int.toNat n7*7))) (sG [.int .i64,.int .i64,.int .i64,.int .i64,.int .i64,.int .i64,.slc]) (u7 fun (n10 n11 n12 n13 n14 n15:Int) l16 =>
.act (new T.a1) sA (u1 fun a17 =>
.actU (st T.a1 a17 (.agg #[.int .i64 n10,.int .i64 n11,.int .i64 n12,.int .i64 n13,.int .i64 n14,.int .i64 n15,l16.v])) <|
.read True (ld T.a1 a17) (sG [.int .i64,.int .i64,.int .i64,.int .i64,.int .i64,.int .i64,.slc]) (u7 fun (n18 n19 n20 n21 n22 n23:Int) l24 =>
.call F.a123 [.agg #[.int .i64 n18,.int .i64 n19,.int .i64 n20,.int .i64 n21,.int .i64 n22,.int .i64 n23,l24.v]] (sI .i64) (u1 fun (n25:Int) =>
.lt (.int .i64) (IntKind.wrap .i64 (n6+n25)) fun (n26:Int) =>
.done 2 [.int .i64 n26,.int .i64 (IntKind.wrap .i64 (n7+1))])))))) (
.done 1 [.int .i64 n6]))) (u1 fun (n27:Int) =>
.lt (.int .i64) (n27) fun (n28:Int) =>
.done 0 [.int .i64 n28]))))))
theorem zf131_calls (s_0 s_1:Int) (s_2:Sl) {w:World} {R:List Value→World→Prop} (h:(zf131 s_0 s_1 s_2).wp P (fun _=>True) w fun e vs w'=>e=0∧R vs w'):Ret P F.a122 #[.agg #[.int .i64 s_0,.int .i64 s_1,.slice s_2.a s_2.len s_2.cap]] w R:=dS (n:=25) (rv:=[.tmp 2]) { cnd:=[],blk:=[(0,[(3,.one (.int .i64))])],reg:=[],lps:=[(0,[(3,.one (.int .i64)),(15,.one (.int .i64))])] } [.val (.agg #[.int .i64 s_0,.int .i64 s_1,.slice s_2.a s_2.len s_2.cap])] Go.Proofs.Tryz.func84 (by kernel_rfl) (by kernel_rfl) (by kernel_rfl) (by kernel_rfl) h
def zf12 (d:Option Addr):Prog :=
.lt (.bool) (Option.isNone d) fun b0 =>
.ite (b0) (
.done 0 [.int .i64 1]) (
.ex [.adr] (c1 fun a1=>d=some a1) (u1 fun a2 =>
.read True (ld T.a4 (Addr.add (Addr.add a2 0) 1)) sB (u1 fun b3 =>
.lt (.bool) (b3) fun b4 =>
.ite (b4) (
.done 0 [.int .i64 9]) (
.done 0 [.int .i64 0]))))
theorem zf12_calls (d:Option Addr) {w:World} {R:List Value→World→Prop} (h:(zf12 d).wp P (fun _=>True) w fun e vs w'=>e=0∧R vs w'):Ret P F.a12 #[.pointer d] w R:=dS (n:=12) (rv:=[.tmp 2]) { cnd:=[],blk:=[],reg:=[],lps:=[] } [.val (.pointer d)] Go.Proofs.Tryz.func89 (by kernel_rfl) (by kernel_rfl) (by kernel_rfl) (by kernel_rfl) h
def zf13 (s:ByteArray):Prog :=
.ite (decide (((ByteArray.size s:Nat):Int)<1) || decide (((ByteArray.size s:Nat):Int)>24)) (
.done 0 [.bool false]) (
.act (convert T.a31 T.a26 (.string s)) sL (u1 fun l0 =>
.bind 1 [] (
.loop 2 [.one (.int .i64)] (0,()) (u1 fun (n1:Int) =>
.ite (decide (n1<((l0.len:Nat):Int))) (
.ex [.adr] (c1 fun a2=>0≤n1∧n1<((l0.len:Nat):Int)∧l0.a=some a2) (u1 fun a3 =>
.read True (ld T.a34 (Addr.add a3 (Int.toNat n1*1))) (sI .u8) (u1 fun (n4:Int) =>
.lt (.int .u8) (n4) fun (n5:Int) =>
.lt (.bool) (decide (n5≥97) && decide (n5≤122)) fun b6 =>
.lt (.bool) (decide (n5≥48) && decide (n5≤57)) fun b7 =>
.ite (not b6 && not b7 && n5 != 46 && n5 != 45) (
.done 0 [.bool false]) (
.done 2 [.int .i64 (IntKind.wrap .i64 (n1+1))])))) (
.done 1 []))) (u0 <|
.done 0 [.bool true])))
theorem zf13_calls (s:ByteArray) {w:World} {R:List Value→World→Prop} (h:(zf13 s).wp P (fun _=>True) w fun e vs w'=>e=0∧R vs w'):Ret P F.a13 #[.string s] w R:=dS (n:=49) (rv:=[.tmp 2]) { cnd:=[],blk:=[(0,[])],reg:=[],lps:=[(0,[(18,.one (.int .i64))])] } [.val (.string s)] Go.Proofs.Tryz.func90 (by kernel_rfl) (by kernel_rfl) (by kernel_rfl) (by kernel_rfl) h
def zf6 (d:Option Addr):Prog :=
.ite (Option.isNone d) (
.done 0 [.int .i64 0]) (
.tick <|
.ex [.adr] (c1 fun a0=>d=some a0) (u1 fun a1 =>
.read True (ld T.a10 (Addr.add a1 2)) (sI .i64) (u1 fun (n2:Int) =>
.ex [.adr] (c1 fun a3=>d=some a3) (u1 fun a4 =>
.read True (ld T.a10 (Addr.add a4 3)) (sI .i64) (u1 fun (n5:Int) =>
.lt (.int .i64) (if 0>IntKind.wrap .i64 (n2-n5) then 0 else IntKind.wrap .i64 (n2-n5)) fun (n6:Int) =>
.untick <|
.done 0 [.int .i64 n6])))))
theorem zf6_calls (d:Option Addr) {w:World} {R:List Value→World→Prop} (h:(zf6 d).wp P (fun _=>True) w fun e vs w'=>e=0∧R vs w'):Ret P F.a5 #[.pointer d] w R:=dS (n:=15) (rv:=[.tmp 2]) { cnd:=[],blk:=[],reg:=[],lps:=[] } [.val (.pointer d)] Go.Proofs.Tryz.func91 (by kernel_rfl) (by kernel_rfl) (by kernel_rfl) (by kernel_rfl) h
def zf15 (p:Option Addr):Prog :=
.ex [.adr] (c1 fun a0=>p=some a0) (u1 fun a1 =>
.read True (ld T.a10 (Addr.add a1 0)) (sI .i64) (u1 fun (n2:Int) =>
.bind 1 [] (
.ite (decide (n2>0)) (
.ex [.adr] (c1 fun a3=>p=some a3) (u1 fun a4 =>
.read True (ld T.a10 (Addr.add a4 0)) (sI .i64) (u1 fun (n5:Int) =>
.ex [.adr] (c1 fun a6=>p=some a6) (u1 fun a7 =>
.actU (st T.a10 (Addr.add a7 0) (.int .i64 (IntKind.wrap .i64 (n5-1)))) <|
.ex [.adr] (c1 fun a8=>p=some a8) (u1 fun a9 =>
.read True (ld T.a10 (Addr.add a9 0)) (sI .i64) (u1 fun (n10:Int) =>
.ex [.adr] (c1 fun a11=>p=some a11) (u1 fun a12 =>
.actU (st T.a4 (Addr.add a12 1) (.bool (n10 == 0))) <|
.done 1 []))))))) (
.done 1 [])) (u0 <|
.done 0 [])))
theorem zf15_calls (p:Option Addr) {w:World} {R:List Value→World→Prop} (h:(zf15 p).wp P (fun _=>True) w fun e vs w'=>e=0∧R vs w'):Ret P F.a15 #[.pointer p] w R:=dS (n:=22) (rv:=[]) { cnd:=[(17179344902,[])],blk:=[],reg:=[],lps:=[] } [.val (.pointer p)] Go.Proofs.Tryz.func92 (by kernel_rfl) (by kernel_rfl) (by kernel_rfl) (by kernel_rfl) h
def zf34 (m:Option Nat):Prog :=
.act (Instr.box T.a12 (.map m)) sA (u1 fun a0 =>
.done 0 [.func (Fn.func 143) #[] #[.pointer (some a0)]])
theorem zf34_calls (m:Option Nat) {w:World} {R:List Value→World→Prop} (h:(zf34 m).wp P (fun _=>True) w fun e vs w'=>e=0∧R vs w'):Ret P F.a29 #[.map m] w R:=dS (n:=4) (rv:=[.tmp 2]) { cnd:=[],blk:=[],reg:=[],lps:=[] } [.val (.map m)] Go.Proofs.Tryz.func97 (by kernel_rfl) (by kernel_rfl) (by kernel_rfl) (by kernel_rfl) h
def zf103 (s:ByteArray) (prefix_:ByteArray):Prog :=
.call F.a28 [.string s,.string prefix_] sB (u1 fun b0 =>
.lt (.bool) (b0) fun b1 =>
.done 0 [.bool b1])
theorem zf103_calls (s prefix_:ByteArray) {w:World} {R:List Value→World→Prop} (h:(zf103 s prefix_).wp P (fun _=>True) w fun e vs w'=>e=0∧R vs w'):Ret P F.a93 #[.string s,.string prefix_] w R:=dS (n:=8) (rv:=[.tmp 4]) { cnd:=[],blk:=[],reg:=[],lps:=[] } [.val (.string s),.val (.string prefix_)] Go.Proofs.Tryz.func98 (by kernel_rfl) (by kernel_rfl) (by kernel_rfl) (by kernel_rfl) h
def zf85 (x:Sl):Prog :=
.lt (.int .i64) (((x.len:Nat):Int)) fun (n0:Int) =>
.call F.a30 [.int .u64 (IntKind.wrap .u64 n0)] (sI .i64) (u1 fun (n1:Int) =>
.call F.a88 [x.v,.int .i64 0,.int .i64 n0,.int .i64 n1] (.tup []) (u0 <|
.done 0 []))
theorem zf85_calls (x:Sl) {w:World} {R:List Value→World→Prop} (h:(zf85 x).wp P (fun _=>True) w fun e vs w'=>e=0∧R vs w'):Ret P F.a76 #[.slice x.a x.len x.cap] w R:=dS (n:=11) (rv:=[]) { cnd:=[],blk:=[],reg:=[],lps:=[] } [.val (.slice x.a x.len x.cap)] Go.Proofs.Tryz.func99 (by kernel_rfl) (by kernel_rfl) (by kernel_rfl) (by kernel_rfl) h
def zf130 (s_0 s_1:Int) (s_2:Sl):Prog :=
.act (Instr.box T.a33 (.agg #[.int .i64 s_0,.int .i64 s_1,s_2.v])) sA (u1 fun a0 =>
.read True (ld T.a11 (Addr.add a0 0)) (sI .i64) (u1 fun (n1:Int) =>
.lt (.int .i64) (n1) fun (n2:Int) =>
.read True (ld T.a11 (Addr.add a0 1)) (sI .i64) (u1 fun (n3:Int) =>
.bind 1 [.one (.int .i64)] (
.ite (decide (n3>n2)) (
.read True (ld T.a11 (Addr.add a0 1)) (sI .i64) (u1 fun (n4:Int) =>
.lt (.int .i64) (n4) fun (n5:Int) =>
.done 1 [.int .i64 n5])) (
.done 1 [.int .i64 n2])) (u1 fun (n6:Int) =>
.read True (ld T.a18 (Addr.add a0 2)) sL (u1 fun l7 =>
.bind 1 [.one (.int .i64)] (
.ite (decide (((l7.len:Nat):Int)>0)) (
.read True (ld T.a18 (Addr.add a0 2)) sL (u1 fun l8 =>
.read True (ld T.a18 (Addr.add a0 2)) sL (u1 fun l9 =>
.ex [.adr] (c1 fun a10=>0≤IntKind.wrap .i64 (((l9.len:Nat):Int)-1)∧IntKind.wrap .i64 (((l9.len:Nat):Int)-1)<((l8.len:Nat):Int)∧l8.a=some a10) (u1 fun a11 =>
.read True (ld T.a1 (Addr.add a11 (Int.toNat (IntKind.wrap .i64 (((l9.len:Nat):Int)-1))*7))) (sG [.int .i64,.int .i64,.int .i64,.int .i64,.int .i64,.int .i64,.slc]) (u7 fun (n12 n13 n14 n15 n16 n17:Int) l18 =>
.act (new T.a1) sA (u1 fun a19 =>
.actU (st T.a1 a19 (.agg #[.int .i64 n12,.int .i64 n13,.int .i64 n14,.int .i64 n15,.int .i64 n16,.int .i64 n17,l18.v])) <|
.tick <|
.hold True (ld T.a11 (Addr.add a19 0)) (sI .i64) (u1 fun (n20:Int) =>
.read True (ld T.a1 a19) (sG [.int .i64,.int .i64,.int .i64,.int .i64,.int .i64,.int .i64,.slc]) (u7 fun (n21 n22 n23 n24 n25 n26:Int) l27 =>
.call F.a113 [.agg #[.int .i64 n21,.int .i64 n22,.int .i64 n23,.int .i64 n24,.int .i64 n25,.int .i64 n26,l27.v]] (sI .i64) (u1 fun (n28:Int) =>
.untick <|
.bind 2 [.one (.int .i64)] (
.ite (decide (IntKind.wrap .i64 (n20+n28)>n6)) (
.tick <|
.hold True (ld T.a11 (Addr.add a19 0)) (sI .i64) (u1 fun (n29:Int) =>
.read True (ld T.a1 a19) (sG [.int .i64,.int .i64,.int .i64,.int .i64,.int .i64,.int .i64,.slc]) (u7 fun (n30 n31 n32 n33 n34 n35:Int) l36 =>
.call F.a113 [.agg #[.int .i64 n30,.int .i64 n31,.int .i64 n32,.int .i64 n33,.int .i64 n34,.int .i64 n35,l36.v]] (sI .i64) (u1 fun (n37:Int) =>
.lt (.int .i64) (IntKind.wrap .i64 (n29+n37)) fun (n38:Int) =>
.untick <|
.done 2 [.int .i64 n38])))) (
.done 2 [.int .i64 n6])) (u1 fun (n39:Int) =>
.done 1 [.int .i64 n39])))))))))) (
.done 1 [.int .i64 n6])) (u1 fun (n40:Int) =>
.lt (.int .i64) (n40) fun (n41:Int) =>
.done 0 [.int .i64 n41]))))))
theorem zf130_calls (s_0 s_1:Int) (s_2:Sl) {w:World} {R:List Value→World→Prop} (h:(zf130 s_0 s_1 s_2).wp P (fun _=>True) w fun e vs w'=>e=0∧R vs w'):Ret P F.a121 #[.agg #[.int .i64 s_0,.int .i64 s_1,.slice s_2.a s_2.len s_2.cap]] w R:=dS (n:=38) (rv:=[.tmp 2]) { cnd:=[(25198602,[(3,.one (.int .i64))]),(545357767409695,[(3,.one (.int .i64))]),(562949416648720,[(3,.one (.int .i64))])],blk:=[],reg:=[],lps:=[] } [.val (.agg #[.int .i64 s_0,.int .i64 s_1,.slice s_2.a s_2.len s_2.cap])] Go.Proofs.Tryz.func102 (by kernel_rfl) (by kernel_rfl) (by kernel_rfl) (by kernel_rfl) h
def zf10 (d:Option Addr) (names:Sl):Prog :=
.call F.a12 [.pointer d] (sI .i64) (u1 fun (n0:Int) =>
.lt (.int .i64) (n0) fun (n1:Int) =>
.ite (n1 != 0) (
.lt (.int .i64) (n1) fun (n2:Int) =>
.done 0 [.int .i64 n2]) (
.bind 1 [] (
.loop 2 [.one (.int .i64)] (0,()) (u1 fun (n3:Int) =>
.ite (decide (n3<((names.len:Nat):Int))) (
.ex [.adr] (c1 fun a4=>0≤n3∧n3<((names.len:Nat):Int)∧names.a=some a4) (u1 fun a5 =>
.read True (ld T.a31 (Addr.add a5 (Int.toNat n3*1))) sS (u1 fun s6 =>
.lt (.str) (s6) fun s7 =>
.ex [.adr] (c1 fun a8=>d=some a8) (u1 fun a9 =>
.read True (ld T.a12 (Addr.add a9 4)) sM (u1 fun m10 =>
.read True (Instr.lookup T.a12 (.map m10) (.string s7) false) sP (u1 fun p11 =>
.ite (Option.isNone p11) (
.done 0 [.int .i64 3]) (
.done 2 [.int .i64 (IntKind.wrap .i64 (n3+1))]))))))) (
.done 1 []))) (u0 <|
.bind 1 [.one .slc] (
.ite (((names.len:Nat):Int) == 0) (
.call F.a7 [.pointer d,.string (ByteArray.mk #[])] sL (u1 fun l12 =>
.done 1 [l12.v])) (
.done 1 [names.v])) (u1 fun l13 =>
.bind 1 [] (
.loop 2 [.one (.int .i64)] (0,()) (u1 fun (n14:Int) =>
.ite (decide (n14<((l13.len:Nat):Int))) (
.ex [.adr] (c1 fun a15=>0≤n14∧n14<((l13.len:Nat):Int)∧l13.a=some a15) (u1 fun a16 =>
.read True (ld T.a31 (Addr.add a16 (Int.toNat n14*1))) sS (u1 fun s17 =>
.lt (.str) (s17) fun s18 =>
.ex [.adr] (c1 fun a19=>d=some a19) (u1 fun a20 =>
.read True (ld T.a12 (Addr.add a20 4)) sM (u1 fun m21 =>
.read True (Instr.lookup T.a12 (.map m21) (.string s18) false) sP (u1 fun p22 =>
.ex [.adr] (c1 fun a23=>p22=some a23) (u1 fun a24 =>
.read True (ld T.a26 (Addr.add a24 0)) sL (u1 fun l25 =>
.ex [.adr] (c1 fun a26=>p22=some a26) (u1 fun a27 =>
.actU (st T.a10 (Addr.add a27 1) (.int .i64 (((l25.len:Nat):Int)))) <|
.done 2 [.int .i64 (IntKind.wrap .i64 (n14+1))]))))))))) (
.done 1 []))) (u0 <|
.ex [.adr] (c1 fun a28=>d=some a28) (u1 fun a29 =>
.call F.a15 [.pointer (some (Addr.add a29 0))] (.tup []) (u0 <|
.done 0 [.int .i64 0])))))))
theorem zf10_calls (d:Option Addr) (names:Sl) {w:World} {R:List Value→World→Prop} (h:(zf10 d names).wp P (fun _=>True) w fun e vs w'=>e=0∧R vs w'):Ret P F.a10 #[.pointer d,.slice names.a names.len names.cap] w R:=dS (n:=60) (rv:=[.tmp 4]) { cnd:=[(105553116274720,[(1,.one .slc)])],blk:=[(0,[]),(2,[])],reg:=[],lps:=[(0,[(18,.one (.int .i64))]),(2,[(37,.one (.int .i64))])] } [.val (.pointer d),.val (.slice names.a names.len names.cap)] Go.Proofs.Tryz.func103 (by kernel_rfl) (by kernel_rfl) (by kernel_rfl) (by kernel_rfl) h
def zf11 (d:Option Addr) (name:ByteArray):Prog :=
.ex [.adr] (c1 fun a0=>d=some a0) (u1 fun a1 =>
.read True (ld T.a12 (Addr.add a1 4)) sM (u1 fun m2 =>
.read True (Instr.lookup T.a12 (.map m2) (.string name) false) sP (u1 fun p3 =>
.bind 1 [] (
.ite (not (Option.isNone p3)) (
.tick <|
.ex [.adr] (c1 fun a4=>d=some a4) (u1 fun a5 =>
.read True (ld T.a10 (Addr.add a5 3)) (sI .i64) (u1 fun (n6:Int) =>
.ex [.adr] (c1 fun a7=>p3=some a7) (u1 fun a8 =>
.read True (ld T.a26 (Addr.add a8 0)) sL (u1 fun l9 =>
.ex [.adr] (c1 fun a10=>d=some a10) (u1 fun a11 =>
.actU (st T.a10 (Addr.add a11 3) (.int .i64 (IntKind.wrap .i64 (n6-((l9.len:Nat):Int))))) <|
.untick <|
.ex [.adr] (c1 fun a12=>d=some a12) (u1 fun a13 =>
.read True (ld T.a12 (Addr.add a13 4)) sM (u1 fun m14 =>
.act (Builtin.delete_ #[T.a12,T.a31] T.a35 #[.map m14,.string name]) (.tup []) (u0 <|
.done 1 []))))))))) (
.done 1 [])) (u0 <|
.done 0 []))))
theorem zf11_calls (d:Option Addr) (name:ByteArray) {w:World} {R:List Value→World→Prop} (h:(zf11 d name).wp P (fun _=>True) w fun e vs w'=>e=0∧R vs w'):Ret P F.a11 #[.pointer d,.string name] w R:=dS (n:=30) (rv:=[]) { cnd:=[(4398012956684,[])],blk:=[],reg:=[],lps:=[] } [.val (.pointer d),.val (.string name)] Go.Proofs.Tryz.func124 (by kernel_rfl) (by kernel_rfl) (by kernel_rfl) (by kernel_rfl) h
def zf5 (d:Option Addr) (name:ByteArray) (n:Int):Prog :=
.call F.a12 [.pointer d] (sI .i64) (u1 fun (n0:Int) =>
.lt (.int .i64) (n0) fun (n1:Int) =>
.ite (n1 != 0) (
.lt (.int .i64) (n1) fun (n2:Int) =>
.done 0 [.int .i64 n2]) (
.ex [.adr] (c1 fun a3=>d=some a3) (u1 fun a4 =>
.read True (ld T.a12 (Addr.add a4 4)) sM (u1 fun m5 =>
.read True (Instr.lookup T.a12 (.map m5) (.string name) false) sP (u1 fun p6 =>
.lt (.bool) (Option.isNone p6) fun b7 =>
.ite (b7) (
.done 0 [.int .i64 3]) (
.ex [.adr] (c1 fun a8=>decide (n<0)=false→p6=some a8) (u1 fun a9 =>
.read (decide (n<0)=false) (ld T.a26 (Addr.add a9 0)) sL (u1 fun l10 =>
.lt (.bool) (decide (n<0) || decide (n>((l10.len:Nat):Int))) fun b11 =>
.ite (b11) (
.done 0 [.int .i64 2]) (
.tick <|
.ex [.adr] (c1 fun a12=>d=some a12) (u1 fun a13 =>
.read True (ld T.a10 (Addr.add a13 3)) (sI .i64) (u1 fun (n14:Int) =>
.ex [.adr] (c1 fun a15=>p6=some a15) (u1 fun a16 =>
.read True (ld T.a26 (Addr.add a16 0)) sL (u1 fun l17 =>
.ex [.adr] (c1 fun a18=>d=some a18) (u1 fun a19 =>
.actU (st T.a10 (Addr.add a19 3) (.int .i64 (IntKind.wrap .i64 (n14-IntKind.wrap .i64 (((l17.len:Nat):Int)-n))))) <|
.untick <|
.ex [.adr] (c1 fun a20=>p6=some a20) (u1 fun a21 =>
.read True (ld T.a26 (Addr.add a21 0)) sL (u1 fun l22 =>
.must (0≤n∧n≤n∧n≤((l22.cap:Nat):Int)) <|
.ex [.adr] (c1 fun a23=>p6=some a23) (u1 fun a24 =>
.actU (st T.a26 (Addr.add a24 0) (.slice l22.a (Int.toNat n) (Int.toNat n))) <|
.ex [.adr] (c1 fun a25=>p6=some a25) (u1 fun a26 =>
.read True (ld T.a10 (Addr.add a26 1)) (sI .i64) (u1 fun (n27:Int) =>
.ex [.adr] (c1 fun a28=>p6=some a28) (u1 fun a29 =>
.actU (st T.a10 (Addr.add a29 1) (.int .i64 (if n<n27 then n else n27))) <|
.ex [.adr] (c1 fun a30=>d=some a30) (u1 fun a31 =>
.call F.a15 [.pointer (some (Addr.add a31 0))] (.tup []) (u0 <|
.done 0 [.int .i64 0]))))))))))))))))))))))
theorem zf5_calls (d:Option Addr) (name:ByteArray) (n:Int) {w:World} {R:List Value→World→Prop} (h:(zf5 d name n).wp P (fun _=>True) w fun e vs w'=>e=0∧R vs w'):Ret P F.a4 #[.pointer d,.string name,.int .i64 n] w R:=dS (n:=72) (rv:=[.tmp 6]) { cnd:=[],blk:=[],reg:=[],lps:=[] } [.val (.pointer d),.val (.string name),.val (.int .i64 n)] Go.Proofs.Tryz.func126 (by kernel_rfl) (by kernel_rfl) (by kernel_rfl) (by kernel_rfl) h
def zf30 (s:ByteArray) (prefix_:ByteArray):Prog :=
.must (decide (((ByteArray.size s:Nat):Int)≥((ByteArray.size prefix_:Nat):Int))=true→0≤((ByteArray.size prefix_:Nat):Int)∧((ByteArray.size prefix_:Nat):Int)≤((ByteArray.size s:Nat):Int)) <|
.lt (.bool) (decide (((ByteArray.size s:Nat):Int)≥((ByteArray.size prefix_:Nat):Int)) && ByteArray.toList (ByteArray.extract s 0 (Int.toNat (((ByteArray.size prefix_:Nat):Int)))) == ByteArray.toList prefix_) fun b0 =>
.done 0 [.bool b0]
theorem zf30_calls (s prefix_:ByteArray) {w:World} {R:List Value→World→Prop} (h:(zf30 s prefix_).wp P (fun _=>True) w fun e vs w'=>e=0∧R vs w'):Ret P F.a28 #[.string s,.string prefix_] w R:=dS (n:=18) (rv:=[.tmp 4]) { cnd:=[],blk:=[],reg:=[],lps:=[] } [.val (.string s),.val (.string prefix_)] Go.Proofs.Tryz.func144 (by kernel_rfl) (by kernel_rfl) (by kernel_rfl) (by kernel_rfl) h
def zf97 (data:Sl) (a b:Int) (limit:Int):Prog :=
.loop 1 [.one (.int .i64),.one (.int .i64),.one (.int .i64),.one .bool,.one .bool] (a,(b,(limit,(true,(true,()))))) (u5 fun (n0 n1 n2:Int) b3 b4 =>
.bind 2 [.one (.int .i64),.one (.int .i64),.one (.int .i64),.one .bool,.one .bool] (
.lt (.int .i64) (IntKind.wrap .i64 (n1-n0)) fun (n5:Int) =>
.ite (decide (n5≤12)) (
.call F.a80 [data.v,.int .i64 n0,.int .i64 n1] (.tup []) (u0 <|
.done 0 [])) (
.ite (n2 == 0) (
.call F.a79 [data.v,.int .i64 n0,.int .i64 n1] (.tup []) (u0 <|
.done 0 [])) (
.bind 3 [.one (.int .i64)] (
.ite (not b3) (
.call F.a77 [data.v,.int .i64 n0,.int .i64 n1] (.tup []) (u0 <|
.lt (.int .i64) (IntKind.wrap .i64 (n2-1)) fun (n6:Int) =>
.done 3 [.int .i64 n6])) (
.done 3 [.int .i64 n2])) (u1 fun (n7:Int) =>
.call F.a78 [data.v,.int .i64 n0,.int .i64 n1] (.tup [.one (.int .i64),.one (.int .i64)]) (u2 fun (n8 n9:Int) =>
.lt (.int .i64) (n8) fun (n10:Int) =>
.lt (.int .i64) (n9) fun (n11:Int) =>
.bind 3 [.one (.int .i64),.one (.int .i64)] (
.ite (n11 == 2) (
.call F.a89 [data.v,.int .i64 n0,.int .i64 n1] (.tup []) (u0 <|
.lt (.int .i64) (IntKind.wrap .i64 (IntKind.wrap .i64 (n1-1)-IntKind.wrap .i64 (n10-n0))) fun (n12:Int) =>
.done 3 [.int .i64 n12,.int .i64 1])) (
.done 3 [.int .i64 n10,.int .i64 n11])) (u2 fun (n13 n14:Int) =>
.bind 3 [] (
.ite (b3 && b4 && n14 == 1) (
.call F.a85 [data.v,.int .i64 n0,.int .i64 n1] sB (u1 fun b15 =>
.ite (b15) (
.done 0 []) (
.done 3 []))) (
.done 3 [])) (u0 <|
.bind 3 [.one .bool] (
.tick <|
.ex [.adr] (c1 fun a16=>decide (n0>0)=true→0≤IntKind.wrap .i64 (n0-1)∧IntKind.wrap .i64 (n0-1)<((data.len:Nat):Int)∧data.a=some a16) (u1 fun a17 =>
.read (decide (n0>0)=true) (ld T.a31 (Addr.add a17 (Int.toNat (IntKind.wrap .i64 (n0-1))*1))) sS (u1 fun s18 =>
.ex [.adr] (c1 fun a19=>decide (n0>0)=true→0≤n13∧n13<((data.len:Nat):Int)∧data.a=some a19) (u1 fun a20 =>
.read (decide (n0>0)=true) (ld T.a31 (Addr.add a20 (Int.toNat n13*1))) sS (u1 fun s21 =>
.ite (decide (n0>0)) (
.call F.a1 [.string s18,.string s21] sB (u1 fun b22 =>
.untick <|
.done 3 [.bool (not b22)])) (
.untick <|
.done 3 [.bool false])))))) (u1 fun b23 =>
.ite (b23) (
.call F.a86 [data.v,.int .i64 n0,.int .i64 n1,.int .i64 n13] (sI .i64) (u1 fun (n24:Int) =>
.lt (.int .i64) (n24) fun (n25:Int) =>
.lt (.int .i64) (n25) fun (n26:Int) =>
.done 2 [.int .i64 n26,.int .i64 n1,.int .i64 n7,.bool b3,.bool b4])) (
.call F.a87 [data.v,.int .i64 n0,.int .i64 n1,.int .i64 n13] (.tup [.one (.int .i64),.one .bool]) (u2 fun (n27:Int) b28 =>
.lt (.int .i64) (n27) fun (n29:Int) =>
.lt (.bool) (b28) fun b30 =>
.lt (.bool) (b30) fun b31 =>
.lt (.int .i64) (IntKind.wrap .i64 (n29-n0)) fun (n32:Int) =>
.lt (.int .i64) (IntKind.wrap .i64 (n1-n29)) fun (n33:Int) =>
.lt (.int .i64) (IntKind.wrap .i64 (Int.tdiv n5 8)) fun (n34:Int) =>
.bind 3 [.one (.int .i64),.one (.int .i64),.one .bool] (
.ite (decide (n32<n33)) (
.lt (.bool) (decide (n32≥n34)) fun b35 =>
.call F.a88 [data.v,.int .i64 n0,.int .i64 n29,.int .i64 n7] (.tup []) (u0 <|
.lt (.int .i64) (IntKind.wrap .i64 (n29+1)) fun (n36:Int) =>
.done 3 [.int .i64 n36,.int .i64 n1,.bool b35])) (
.lt (.bool) (decide (n33≥n34)) fun b37 =>
.call F.a88 [data.v,.int .i64 (IntKind.wrap .i64 (n29+1)),.int .i64 n1,.int .i64 n7] (.tup []) (u0 <|
.lt (.int .i64) (n29) fun (n38:Int) =>
.done 3 [.int .i64 n0,.int .i64 n38,.bool b37]))) (u3 fun (n39 n40:Int) b41 =>
.done 2 [.int .i64 n39,.int .i64 n40,.int .i64 n7,.bool b41,.bool b31]))))))))))) (u5 fun (n42 n43 n44:Int) b45 b46 =>
.done 1 [.int .i64 n42,.int .i64 n43,.int .i64 n44,.bool b45,.bool b46]))
theorem zf97_calls (data:Sl) (a b limit:Int) {w:World} {R:List Value→World→Prop} (h:(zf97 data a b limit).wp P (fun _=>True) w fun e vs w'=>e=0∧R vs w'):Ret P F.a88 #[.slice data.a data.len data.cap,.int .i64 a,.int .i64 b,.int .i64 limit] w R:=dS (n:=134) (rv:=[]) { cnd:=[(17732923532804131,[(3,.one (.int .i64))]),(9435509593702460817458,[(11,.one (.int .i64)),(12,.one (.int .i64))]),(36267774588438875241185348,[]),(89202895723530762331527007246941588082942065,[(1,.one (.int .i64)),(2,.one (.int .i64)),(8,.one .bool)])],blk:=[(1,[(1,.one (.int .i64)),(2,.one (.int .i64)),(3,.one (.int .i64)),(8,.one .bool),(9,.one .bool)])],reg:=[(17,[(87,.one .bool)])],lps:=[(0,[(1,.one (.int .i64)),(2,.one (.int .i64)),(3,.one (.int .i64)),(8,.one .bool),(9,.one .bool)])] } [.val (.slice data.a data.len data.cap),.val (.int .i64 a),.val (.int .i64 b),.val (.int .i64 limit)] Go.Proofs.Tryz.func145 (by kernel_rfl) (by kernel_rfl) (by kernel_rfl) (by kernel_rfl) h
def zf35 (x:Int):Prog :=
.call F.a31 [.int .u64 x] (sI .i64) (u1 fun (n0:Int) =>
.lt (.int .i64) (n0) fun (n1:Int) =>
.done 0 [.int .i64 n1])
theorem zf35_calls (x:Int) {w:World} {R:List Value→World→Prop} (h:(zf35 x).wp P (fun _=>True) w fun e vs w'=>e=0∧R vs w'):Ret P F.a30 #[.int .u64 x] w R:=dS (n:=8) (rv:=[.tmp 2]) { cnd:=[],blk:=[],reg:=[],lps:=[] } [.val (.int .u64 x)] Go.Proofs.Tryz.func146 (by kernel_rfl) (by kernel_rfl) (by kernel_rfl) (by kernel_rfl) h
def zf89 (data:Sl) (a:Int) (b:Int):Prog :=
.lt (.int .i64) (IntKind.wrap .i64 (a+1)) fun (n0:Int) =>
.bind 1 [] (
.loop 2 [.one (.int .i64)] (n0,()) (u1 fun (n1:Int) =>
.ite (decide (n1<b)) (
.bind 3 [] (
.lt (.int .i64) (n1) fun (n2:Int) =>
.bind 4 [] (
.loop 5 [.one (.int .i64)] (n2,()) (u1 fun (n3:Int) =>
.bind 6 [.one .bool] (
.tick <|
.ex [.adr] (c1 fun a4=>decide (n3>a)=true→0≤n3∧n3<((data.len:Nat):Int)∧data.a=some a4) (u1 fun a5 =>
.read (decide (n3>a)=true) (ld T.a31 (Addr.add a5 (Int.toNat n3*1))) sS (u1 fun s6 =>
.ex [.adr] (c1 fun a7=>decide (n3>a)=true→0≤IntKind.wrap .i64 (n3-1)∧IntKind.wrap .i64 (n3-1)<((data.len:Nat):Int)∧data.a=some a7) (u1 fun a8 =>
.read (decide (n3>a)=true) (ld T.a31 (Addr.add a8 (Int.toNat (IntKind.wrap .i64 (n3-1))*1))) sS (u1 fun s9 =>
.ite (decide (n3>a)) (
.call F.a1 [.string s6,.string s9] sB (u1 fun b10 =>
.untick <|
.done 6 [.bool b10])) (
.untick <|
.done 6 [.bool false])))))) (u1 fun b11 =>
.ite (b11) (
.bind 6 [] (
.tick <|
.ex [.adr] (c1 fun a12=>0≤IntKind.wrap .i64 (n3-1)∧IntKind.wrap .i64 (n3-1)<((data.len:Nat):Int)∧data.a=some a12) (u1 fun a13 =>
.read True (ld T.a31 (Addr.add a13 (Int.toNat (IntKind.wrap .i64 (n3-1))*1))) sS (u1 fun s14 =>
.ex [.adr] (c1 fun a15=>0≤n3∧n3<((data.len:Nat):Int)∧data.a=some a15) (u1 fun a16 =>
.read True (ld T.a31 (Addr.add a16 (Int.toNat n3*1))) sS (u1 fun s17 =>
.ex [.adr] (c1 fun a18=>0≤n3∧n3<((data.len:Nat):Int)∧data.a=some a18) (u1 fun a19 =>
.actU (st T.a31 (Addr.add a19 (Int.toNat n3*1)) (.string s14)) <|
.ex [.adr] (c1 fun a20=>0≤IntKind.wrap .i64 (n3-1)∧IntKind.wrap .i64 (n3-1)<((data.len:Nat):Int)∧data.a=some a20) (u1 fun a21 =>
.actU (st T.a31 (Addr.add a21 (Int.toNat (IntKind.wrap .i64 (n3-1))*1)) (.string s17)) <|
.untick <|
.done 6 []))))))) (u0 <|
.lt (.int .i64) (IntKind.wrap .i64 (n3-1)) fun (n22:Int) =>
.done 5 [.int .i64 n22])) (
.done 4 [])))) (u0 <|
.done 3 [])) (u0 <|
.lt (.int .i64) (IntKind.wrap .i64 (n1+1)) fun (n23:Int) =>
.done 2 [.int .i64 n23])) (
.done 1 []))) (u0 <|
.done 0 [])
theorem zf89_calls (data:Sl) (a b:Int) {w:World} {R:List Value→World→Prop} (h:(zf89 data a b).wp P (fun _=>True) w fun e vs w'=>e=0∧R vs w'):Ret P F.a80 #[.slice data.a data.len data.cap,.int .i64 a,.int .i64 b] w R:=dS (n:=49) (rv:=[]) { cnd:=[],blk:=[(0,[]),(1,[]),(2,[])],reg:=[(4,[(30,.one .bool)]),(6,[])],lps:=[(0,[(6,.one (.int .i64))]),(2,[(7,.one (.int .i64))])] } [.val (.slice data.a data.len data.cap),.val (.int .i64 a),.val (.int .i64 b)] Go.Proofs.Tryz.func177 (by kernel_rfl) (by kernel_rfl) (by kernel_rfl) (by kernel_rfl) h
def zf88 (data:Sl) (a:Int) (b:Int):Prog :=
.lt (.int .i64) (a) fun (n0:Int) =>
.lt (.int .i64) (IntKind.wrap .i64 (b-a)) fun (n1:Int) =>
.lt (.int .i64) (IntKind.wrap .i64 (Int.tdiv (IntKind.wrap .i64 (n1-1)) 2)) fun (n2:Int) =>
.bind 1 [] (
.loop 2 [.one (.int .i64)] (n2,()) (u1 fun (n3:Int) =>
.ite (decide (n3≥0)) (
.call F.a90 [data.v,.int .i64 n3,.int .i64 n1,.int .i64 n0] (.tup []) (u0 <|
.lt (.int .i64) (IntKind.wrap .i64 (n3-1)) fun (n4:Int) =>
.done 2 [.int .i64 n4])) (
.done 1 []))) (u0 <|
.lt (.int .i64) (IntKind.wrap .i64 (n1-1)) fun (n5:Int) =>
.bind 1 [] (
.loop 2 [.one (.int .i64)] (n5,()) (u1 fun (n6:Int) =>
.ite (decide (n6≥0)) (
.bind 3 [] (
.tick <|
.ex [.adr] (c1 fun a7=>0≤IntKind.wrap .i64 (n0+n6)∧IntKind.wrap .i64 (n0+n6)<((data.len:Nat):Int)∧data.a=some a7) (u1 fun a8 =>
.read True (ld T.a31 (Addr.add a8 (Int.toNat (IntKind.wrap .i64 (n0+n6))*1))) sS (u1 fun s9 =>
.ex [.adr] (c1 fun a10=>0≤n0∧n0<((data.len:Nat):Int)∧data.a=some a10) (u1 fun a11 =>
.read True (ld T.a31 (Addr.add a11 (Int.toNat n0*1))) sS (u1 fun s12 =>
.ex [.adr] (c1 fun a13=>0≤n0∧n0<((data.len:Nat):Int)∧data.a=some a13) (u1 fun a14 =>
.actU (st T.a31 (Addr.add a14 (Int.toNat n0*1)) (.string s9)) <|
.ex [.adr] (c1 fun a15=>0≤IntKind.wrap .i64 (n0+n6)∧IntKind.wrap .i64 (n0+n6)<((data.len:Nat):Int)∧data.a=some a15) (u1 fun a16 =>
.actU (st T.a31 (Addr.add a16 (Int.toNat (IntKind.wrap .i64 (n0+n6))*1)) (.string s12)) <|
.untick <|
.done 3 []))))))) (u0 <|
.call F.a90 [data.v,.int .i64 0,.int .i64 n6,.int .i64 n0] (.tup []) (u0 <|
.lt (.int .i64) (IntKind.wrap .i64 (n6-1)) fun (n17:Int) =>
.done 2 [.int .i64 n17]))) (
.done 1 []))) (u0 <|
.done 0 []))
theorem zf88_calls (data:Sl) (a b:Int) {w:World} {R:List Value→World→Prop} (h:(zf88 data a b).wp P (fun _=>True) w fun e vs w'=>e=0∧R vs w'):Ret P F.a79 #[.slice data.a data.len data.cap,.int .i64 a,.int .i64 b] w R:=dS (n:=56) (rv:=[]) { cnd:=[],blk:=[(0,[]),(2,[])],reg:=[(10,[])],lps:=[(0,[(9,.one (.int .i64))]),(2,[(10,.one (.int .i64))])] } [.val (.slice data.a data.len data.cap),.val (.int .i64 a),.val (.int .i64 b)] Go.Proofs.Tryz.func178 (by kernel_rfl) (by kernel_rfl) (by kernel_rfl) (by kernel_rfl) h
def zf86 (data:Sl) (a:Int) (b:Int):Prog :=
.lt (.int .i64) (IntKind.wrap .i64 (b-a)) fun (n0:Int) =>
.bind 1 [] (
.ite (decide (n0≥8)) (
.act (new T.a30) sA (u1 fun a1 =>
.actU (st T.a30 a1 (.int .u64 (IntKind.wrap .u64 n0))) <|
.call F.a83 [.int .i64 n0] (sI .u64) (u1 fun (n2:Int) =>
.lt (.int .u64) (n2) fun (n3:Int) =>
.lt (.int .i64) (IntKind.wrap .i64 (IntKind.wrap .i64 (a+IntKind.wrap .i64 (IntKind.wrap .i64 (Int.tdiv n0 4)*2))-1)) fun (n4:Int) =>
.bind 2 [] (
.loop 3 [.one (.int .i64)] (n4,()) (u1 fun (n5:Int) =>
.ite (decide (n5≤IntKind.wrap .i64 (IntKind.wrap .i64 (a+IntKind.wrap .i64 (IntKind.wrap .i64 (Int.tdiv n0 4)*2))+1))) (
.call F.a91 [.pointer (some a1)] (sI .u64) (u1 fun (n6:Int) =>
.lt (.int .i64) (IntKind.wrap .i64 (IntKind.wrap .u64 (((BitVec.toNat (BitVec.ofInt 64 n6 &&& BitVec.ofInt 64 (IntKind.wrap .u64 (n3-1))):Nat):Int)))) fun (n7:Int) =>
.bind 4 [.one (.int .i64)] (
.ite (decide (n7≥n0)) (
.lt (.int .i64) (IntKind.wrap .i64 (n7-n0)) fun (n8:Int) =>
.done 4 [.int .i64 n8]) (
.done 4 [.int .i64 n7])) (u1 fun (n9:Int) =>
.bind 4 [] (
.tick <|
.ex [.adr] (c1 fun a10=>0≤IntKind.wrap .i64 (a+n9)∧IntKind.wrap .i64 (a+n9)<((data.len:Nat):Int)∧data.a=some a10) (u1 fun a11 =>
.read True (ld T.a31 (Addr.add a11 (Int.toNat (IntKind.wrap .i64 (a+n9))*1))) sS (u1 fun s12 =>
.ex [.adr] (c1 fun a13=>0≤n5∧n5<((data.len:Nat):Int)∧data.a=some a13) (u1 fun a14 =>
.read True (ld T.a31 (Addr.add a14 (Int.toNat n5*1))) sS (u1 fun s15 =>
.ex [.adr] (c1 fun a16=>0≤n5∧n5<((data.len:Nat):Int)∧data.a=some a16) (u1 fun a17 =>
.actU (st T.a31 (Addr.add a17 (Int.toNat n5*1)) (.string s12)) <|
.ex [.adr] (c1 fun a18=>0≤IntKind.wrap .i64 (a+n9)∧IntKind.wrap .i64 (a+n9)<((data.len:Nat):Int)∧data.a=some a18) (u1 fun a19 =>
.actU (st T.a31 (Addr.add a19 (Int.toNat (IntKind.wrap .i64 (a+n9))*1)) (.string s15)) <|
.untick <|
.done 4 []))))))) (u0 <|
.lt (.int .i64) (IntKind.wrap .i64 (n5+1)) fun (n20:Int) =>
.done 3 [.int .i64 n20])))) (
.done 2 []))) (u0 <|
.done 1 [])))) (
.done 1 [])) (u0 <|
.done 0 [])
theorem zf86_calls (data:Sl) (a b:Int) {w:World} {R:List Value→World→Prop} (h:(zf86 data a b).wp P (fun _=>True) w fun e vs w'=>e=0∧R vs w'):Ret P F.a77 #[.slice data.a data.len data.cap,.int .i64 a,.int .i64 b] w R:=dS (n:=65) (rv:=[]) { cnd:=[(504403158269689899,[(10,.one (.int .i64))]),(151115727451828386267151,[])],blk:=[(0,[])],reg:=[(10,[])],lps:=[(0,[(9,.one (.int .i64))])] } [.val (.slice data.a data.len data.cap),.val (.int .i64 a),.val (.int .i64 b)] Go.Proofs.Tryz.func179 (by kernel_rfl) (by kernel_rfl) (by kernel_rfl) (by kernel_rfl) h
def zf87 (data:Sl) (a:Int) (b:Int):Prog :=
.lt (.int .i64) (IntKind.wrap .i64 (b-a)) fun (n0:Int) =>
.act (new T.a10) sA (u1 fun a1 =>
.lt (.int .i64) (IntKind.wrap .i64 (a+IntKind.wrap .i64 (IntKind.wrap .i64 (Int.tdiv n0 4)*1))) fun (n2:Int) =>
.lt (.int .i64) (IntKind.wrap .i64 (a+IntKind.wrap .i64 (IntKind.wrap .i64 (Int.tdiv n0 4)*2))) fun (n3:Int) =>
.lt (.int .i64) (IntKind.wrap .i64 (a+IntKind.wrap .i64 (IntKind.wrap .i64 (Int.tdiv n0 4)*3))) fun (n4:Int) =>
.bind 1 [.one (.int .i64)] (
.ite (decide (n0≥8)) (
.bind 2 [.one (.int .i64),.one (.int .i64),.one (.int .i64)] (
.ite (decide (n0≥50)) (
.call F.a81 [data.v,.int .i64 n2,.pointer (some a1)] (sI .i64) (u1 fun (n5:Int) =>
.lt (.int .i64) (n5) fun (n6:Int) =>
.call F.a81 [data.v,.int .i64 n3,.pointer (some a1)] (sI .i64) (u1 fun (n7:Int) =>
.lt (.int .i64) (n7) fun (n8:Int) =>
.call F.a81 [data.v,.int .i64 n4,.pointer (some a1)] (sI .i64) (u1 fun (n9:Int) =>
.lt (.int .i64) (n9) fun (n10:Int) =>
.done 2 [.int .i64 n6,.int .i64 n8,.int .i64 n10])))) (
.done 2 [.int .i64 n2,.int .i64 n3,.int .i64 n4])) (u3 fun (n11 n12 n13:Int) =>
.call F.a82 [data.v,.int .i64 n11,.int .i64 n12,.int .i64 n13,.pointer (some a1)] (sI .i64) (u1 fun (n14:Int) =>
.lt (.int .i64) (n14) fun (n15:Int) =>
.done 1 [.int .i64 n15]))) (
.done 1 [.int .i64 n3])) (u1 fun (n16:Int) =>
.read True (ld T.a10 a1) (sI .i64) (u1 fun (n17:Int) =>
.lt (.bool) (n17 == 0) fun b18 =>
.ite (b18) (
.lt (.int .i64) (n16) fun (n19:Int) =>
.done 0 [.int .i64 n19,.int .i64 1]) (
.lt (.bool) (n17 == 12) fun b20 =>
.ite (b20) (
.lt (.int .i64) (n16) fun (n21:Int) =>
.done 0 [.int .i64 n21,.int .i64 2]) (
.lt (.int .i64) (n16) fun (n22:Int) =>
.done 0 [.int .i64 n22,.int .i64 0])))))
theorem zf87_calls (data:Sl) (a b:Int) {w:World} {R:List Value→World→Prop} (h:(zf87 data a b).wp P (fun _=>True) w fun e vs w'=>e=0∧R vs w'):Ret P F.a78 #[.slice data.a data.len data.cap,.int .i64 a,.int .i64 b] w R:=dS (n:=57) (rv:=[.tmp 6,.tmp 7]) { cnd:=[(71916856578932770,[(10,.one (.int .i64)),(11,.one (.int .i64)),(12,.one (.int .i64))]),(2305807824870965280,[(11,.one (.int .i64))])],blk:=[],reg:=[],lps:=[] } [.val (.slice data.a data.len data.cap),.val (.int .i64 a),.val (.int .i64 b)] Go.Proofs.Tryz.func180 (by kernel_rfl) (by kernel_rfl) (by kernel_rfl) (by kernel_rfl) h
def zf98 (data:Sl) (a:Int) (b:Int):Prog :=
.lt (.int .i64) (a) fun (n0:Int) =>
.lt (.int .i64) (IntKind.wrap .i64 (b-1)) fun (n1:Int) =>
.bind 1 [] (
.loop 2 [.one (.int .i64),.one (.int .i64)] (n0,(n1,())) (u2 fun (n2 n3:Int) =>
.ite (decide (n2<n3)) (
.bind 3 [] (
.tick <|
.ex [.adr] (c1 fun a4=>0≤n3∧n3<((data.len:Nat):Int)∧data.a=some a4) (u1 fun a5 =>
.read True (ld T.a31 (Addr.add a5 (Int.toNat n3*1))) sS (u1 fun s6 =>
.ex [.adr] (c1 fun a7=>0≤n2∧n2<((data.len:Nat):Int)∧data.a=some a7) (u1 fun a8 =>
.read True (ld T.a31 (Addr.add a8 (Int.toNat n2*1))) sS (u1 fun s9 =>
.ex [.adr] (c1 fun a10=>0≤n2∧n2<((data.len:Nat):Int)∧data.a=some a10) (u1 fun a11 =>
.actU (st T.a31 (Addr.add a11 (Int.toNat n2*1)) (.string s6)) <|
.ex [.adr] (c1 fun a12=>0≤n3∧n3<((data.len:Nat):Int)∧data.a=some a12) (u1 fun a13 =>
.actU (st T.a31 (Addr.add a13 (Int.toNat n3*1)) (.string s9)) <|
.untick <|
.done 3 []))))))) (u0 <|
.lt (.int .i64) (IntKind.wrap .i64 (n2+1)) fun (n14:Int) =>
.lt (.int .i64) (IntKind.wrap .i64 (n3-1)) fun (n15:Int) =>
.done 2 [.int .i64 n14,.int .i64 n15])) (
.done 1 []))) (u0 <|
.done 0 [])
theorem zf98_calls (data:Sl) (a b:Int) {w:World} {R:List Value→World→Prop} (h:(zf98 data a b).wp P (fun _=>True) w fun e vs w'=>e=0∧R vs w'):Ret P F.a89 #[.slice data.a data.len data.cap,.int .i64 a,.int .i64 b] w R:=dS (n:=32) (rv:=[]) { cnd:=[],blk:=[(0,[])],reg:=[(3,[])],lps:=[(0,[(6,.one (.int .i64)),(7,.one (.int .i64))])] } [.val (.slice data.a data.len data.cap),.val (.int .i64 a),.val (.int .i64 b)] Go.Proofs.Tryz.func181 (by kernel_rfl) (by kernel_rfl) (by kernel_rfl) (by kernel_rfl) h
def zf94 (data:Sl) (a:Int) (b:Int):Prog :=
.lt (.int .i64) (IntKind.wrap .i64 (a+1)) fun (n0:Int) =>
.bind 1 [] (
.loop 2 [.one (.int .i64),.one (.int .i64)] (n0,(0,())) (u2 fun (n1 n2:Int) =>
.ite (decide (n2<5)) (
.bind 3 [.one (.int .i64)] (
.bind 4 [.one (.int .i64)] (
.loop 5 [.one (.int .i64)] (n1,()) (u1 fun (n3:Int) =>
.bind 6 [.one .bool] (
.tick <|
.ex [.adr] (c1 fun a4=>decide (n3<b)=true→0≤n3∧n3<((data.len:Nat):Int)∧data.a=some a4) (u1 fun a5 =>
.read (decide (n3<b)=true) (ld T.a31 (Addr.add a5 (Int.toNat n3*1))) sS (u1 fun s6 =>
.ex [.adr] (c1 fun a7=>decide (n3<b)=true→0≤IntKind.wrap .i64 (n3-1)∧IntKind.wrap .i64 (n3-1)<((data.len:Nat):Int)∧data.a=some a7) (u1 fun a8 =>
.read (decide (n3<b)=true) (ld T.a31 (Addr.add a8 (Int.toNat (IntKind.wrap .i64 (n3-1))*1))) sS (u1 fun s9 =>
.ite (decide (n3<b)) (
.call F.a1 [.string s6,.string s9] sB (u1 fun b10 =>
.untick <|
.done 6 [.bool (not b10)])) (
.untick <|
.done 6 [.bool false])))))) (u1 fun b11 =>
.ite (b11) (
.lt (.int .i64) (IntKind.wrap .i64 (n3+1)) fun (n12:Int) =>
.done 5 [.int .i64 n12]) (
.done 4 [.int .i64 n3])))) (u1 fun (n13:Int) =>
.ite (n13 == b) (
.done 0 [.bool true]) (
.ite (decide (IntKind.wrap .i64 (b-a)<50)) (
.done 0 [.bool false]) (
.bind 4 [] (
.tick <|
.ex [.adr] (c1 fun a14=>0≤IntKind.wrap .i64 (n13-1)∧IntKind.wrap .i64 (n13-1)<((data.len:Nat):Int)∧data.a=some a14) (u1 fun a15 =>
.read True (ld T.a31 (Addr.add a15 (Int.toNat (IntKind.wrap .i64 (n13-1))*1))) sS (u1 fun s16 =>
.ex [.adr] (c1 fun a17=>0≤n13∧n13<((data.len:Nat):Int)∧data.a=some a17) (u1 fun a18 =>
.read True (ld T.a31 (Addr.add a18 (Int.toNat n13*1))) sS (u1 fun s19 =>
.ex [.adr] (c1 fun a20=>0≤n13∧n13<((data.len:Nat):Int)∧data.a=some a20) (u1 fun a21 =>
.actU (st T.a31 (Addr.add a21 (Int.toNat n13*1)) (.string s16)) <|
.ex [.adr] (c1 fun a22=>0≤IntKind.wrap .i64 (n13-1)∧IntKind.wrap .i64 (n13-1)<((data.len:Nat):Int)∧data.a=some a22) (u1 fun a23 =>
.actU (st T.a31 (Addr.add a23 (Int.toNat (IntKind.wrap .i64 (n13-1))*1)) (.string s19)) <|
.untick <|
.done 4 []))))))) (u0 <|
.bind 4 [] (
.ite (decide (IntKind.wrap .i64 (n13-a)≥2)) (
.lt (.int .i64) (IntKind.wrap .i64 (n13-1)) fun (n24:Int) =>
.bind 5 [] (
.loop 6 [.one (.int .i64)] (n24,()) (u1 fun (n25:Int) =>
.ite (decide (n25≥1)) (
.tick <|
.ex [.adr] (c1 fun a26=>0≤n25∧n25<((data.len:Nat):Int)∧data.a=some a26) (u1 fun a27 =>
.read True (ld T.a31 (Addr.add a27 (Int.toNat n25*1))) sS (u1 fun s28 =>
.ex [.adr] (c1 fun a29=>0≤IntKind.wrap .i64 (n25-1)∧IntKind.wrap .i64 (n25-1)<((data.len:Nat):Int)∧data.a=some a29) (u1 fun a30 =>
.read True (ld T.a31 (Addr.add a30 (Int.toNat (IntKind.wrap .i64 (n25-1))*1))) sS (u1 fun s31 =>
.call F.a1 [.string s28,.string s31] sB (u1 fun b32 =>
.untick <|
.ite (not b32) (
.done 5 []) (
.bind 7 [] (
.tick <|
.ex [.adr] (c1 fun a33=>0≤IntKind.wrap .i64 (n25-1)∧IntKind.wrap .i64 (n25-1)<((data.len:Nat):Int)∧data.a=some a33) (u1 fun a34 =>
.read True (ld T.a31 (Addr.add a34 (Int.toNat (IntKind.wrap .i64 (n25-1))*1))) sS (u1 fun s35 =>
.ex [.adr] (c1 fun a36=>0≤n25∧n25<((data.len:Nat):Int)∧data.a=some a36) (u1 fun a37 =>
.read True (ld T.a31 (Addr.add a37 (Int.toNat n25*1))) sS (u1 fun s38 =>
.ex [.adr] (c1 fun a39=>0≤n25∧n25<((data.len:Nat):Int)∧data.a=some a39) (u1 fun a40 =>
.actU (st T.a31 (Addr.add a40 (Int.toNat n25*1)) (.string s35)) <|
.ex [.adr] (c1 fun a41=>0≤IntKind.wrap .i64 (n25-1)∧IntKind.wrap .i64 (n25-1)<((data.len:Nat):Int)∧data.a=some a41) (u1 fun a42 =>
.actU (st T.a31 (Addr.add a42 (Int.toNat (IntKind.wrap .i64 (n25-1))*1)) (.string s38)) <|
.untick <|
.done 7 []))))))) (u0 <|
.lt (.int .i64) (IntKind.wrap .i64 (n25-1)) fun (n43:Int) =>
.done 6 [.int .i64 n43])))))))) (
.done 5 []))) (u0 <|
.done 4 [])) (
.done 4 [])) (u0 <|
.bind 4 [] (
.ite (decide (IntKind.wrap .i64 (b-n13)≥2)) (
.lt (.int .i64) (IntKind.wrap .i64 (n13+1)) fun (n44:Int) =>
.bind 5 [] (
.loop 6 [.one (.int .i64)] (n44,()) (u1 fun (n45:Int) =>
.ite (decide (n45<b)) (
.tick <|
.ex [.adr] (c1 fun a46=>0≤n45∧n45<((data.len:Nat):Int)∧data.a=some a46) (u1 fun a47 =>
.read True (ld T.a31 (Addr.add a47 (Int.toNat n45*1))) sS (u1 fun s48 =>
.ex [.adr] (c1 fun a49=>0≤IntKind.wrap .i64 (n45-1)∧IntKind.wrap .i64 (n45-1)<((data.len:Nat):Int)∧data.a=some a49) (u1 fun a50 =>
.read True (ld T.a31 (Addr.add a50 (Int.toNat (IntKind.wrap .i64 (n45-1))*1))) sS (u1 fun s51 =>
.call F.a1 [.string s48,.string s51] sB (u1 fun b52 =>
.untick <|
.ite (not b52) (
.done 5 []) (
.bind 7 [] (
.tick <|
.ex [.adr] (c1 fun a53=>0≤IntKind.wrap .i64 (n45-1)∧IntKind.wrap .i64 (n45-1)<((data.len:Nat):Int)∧data.a=some a53) (u1 fun a54 =>
.read True (ld T.a31 (Addr.add a54 (Int.toNat (IntKind.wrap .i64 (n45-1))*1))) sS (u1 fun s55 =>
.ex [.adr] (c1 fun a56=>0≤n45∧n45<((data.len:Nat):Int)∧data.a=some a56) (u1 fun a57 =>
.read True (ld T.a31 (Addr.add a57 (Int.toNat n45*1))) sS (u1 fun s58 =>
.ex [.adr] (c1 fun a59=>0≤n45∧n45<((data.len:Nat):Int)∧data.a=some a59) (u1 fun a60 =>
.actU (st T.a31 (Addr.add a60 (Int.toNat n45*1)) (.string s55)) <|
.ex [.adr] (c1 fun a61=>0≤IntKind.wrap .i64 (n45-1)∧IntKind.wrap .i64 (n45-1)<((data.len:Nat):Int)∧data.a=some a61) (u1 fun a62 =>
.actU (st T.a31 (Addr.add a62 (Int.toNat (IntKind.wrap .i64 (n45-1))*1)) (.string s58)) <|
.untick <|
.done 7 []))))))) (u0 <|
.lt (.int .i64) (IntKind.wrap .i64 (n45+1)) fun (n63:Int) =>
.done 6 [.int .i64 n63])))))))) (
.done 5 []))) (u0 <|
.done 4 [])) (
.done 4 [])) (u0 <|
.done 3 [.int .i64 n13]))))))) (u1 fun (n64:Int) =>
.lt (.int .i64) (IntKind.wrap .i64 (n2+1)) fun (n65:Int) =>
.done 2 [.int .i64 n64,.int .i64 n65])) (
.done 1 []))) (u0 <|
.done 0 [.bool false])
theorem zf94_calls (data:Sl) (a b:Int) {w:World} {R:List Value→World→Prop} (h:(zf94 data a b).wp P (fun _=>True) w fun e vs w'=>e=0∧R vs w'):Ret P F.a85 #[.slice data.a data.len data.cap,.int .i64 a,.int .i64 b] w R:=dS (n:=133) (rv:=[.tmp 6]) { cnd:=[(162259276810323897460099431530557,[]),(44601490394465097853804022731031474851545186,[])],blk:=[(0,[]),(1,[(7,.one (.int .i64))]),(2,[(7,.one (.int .i64))]),(4,[]),(6,[])],reg:=[(5,[(32,.one .bool)]),(11,[]),(17,[]),(23,[])],lps:=[(0,[(7,.one (.int .i64)),(8,.one (.int .i64))]),(2,[(7,.one (.int .i64))]),(4,[(9,.one (.int .i64))]),(6,[(10,.one (.int .i64))])] } [.val (.slice data.a data.len data.cap),.val (.int .i64 a),.val (.int .i64 b)] Go.Proofs.Tryz.func182 (by kernel_rfl) (by kernel_rfl) (by kernel_rfl) (by kernel_rfl) h
def zf1 (x:ByteArray) (y:ByteArray):Prog :=
.bind 1 [.one .bool] (
.call F.a2 [.string x] sB (u1 fun b0 =>
.ite (b0) (
.call F.a2 [.string y] sB (u1 fun b1 =>
.lt (.bool) (not b1 || Op.bytesLess (ByteArray.toList x) (ByteArray.toList y)) fun b2 =>
.done 1 [.bool b2])) (
.lt (.bool) (Op.bytesLess (ByteArray.toList x) (ByteArray.toList y)) fun b3 =>
.done 1 [.bool b3]))) (u1 fun b4 =>
.done 0 [.bool b4])
theorem zf1_calls (x y:ByteArray) {w:World} {R:List Value→World→Prop} (h:(zf1 x y).wp P (fun _=>True) w fun e vs w'=>e=0∧R vs w'):Ret P F.a1 #[.string x,.string y] w R:=dS (n:=17) (rv:=[.tmp 4]) { cnd:=[],blk:=[],reg:=[(1,[(4,.one .bool)])],lps:=[] } [.val (.string x),.val (.string y)] Go.Proofs.Tryz.func183 (by kernel_rfl) (by kernel_rfl) (by kernel_rfl) (by kernel_rfl) h
def zf95 (data:Sl) (a b:Int) (pivot:Int):Prog :=
.bind 1 [] (
.tick <|
.ex [.adr] (c1 fun a0=>0≤pivot∧pivot<((data.len:Nat):Int)∧data.a=some a0) (u1 fun a1 =>
.read True (ld T.a31 (Addr.add a1 (Int.toNat pivot*1))) sS (u1 fun s2 =>
.ex [.adr] (c1 fun a3=>0≤a∧a<((data.len:Nat):Int)∧data.a=some a3) (u1 fun a4 =>
.read True (ld T.a31 (Addr.add a4 (Int.toNat a*1))) sS (u1 fun s5 =>
.ex [.adr] (c1 fun a6=>0≤a∧a<((data.len:Nat):Int)∧data.a=some a6) (u1 fun a7 =>
.actU (st T.a31 (Addr.add a7 (Int.toNat a*1)) (.string s2)) <|
.ex [.adr] (c1 fun a8=>0≤pivot∧pivot<((data.len:Nat):Int)∧data.a=some a8) (u1 fun a9 =>
.actU (st T.a31 (Addr.add a9 (Int.toNat pivot*1)) (.string s5)) <|
.untick <|
.done 1 []))))))) (u0 <|
.lt (.int .i64) (IntKind.wrap .i64 (a+1)) fun (n10:Int) =>
.lt (.int .i64) (IntKind.wrap .i64 (b-1)) fun (n11:Int) =>
.bind 1 [.one (.int .i64)] (
.loop 2 [.one (.int .i64),.one (.int .i64)] (n10,(n11,())) (u2 fun (n12 n13:Int) =>
.bind 3 [.one (.int .i64),.one (.int .i64)] (
.bind 4 [.one (.int .i64)] (
.loop 5 [.one (.int .i64)] (n12,()) (u1 fun (n14:Int) =>
.bind 6 [.one .bool] (
.tick <|
.ex [.adr] (c1 fun a15=>decide (n14≤n13)=true→0≤a∧a<((data.len:Nat):Int)∧data.a=some a15) (u1 fun a16 =>
.read (decide (n14≤n13)=true) (ld T.a31 (Addr.add a16 (Int.toNat a*1))) sS (u1 fun s17 =>
.ex [.adr] (c1 fun a18=>decide (n14≤n13)=true→0≤n14∧n14<((data.len:Nat):Int)∧data.a=some a18) (u1 fun a19 =>
.read (decide (n14≤n13)=true) (ld T.a31 (Addr.add a19 (Int.toNat n14*1))) sS (u1 fun s20 =>
.ite (decide (n14≤n13)) (
.call F.a1 [.string s17,.string s20] sB (u1 fun b21 =>
.untick <|
.done 6 [.bool (not b21)])) (
.untick <|
.done 6 [.bool false])))))) (u1 fun b22 =>
.ite (b22) (
.lt (.int .i64) (IntKind.wrap .i64 (n14+1)) fun (n23:Int) =>
.done 5 [.int .i64 n23]) (
.done 4 [.int .i64 n14])))) (u1 fun (n24:Int) =>
.bind 4 [.one (.int .i64)] (
.loop 5 [.one (.int .i64)] (n13,()) (u1 fun (n25:Int) =>
.bind 6 [.one .bool] (
.tick <|
.ex [.adr] (c1 fun a26=>decide (n24≤n25)=true→0≤a∧a<((data.len:Nat):Int)∧data.a=some a26) (u1 fun a27 =>
.read (decide (n24≤n25)=true) (ld T.a31 (Addr.add a27 (Int.toNat a*1))) sS (u1 fun s28 =>
.ex [.adr] (c1 fun a29=>decide (n24≤n25)=true→0≤n25∧n25<((data.len:Nat):Int)∧data.a=some a29) (u1 fun a30 =>
.read (decide (n24≤n25)=true) (ld T.a31 (Addr.add a30 (Int.toNat n25*1))) sS (u1 fun s31 =>
.ite (decide (n24≤n25)) (
.call F.a1 [.string s28,.string s31] sB (u1 fun b32 =>
.untick <|
.done 6 [.bool b32])) (
.untick <|
.done 6 [.bool false])))))) (u1 fun b33 =>
.ite (b33) (
.lt (.int .i64) (IntKind.wrap .i64 (n25-1)) fun (n34:Int) =>
.done 5 [.int .i64 n34]) (
.done 4 [.int .i64 n25])))) (u1 fun (n35:Int) =>
.ite (decide (n24>n35)) (
.done 1 [.int .i64 n24]) (
.bind 4 [] (
.tick <|
.ex [.adr] (c1 fun a36=>0≤n35∧n35<((data.len:Nat):Int)∧data.a=some a36) (u1 fun a37 =>
.read True (ld T.a31 (Addr.add a37 (Int.toNat n35*1))) sS (u1 fun s38 =>
.ex [.adr] (c1 fun a39=>0≤n24∧n24<((data.len:Nat):Int)∧data.a=some a39) (u1 fun a40 =>
.read True (ld T.a31 (Addr.add a40 (Int.toNat n24*1))) sS (u1 fun s41 =>
.ex [.adr] (c1 fun a42=>0≤n24∧n24<((data.len:Nat):Int)∧data.a=some a42) (u1 fun a43 =>
.actU (st T.a31 (Addr.add a43 (Int.toNat n24*1)) (.string s38)) <|
.ex [.adr] (c1 fun a44=>0≤n35∧n35<((data.len:Nat):Int)∧data.a=some a44) (u1 fun a45 =>
.actU (st T.a31 (Addr.add a45 (Int.toNat n35*1)) (.string s41)) <|
.untick <|
.done 4 []))))))) (u0 <|
.lt (.int .i64) (IntKind.wrap .i64 (n24+1)) fun (n46:Int) =>
.lt (.int .i64) (IntKind.wrap .i64 (n35-1)) fun (n47:Int) =>
.done 3 [.int .i64 n46,.int .i64 n47]))))) (u2 fun (n48 n49:Int) =>
.done 2 [.int .i64 n48,.int .i64 n49]))) (u1 fun (n50:Int) =>
.lt (.int .i64) (n50) fun (n51:Int) =>
.done 0 [.int .i64 n51]))
theorem zf95_calls (data:Sl) (a b pivot:Int) {w:World} {R:List Value→World→Prop} (h:(zf95 data a b pivot).wp P (fun _=>True) w fun e vs w'=>e=0∧R vs w'):Ret P F.a86 #[.slice data.a data.len data.cap,.int .i64 a,.int .i64 b,.int .i64 pivot] w R:=dS (n:=84) (rv:=[.tmp 8]) { cnd:=[],blk:=[(0,[(9,.one (.int .i64))]),(1,[(9,.one (.int .i64)),(10,.one (.int .i64))]),(2,[(9,.one (.int .i64))]),(4,[(10,.one (.int .i64))])],reg:=[(1,[]),(3,[(43,.one .bool)]),(5,[(59,.one .bool)]),(8,[])],lps:=[(0,[(9,.one (.int .i64)),(10,.one (.int .i64))]),(2,[(9,.one (.int .i64))]),(4,[(10,.one (.int .i64))])] } [.val (.slice data.a data.len data.cap),.val (.int .i64 a),.val (.int .i64 b),.val (.int .i64 pivot)] Go.Proofs.Tryz.func184 (by kernel_rfl) (by kernel_rfl) (by kernel_rfl) (by kernel_rfl) h
def zf96 (data:Sl) (a b:Int) (pivot:Int):Prog :=
.bind 1 [] (
.tick <|
.ex [.adr] (c1 fun a0=>0≤pivot∧pivot<((data.len:Nat):Int)∧data.a=some a0) (u1 fun a1 =>
.read True (ld T.a31 (Addr.add a1 (Int.toNat pivot*1))) sS (u1 fun s2 =>
.ex [.adr] (c1 fun a3=>0≤a∧a<((data.len:Nat):Int)∧data.a=some a3) (u1 fun a4 =>
.read True (ld T.a31 (Addr.add a4 (Int.toNat a*1))) sS (u1 fun s5 =>
.ex [.adr] (c1 fun a6=>0≤a∧a<((data.len:Nat):Int)∧data.a=some a6) (u1 fun a7 =>
.actU (st T.a31 (Addr.add a7 (Int.toNat a*1)) (.string s2)) <|
.ex [.adr] (c1 fun a8=>0≤pivot∧pivot<((data.len:Nat):Int)∧data.a=some a8) (u1 fun a9 =>
.actU (st T.a31 (Addr.add a9 (Int.toNat pivot*1)) (.string s5)) <|
.untick <|
.done 1 []))))))) (u0 <|
.lt (.int .i64) (IntKind.wrap .i64 (a+1)) fun (n10:Int) =>
.lt (.int .i64) (IntKind.wrap .i64 (b-1)) fun (n11:Int) =>
.bind 1 [.one (.int .i64)] (
.loop 2 [.one (.int .i64)] (n10,()) (u1 fun (n12:Int) =>
.bind 3 [.one .bool] (
.tick <|
.ex [.adr] (c1 fun a13=>decide (n12≤n11)=true→0≤n12∧n12<((data.len:Nat):Int)∧data.a=some a13) (u1 fun a14 =>
.read (decide (n12≤n11)=true) (ld T.a31 (Addr.add a14 (Int.toNat n12*1))) sS (u1 fun s15 =>
.ex [.adr] (c1 fun a16=>decide (n12≤n11)=true→0≤a∧a<((data.len:Nat):Int)∧data.a=some a16) (u1 fun a17 =>
.read (decide (n12≤n11)=true) (ld T.a31 (Addr.add a17 (Int.toNat a*1))) sS (u1 fun s18 =>
.ite (decide (n12≤n11)) (
.call F.a1 [.string s15,.string s18] sB (u1 fun b19 =>
.untick <|
.done 3 [.bool b19])) (
.untick <|
.done 3 [.bool false])))))) (u1 fun b20 =>
.ite (b20) (
.lt (.int .i64) (IntKind.wrap .i64 (n12+1)) fun (n21:Int) =>
.done 2 [.int .i64 n21]) (
.done 1 [.int .i64 n12])))) (u1 fun (n22:Int) =>
.bind 1 [.one (.int .i64)] (
.loop 2 [.one (.int .i64)] (n11,()) (u1 fun (n23:Int) =>
.bind 3 [.one .bool] (
.tick <|
.ex [.adr] (c1 fun a24=>decide (n22≤n23)=true→0≤n23∧n23<((data.len:Nat):Int)∧data.a=some a24) (u1 fun a25 =>
.read (decide (n22≤n23)=true) (ld T.a31 (Addr.add a25 (Int.toNat n23*1))) sS (u1 fun s26 =>
.ex [.adr] (c1 fun a27=>decide (n22≤n23)=true→0≤a∧a<((data.len:Nat):Int)∧data.a=some a27) (u1 fun a28 =>
.read (decide (n22≤n23)=true) (ld T.a31 (Addr.add a28 (Int.toNat a*1))) sS (u1 fun s29 =>
.ite (decide (n22≤n23)) (
.call F.a1 [.string s26,.string s29] sB (u1 fun b30 =>
.untick <|
.done 3 [.bool (not b30)])) (
.untick <|
.done 3 [.bool false])))))) (u1 fun b31 =>
.ite (b31) (
.lt (.int .i64) (IntKind.wrap .i64 (n23-1)) fun (n32:Int) =>
.done 2 [.int .i64 n32]) (
.done 1 [.int .i64 n23])))) (u1 fun (n33:Int) =>
.ite (decide (n22>n33)) (
.bind 1 [] (
.tick <|
.ex [.adr] (c1 fun a34=>0≤a∧a<((data.len:Nat):Int)∧data.a=some a34) (u1 fun a35 =>
.read True (ld T.a31 (Addr.add a35 (Int.toNat a*1))) sS (u1 fun s36 =>
.ex [.adr] (c1 fun a37=>0≤n33∧n33<((data.len:Nat):Int)∧data.a=some a37) (u1 fun a38 =>
.read True (ld T.a31 (Addr.add a38 (Int.toNat n33*1))) sS (u1 fun s39 =>
.ex [.adr] (c1 fun a40=>0≤n33∧n33<((data.len:Nat):Int)∧data.a=some a40) (u1 fun a41 =>
.actU (st T.a31 (Addr.add a41 (Int.toNat n33*1)) (.string s36)) <|
.ex [.adr] (c1 fun a42=>0≤a∧a<((data.len:Nat):Int)∧data.a=some a42) (u1 fun a43 =>
.actU (st T.a31 (Addr.add a43 (Int.toNat a*1)) (.string s39)) <|
.untick <|
.done 1 []))))))) (u0 <|
.lt (.int .i64) (n33) fun (n44:Int) =>
.done 0 [.int .i64 n44,.bool true])) (
.bind 1 [] (
.tick <|
.ex [.adr] (c1 fun a45=>0≤n33∧n33<((data.len:Nat):Int)∧data.a=some a45) (u1 fun a46 =>
.read True (ld T.a31 (Addr.add a46 (Int.toNat n33*1))) sS (u1 fun s47 =>
.ex [.adr] (c1 fun a48=>0≤n22∧n22<((data.len:Nat):Int)∧data.a=some a48) (u1 fun a49 =>
.read True (ld T.a31 (Addr.add a49 (Int.toNat n22*1))) sS (u1 fun s50 =>
.ex [.adr] (c1 fun a51=>0≤n22∧n22<((data.len:Nat):Int)∧data.a=some a51) (u1 fun a52 =>
.actU (st T.a31 (Addr.add a52 (Int.toNat n22*1)) (.string s47)) <|
.ex [.adr] (c1 fun a53=>0≤n33∧n33<((data.len:Nat):Int)∧data.a=some a53) (u1 fun a54 =>
.actU (st T.a31 (Addr.add a54 (Int.toNat n33*1)) (.string s50)) <|
.untick <|
.done 1 []))))))) (u0 <|
.lt (.int .i64) (IntKind.wrap .i64 (n22+1)) fun (n55:Int) =>
.lt (.int .i64) (IntKind.wrap .i64 (n33-1)) fun (n56:Int) =>
.bind 1 [.one (.int .i64)] (
.loop 2 [.one (.int .i64),.one (.int .i64)] (n55,(n56,())) (u2 fun (n57 n58:Int) =>
.bind 3 [.one (.int .i64),.one (.int .i64)] (
.bind 4 [.one (.int .i64)] (
.loop 5 [.one (.int .i64)] (n57,()) (u1 fun (n59:Int) =>
.bind 6 [.one .bool] (
.tick <|
.ex [.adr] (c1 fun a60=>decide (n59≤n58)=true→0≤n59∧n59<((data.len:Nat):Int)∧data.a=some a60) (u1 fun a61 =>
.read (decide (n59≤n58)=true) (ld T.a31 (Addr.add a61 (Int.toNat n59*1))) sS (u1 fun s62 =>
.ex [.adr] (c1 fun a63=>decide (n59≤n58)=true→0≤a∧a<((data.len:Nat):Int)∧data.a=some a63) (u1 fun a64 =>
.read (decide (n59≤n58)=true) (ld T.a31 (Addr.add a64 (Int.toNat a*1))) sS (u1 fun s65 =>
.ite (decide (n59≤n58)) (
.call F.a1 [.string s62,.string s65] sB (u1 fun b66 =>
.untick <|
.done 6 [.bool b66])) (
.untick <|
.done 6 [.bool false])))))) (u1 fun b67 =>
.ite (b67) (
.lt (.int .i64) (IntKind.wrap .i64 (n59+1)) fun (n68:Int) =>
.done 5 [.int .i64 n68]) (
.done 4 [.int .i64 n59])))) (u1 fun (n69:Int) =>
.bind 4 [.one (.int .i64)] (
.loop 5 [.one (.int .i64)] (n58,()) (u1 fun (n70:Int) =>
.bind 6 [.one .bool] (
.tick <|
.ex [.adr] (c1 fun a71=>decide (n69≤n70)=true→0≤n70∧n70<((data.len:Nat):Int)∧data.a=some a71) (u1 fun a72 =>
.read (decide (n69≤n70)=true) (ld T.a31 (Addr.add a72 (Int.toNat n70*1))) sS (u1 fun s73 =>
.ex [.adr] (c1 fun a74=>decide (n69≤n70)=true→0≤a∧a<((data.len:Nat):Int)∧data.a=some a74) (u1 fun a75 =>
.read (decide (n69≤n70)=true) (ld T.a31 (Addr.add a75 (Int.toNat a*1))) sS (u1 fun s76 =>
.ite (decide (n69≤n70)) (
.call F.a1 [.string s73,.string s76] sB (u1 fun b77 =>
.untick <|
.done 6 [.bool (not b77)])) (
.untick <|
.done 6 [.bool false])))))) (u1 fun b78 =>
.ite (b78) (
.lt (.int .i64) (IntKind.wrap .i64 (n70-1)) fun (n79:Int) =>
.done 5 [.int .i64 n79]) (
.done 4 [.int .i64 n70])))) (u1 fun (n80:Int) =>
.ite (decide (n69>n80)) (
.done 1 [.int .i64 n80]) (
.bind 4 [] (
.tick <|
.ex [.adr] (c1 fun a81=>0≤n80∧n80<((data.len:Nat):Int)∧data.a=some a81) (u1 fun a82 =>
.read True (ld T.a31 (Addr.add a82 (Int.toNat n80*1))) sS (u1 fun s83 =>
.ex [.adr] (c1 fun a84=>0≤n69∧n69<((data.len:Nat):Int)∧data.a=some a84) (u1 fun a85 =>
.read True (ld T.a31 (Addr.add a85 (Int.toNat n69*1))) sS (u1 fun s86 =>
.ex [.adr] (c1 fun a87=>0≤n69∧n69<((data.len:Nat):Int)∧data.a=some a87) (u1 fun a88 =>
.actU (st T.a31 (Addr.add a88 (Int.toNat n69*1)) (.string s83)) <|
.ex [.adr] (c1 fun a89=>0≤n80∧n80<((data.len:Nat):Int)∧data.a=some a89) (u1 fun a90 =>
.actU (st T.a31 (Addr.add a90 (Int.toNat n80*1)) (.string s86)) <|
.untick <|
.done 4 []))))))) (u0 <|
.lt (.int .i64) (IntKind.wrap .i64 (n69+1)) fun (n91:Int) =>
.lt (.int .i64) (IntKind.wrap .i64 (n80-1)) fun (n92:Int) =>
.done 3 [.int .i64 n91,.int .i64 n92]))))) (u2 fun (n93 n94:Int) =>
.done 2 [.int .i64 n93,.int .i64 n94]))) (u1 fun (n95:Int) =>
.bind 1 [] (
.tick <|
.ex [.adr] (c1 fun a96=>0≤a∧a<((data.len:Nat):Int)∧data.a=some a96) (u1 fun a97 =>
.read True (ld T.a31 (Addr.add a97 (Int.toNat a*1))) sS (u1 fun s98 =>
.ex [.adr] (c1 fun a99=>0≤n95∧n95<((data.len:Nat):Int)∧data.a=some a99) (u1 fun a100 =>
.read True (ld T.a31 (Addr.add a100 (Int.toNat n95*1))) sS (u1 fun s101 =>
.ex [.adr] (c1 fun a102=>0≤n95∧n95<((data.len:Nat):Int)∧data.a=some a102) (u1 fun a103 =>
.actU (st T.a31 (Addr.add a103 (Int.toNat n95*1)) (.string s98)) <|
.ex [.adr] (c1 fun a104=>0≤a∧a<((data.len:Nat):Int)∧data.a=some a104) (u1 fun a105 =>
.actU (st T.a31 (Addr.add a105 (Int.toNat a*1)) (.string s101)) <|
.untick <|
.done 1 []))))))) (u0 <|
.lt (.int .i64) (n95) fun (n106:Int) =>
.done 0 [.int .i64 n106,.bool false])))))))
theorem zf96_calls (data:Sl) (a b pivot:Int) {w:World} {R:List Value→World→Prop} (h:(zf96 data a b pivot).wp P (fun _=>True) w fun e vs w'=>e=0∧R vs w'):Ret P F.a87 #[.slice data.a data.len data.cap,.int .i64 a,.int .i64 b,.int .i64 pivot] w R:=dS (n:=168) (rv:=[.tmp 8,.tmp 9]) { cnd:=[],blk:=[(0,[(10,.one (.int .i64))]),(2,[(11,.one (.int .i64))]),(4,[(11,.one (.int .i64))]),(5,[(10,.one (.int .i64)),(11,.one (.int .i64))]),(6,[(10,.one (.int .i64))]),(8,[(11,.one (.int .i64))])],reg:=[(1,[]),(3,[(43,.one .bool)]),(5,[(60,.one .bool)]),(8,[]),(10,[]),(13,[(112,.one .bool)]),(15,[(129,.one .bool)]),(18,[]),(21,[])],lps:=[(0,[(10,.one (.int .i64))]),(2,[(11,.one (.int .i64))]),(4,[(10,.one (.int .i64)),(11,.one (.int .i64))]),(6,[(10,.one (.int .i64))]),(8,[(11,.one (.int .i64))])] } [.val (.slice data.a data.len data.cap),.val (.int .i64 a),.val (.int .i64 b),.val (.int .i64 pivot)] Go.Proofs.Tryz.func185 (by kernel_rfl) (by kernel_rfl) (by kernel_rfl) (by kernel_rfl) h
def zf36 (x:Int):Prog :=
.bind 1 [.one (.int .u64),.one (.int .i64)] (
.ite (decide (x≥4294967296)) (
.lt (.int .u64) (Int.fdiv x 4294967296) fun (n0:Int) =>
.done 1 [.int .u64 n0,.int .i64 32]) (
.done 1 [.int .u64 x,.int .i64 0])) (u2 fun (n1 n2:Int) =>
.bind 1 [.one (.int .u64),.one (.int .i64)] (
.ite (decide (n1≥65536)) (
.lt (.int .u64) (Int.fdiv n1 65536) fun (n3:Int) =>
.lt (.int .i64) (IntKind.wrap .i64 (n2+16)) fun (n4:Int) =>
.done 1 [.int .u64 n3,.int .i64 n4]) (
.done 1 [.int .u64 n1,.int .i64 n2])) (u2 fun (n5 n6:Int) =>
.bind 1 [.one (.int .u64),.one (.int .i64)] (
.ite (decide (n5≥256)) (
.lt (.int .u64) (Int.fdiv n5 256) fun (n7:Int) =>
.lt (.int .i64) (IntKind.wrap .i64 (n6+8)) fun (n8:Int) =>
.done 1 [.int .u64 n7,.int .i64 n8]) (
.done 1 [.int .u64 n5,.int .i64 n6])) (u2 fun (n9 n10:Int) =>
.must (0≤IntKind.wrap .u8 n9∧IntKind.wrap .u8 n9<256) <|
.lt (.int .i64) (IntKind.wrap .i64 (n10+IntKind.wrap .i64 (bt (ByteArray.mk #[0,1,2,2,3,3,3,3,4,4,4,4,4,4,4,4,5,5,5,5,5,5,5,5,5,5,5,5,5,5,5,5,6,6,6,6,6,6,6,6,6,6,6,6,6,6,6,6,6,6,6,6,6,6,6,6,6,6,6,6,6,6,6,6,7,7,7,7,7,7,7,7,7,7,7,7,7,7,7,7,7,7,7,7,7,7,7,7,7,7,7,7,7,7,7,7,7,7,7,7,7,7,7,7,7,7,7,7,7,7,7,7,7,7,7,7,7,7,7,7,7,7,7,7,7,7,7,7,8,8,8,8,8,8,8,8,8,8,8,8,8,8,8,8,8,8,8,8,8,8,8,8,8,8,8,8,8,8,8,8,8,8,8,8,8,8,8,8,8,8,8,8,8,8,8,8,8,8,8,8,8,8,8,8,8,8,8,8,8,8,8,8,8,8,8,8,8,8,8,8,8,8,8,8,8,8,8,8,8,8,8,8,8,8,8,8,8,8,8,8,8,8,8,8,8,8,8,8,8,8,8,8,8,8,8,8,8,8,8,8,8,8,8,8,8,8,8,8,8,8,8,8,8,8,8,8]) (IntKind.wrap .u8 n9)))) fun (n11:Int) =>
.done 0 [.int .i64 n11])))
theorem zf36_calls (x:Int) {w:World} {R:List Value→World→Prop} (h:(zf36 x).wp P (fun _=>True) w fun e vs w'=>e=0∧R vs w'):Ret P F.a31 #[.int .u64 x] w R:=dS (n:=25) (rv:=[.tmp 2]) { cnd:=[(413700,[(0,.one (.int .u64)),(2,.one (.int .i64))]),(31477768,[(0,.one (.int .u64)),(2,.one (.int .i64))]),(2013286414,[(0,.one (.int .u64)),(2,.one (.int .i64))])],blk:=[],reg:=[],lps:=[] } [.val (.int .u64 x)] Go.Proofs.Tryz.func187 (by kernel_rfl) (by kernel_rfl) (by kernel_rfl) (by kernel_rfl) h
def zf99 (data:Sl) (lo hi:Int) (first:Int):Prog :=
.lt (.int .i64) (lo) fun (n0:Int) =>
.bind 1 [] (
.loop 2 [.one (.int .i64)] (n0,()) (u1 fun (n1:Int) =>
.lt (.int .i64) (IntKind.wrap .i64 (IntKind.wrap .i64 (2*n1)+1)) fun (n2:Int) =>
.ite (decide (n2≥hi)) (
.done 1 []) (
.bind 3 [.one .bool] (
.tick <|
.ex [.adr] (c1 fun a3=>decide (IntKind.wrap .i64 (n2+1)<hi)=true→0≤IntKind.wrap .i64 (first+n2)∧IntKind.wrap .i64 (first+n2)<((data.len:Nat):Int)∧data.a=some a3) (u1 fun a4 =>
.read (decide (IntKind.wrap .i64 (n2+1)<hi)=true) (ld T.a31 (Addr.add a4 (Int.toNat (IntKind.wrap .i64 (first+n2))*1))) sS (u1 fun s5 =>
.ex [.adr] (c1 fun a6=>decide (IntKind.wrap .i64 (n2+1)<hi)=true→0≤IntKind.wrap .i64 (IntKind.wrap .i64 (first+n2)+1)∧IntKind.wrap .i64 (IntKind.wrap .i64 (first+n2)+1)<((data.len:Nat):Int)∧data.a=some a6) (u1 fun a7 =>
.read (decide (IntKind.wrap .i64 (n2+1)<hi)=true) (ld T.a31 (Addr.add a7 (Int.toNat (IntKind.wrap .i64 (IntKind.wrap .i64 (first+n2)+1))*1))) sS (u1 fun s8 =>
.ite (decide (IntKind.wrap .i64 (n2+1)<hi)) (
.call F.a1 [.string s5,.string s8] sB (u1 fun b9 =>
.untick <|
.done 3 [.bool b9])) (
.untick <|
.done 3 [.bool false])))))) (u1 fun b10 =>
.bind 3 [.one (.int .i64)] (
.ite (b10) (
.lt (.int .i64) (IntKind.wrap .i64 (n2+1)) fun (n11:Int) =>
.done 3 [.int .i64 n11]) (
.done 3 [.int .i64 n2])) (u1 fun (n12:Int) =>
.tick <|
.ex [.adr] (c1 fun a13=>0≤IntKind.wrap .i64 (first+n1)∧IntKind.wrap .i64 (first+n1)<((data.len:Nat):Int)∧data.a=some a13) (u1 fun a14 =>
.read True (ld T.a31 (Addr.add a14 (Int.toNat (IntKind.wrap .i64 (first+n1))*1))) sS (u1 fun s15 =>
.ex [.adr] (c1 fun a16=>0≤IntKind.wrap .i64 (first+n12)∧IntKind.wrap .i64 (first+n12)<((data.len:Nat):Int)∧data.a=some a16) (u1 fun a17 =>
.read True (ld T.a31 (Addr.add a17 (Int.toNat (IntKind.wrap .i64 (first+n12))*1))) sS (u1 fun s18 =>
.call F.a1 [.string s15,.string s18] sB (u1 fun b19 =>
.untick <|
.ite (not b19) (
.done 0 []) (
.bind 3 [] (
.tick <|
.ex [.adr] (c1 fun a20=>0≤IntKind.wrap .i64 (first+n12)∧IntKind.wrap .i64 (first+n12)<((data.len:Nat):Int)∧data.a=some a20) (u1 fun a21 =>
.read True (ld T.a31 (Addr.add a21 (Int.toNat (IntKind.wrap .i64 (first+n12))*1))) sS (u1 fun s22 =>
.ex [.adr] (c1 fun a23=>0≤IntKind.wrap .i64 (first+n1)∧IntKind.wrap .i64 (first+n1)<((data.len:Nat):Int)∧data.a=some a23) (u1 fun a24 =>
.read True (ld T.a31 (Addr.add a24 (Int.toNat (IntKind.wrap .i64 (first+n1))*1))) sS (u1 fun s25 =>
.ex [.adr] (c1 fun a26=>0≤IntKind.wrap .i64 (first+n1)∧IntKind.wrap .i64 (first+n1)<((data.len:Nat):Int)∧data.a=some a26) (u1 fun a27 =>
.actU (st T.a31 (Addr.add a27 (Int.toNat (IntKind.wrap .i64 (first+n1))*1)) (.string s22)) <|
.ex [.adr] (c1 fun a28=>0≤IntKind.wrap .i64 (first+n12)∧IntKind.wrap .i64 (first+n12)<((data.len:Nat):Int)∧data.a=some a28) (u1 fun a29 =>
.actU (st T.a31 (Addr.add a29 (Int.toNat (IntKind.wrap .i64 (first+n12))*1)) (.string s25)) <|
.untick <|
.done 3 []))))))) (u0 <|
.lt (.int .i64) (n12) fun (n30:Int) =>
.done 2 [.int .i64 n30])))))))))))) (u0 <|
.done 0 [])
theorem zf99_calls (data:Sl) (lo hi first:Int) {w:World} {R:List Value→World→Prop} (h:(zf99 data lo hi first).wp P (fun _=>True) w fun e vs w'=>e=0∧R vs w'):Ret P F.a90 #[.slice data.a data.len data.cap,.int .i64 lo,.int .i64 hi,.int .i64 first] w R:=dS (n:=76) (rv:=[]) { cnd:=[(1688849862361124,[(9,.one (.int .i64))])],blk:=[(0,[])],reg:=[(3,[(36,.one .bool)]),(6,[])],lps:=[(0,[(8,.one (.int .i64))])] } [.val (.slice data.a data.len data.cap),.val (.int .i64 lo),.val (.int .i64 hi),.val (.int .i64 first)] Go.Proofs.Tryz.func198 (by kernel_rfl) (by kernel_rfl) (by kernel_rfl) (by kernel_rfl) h
def zf92 (length:Int):Prog :=
.call F.a30 [.int .u64 (IntKind.wrap .u64 length)] (sI .i64) (u1 fun (n0:Int) =>
.must (0≤n0) <|
.lt (.int .u64) (IntKind.wrap .u64 (1*2 ^ min (Int.toNat n0) 64)) fun (n1:Int) =>
.done 0 [.int .u64 n1])
theorem zf92_calls (length:Int) {w:World} {R:List Value→World→Prop} (h:(zf92 length).wp P (fun _=>True) w fun e vs w'=>e=0∧R vs w'):Ret P F.a83 #[.int .i64 length] w R:=dS (n:=7) (rv:=[.tmp 2]) { cnd:=[],blk:=[],reg:=[],lps:=[] } [.val (.int .i64 length)] Go.Proofs.Tryz.func199 (by kernel_rfl) (by kernel_rfl) (by kernel_rfl) (by kernel_rfl) h
def zf100 (r:Option Addr):Prog :=
.tick <|
.ex [.adr] (c1 fun a0=>r=some a0) (u1 fun a1 =>
.read True (ld T.a30 a1) (sI .u64) (u1 fun (n2:Int) =>
.ex [.adr] (c1 fun a3=>r=some a3) (u1 fun a4 =>
.read True (ld T.a30 a4) (sI .u64) (u1 fun (n5:Int) =>
.ex [.adr] (c1 fun a6=>r=some a6) (u1 fun a7 =>
.actU (st T.a30 a7 (.int .u64 (IntKind.wrap .u64 (((BitVec.toNat (BitVec.ofInt 64 n2 ^^^ BitVec.ofInt 64 (IntKind.wrap .u64 (n5*8192))):Nat):Int))))) <|
.untick <|
.tick <|
.ex [.adr] (c1 fun a8=>r=some a8) (u1 fun a9 =>
.read True (ld T.a30 a9) (sI .u64) (u1 fun (n10:Int) =>
.ex [.adr] (c1 fun a11=>r=some a11) (u1 fun a12 =>
.read True (ld T.a30 a12) (sI .u64) (u1 fun (n13:Int) =>
.ex [.adr] (c1 fun a14=>r=some a14) (u1 fun a15 =>
.actU (st T.a30 a15 (.int .u64 (IntKind.wrap .u64 (((BitVec.toNat (BitVec.ofInt 64 n10 ^^^ BitVec.ofInt 64 (Int.fdiv n13 128)):Nat):Int))))) <|
.untick <|
.tick <|
.ex [.adr] (c1 fun a16=>r=some a16) (u1 fun a17 =>
.read True (ld T.a30 a17) (sI .u64) (u1 fun (n18:Int) =>
.ex [.adr] (c1 fun a19=>r=some a19) (u1 fun a20 =>
.read True (ld T.a30 a20) (sI .u64) (u1 fun (n21:Int) =>
.ex [.adr] (c1 fun a22=>r=some a22) (u1 fun a23 =>
.actU (st T.a30 a23 (.int .u64 (IntKind.wrap .u64 (((BitVec.toNat (BitVec.ofInt 64 n18 ^^^ BitVec.ofInt 64 (IntKind.wrap .u64 (n21*131072))):Nat):Int))))) <|
.untick <|
.ex [.adr] (c1 fun a24=>r=some a24) (u1 fun a25 =>
.read True (ld T.a30 a25) (sI .u64) (u1 fun (n26:Int) =>
.lt (.int .u64) (n26) fun (n27:Int) =>
.done 0 [.int .u64 n27])))))))))))))))))
theorem zf100_calls (r:Option Addr) {w:World} {R:List Value→World→Prop} (h:(zf100 r).wp P (fun _=>True) w fun e vs w'=>e=0∧R vs w'):Ret P F.a91 #[.pointer r] w R:=dS (n:=33) (rv:=[.tmp 2]) { cnd:=[],blk:=[],reg:=[],lps:=[] } [.val (.pointer r)] Go.Proofs.Tryz.func200 (by kernel_rfl) (by kernel_rfl) (by kernel_rfl) (by kernel_rfl) h
def zf90 (data:Sl) (a:Int) (swaps:Option Addr):Prog :=
.call F.a82 [data.v,.int .i64 (IntKind.wrap .i64 (a-1)),.int .i64 a,.int .i64 (IntKind.wrap .i64 (a+1)),.pointer swaps] (sI .i64) (u1 fun (n0:Int) =>
.lt (.int .i64) (n0) fun (n1:Int) =>
.done 0 [.int .i64 n1])
theorem zf90_calls (data:Sl) (a:Int) (swaps:Option Addr) {w:World} {R:List Value→World→Prop} (h:(zf90 data a swaps).wp P (fun _=>True) w fun e vs w'=>e=0∧R vs w'):Ret P F.a81 #[.slice data.a data.len data.cap,.int .i64 a,.pointer swaps] w R:=dS (n:=15) (rv:=[.tmp 6]) { cnd:=[],blk:=[],reg:=[],lps:=[] } [.val (.slice data.a data.len data.cap),.val (.int .i64 a),.val (.pointer swaps)] Go.Proofs.Tryz.func201 (by kernel_rfl) (by kernel_rfl) (by kernel_rfl) (by kernel_rfl) h
def zf91 (data:Sl) (a b c:Int) (swaps:Option Addr):Prog :=
.call F.a84 [data.v,.int .i64 a,.int .i64 b,.pointer swaps] (.tup [.one (.int .i64),.one (.int .i64)]) (u2 fun (n0 n1:Int) =>
.lt (.int .i64) (n0) fun (n2:Int) =>
.lt (.int .i64) (n1) fun (n3:Int) =>
.call F.a84 [data.v,.int .i64 n3,.int .i64 c,.pointer swaps] (.tup [.one (.int .i64),.one (.int .i64)]) (u2 fun (n4 n5:Int) =>
.lt (.int .i64) (n4) fun (n6:Int) =>
.lt (.int .i64) (n5) fun (n7:Int) =>
.call F.a84 [data.v,.int .i64 n2,.int .i64 n6,.pointer swaps] (.tup [.one (.int .i64),.one (.int .i64)]) (u2 fun (n8 n9:Int) =>
.lt (.int .i64) (n8) fun (n10:Int) =>
.lt (.int .i64) (n9) fun (n11:Int) =>
.lt (.int .i64) (n11) fun (n12:Int) =>
.done 0 [.int .i64 n12])))
theorem zf91_calls (data:Sl) (a b c:Int) (swaps:Option Addr) {w:World} {R:List Value→World→Prop} (h:(zf91 data a b c swaps).wp P (fun _=>True) w fun e vs w'=>e=0∧R vs w'):Ret P F.a82 #[.slice data.a data.len data.cap,.int .i64 a,.int .i64 b,.int .i64 c,.pointer swaps] w R:=dS (n:=36) (rv:=[.tmp 10]) { cnd:=[],blk:=[],reg:=[],lps:=[] } [.val (.slice data.a data.len data.cap),.val (.int .i64 a),.val (.int .i64 b),.val (.int .i64 c),.val (.pointer swaps)] Go.Proofs.Tryz.func202 (by kernel_rfl) (by kernel_rfl) (by kernel_rfl) (by kernel_rfl) h
def zf2 (x:ByteArray):Prog :=
.lt (.bool) (not (ByteArray.toList x == ByteArray.toList x)) fun b0 =>
.done 0 [.bool b0]
theorem zf2_calls (x:ByteArray) {w:World} {R:List Value→World→Prop} (h:(zf2 x).wp P (fun _=>True) w fun e vs w'=>e=0∧R vs w'):Ret P F.a2 #[.string x] w R:=dS (n:=6) (rv:=[.tmp 2]) { cnd:=[],blk:=[],reg:=[],lps:=[] } [.val (.string x)] Go.Proofs.Tryz.func203 (by kernel_rfl) (by kernel_rfl) (by kernel_rfl) (by kernel_rfl) h
def zf93 (data:Sl) (a b:Int) (swaps:Option Addr):Prog :=
.tick <|
.ex [.adr] (c1 fun a0=>0≤b∧b<((data.len:Nat):Int)∧data.a=some a0) (u1 fun a1 =>
.read True (ld T.a31 (Addr.add a1 (Int.toNat b*1))) sS (u1 fun s2 =>
.ex [.adr] (c1 fun a3=>0≤a∧a<((data.len:Nat):Int)∧data.a=some a3) (u1 fun a4 =>
.read True (ld T.a31 (Addr.add a4 (Int.toNat a*1))) sS (u1 fun s5 =>
.call F.a1 [.string s2,.string s5] sB (u1 fun b6 =>
.untick <|
.ite (b6) (
.ex [.adr] (c1 fun a7=>swaps=some a7) (u1 fun a8 =>
.read True (ld T.a10 a8) (sI .i64) (u1 fun (n9:Int) =>
.ex [.adr] (c1 fun a10=>swaps=some a10) (u1 fun a11 =>
.actU (st T.a10 a11 (.int .i64 (IntKind.wrap .i64 (n9+1)))) <|
.lt (.int .i64) (b) fun (n12:Int) =>
.lt (.int .i64) (a) fun (n13:Int) =>
.done 0 [.int .i64 n12,.int .i64 n13])))) (
.lt (.int .i64) (a) fun (n14:Int) =>
.lt (.int .i64) (b) fun (n15:Int) =>
.done 0 [.int .i64 n14,.int .i64 n15]))))))
theorem zf93_calls (data:Sl) (a b:Int) (swaps:Option Addr) {w:World} {R:List Value→World→Prop} (h:(zf93 data a b swaps).wp P (fun _=>True) w fun e vs w'=>e=0∧R vs w'):Ret P F.a84 #[.slice data.a data.len data.cap,.int .i64 a,.int .i64 b,.pointer swaps] w R:=dS (n:=28) (rv:=[.tmp 8,.tmp 9]) { cnd:=[],blk:=[],reg:=[],lps:=[] } [.val (.slice data.a data.len data.cap),.val (.int .i64 a),.val (.int .i64 b),.val (.pointer swaps)] Go.Proofs.Tryz.func205 (by kernel_rfl) (by kernel_rfl) (by kernel_rfl) (by kernel_rfl) h
end Go.Dec
