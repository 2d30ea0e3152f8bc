/- What the claim of this folder leans on: our own texts, joined, without what it does not use. -/
import Derived.Test.YtfnldnodhfkojaaGreatRows
import Derived.WalkKit
import Derived.ProofKit
import Derived.OpenShut
import Derived.RowKit3
import Derived.OrdersHeld
import Derived.Scope
import Derived.KernelRfl
import Derived.Laws.Sem
import Derived.Laws.StructEq
import Derived.Deep.AppendSrc
import Derived.Laws.BytesArg
import Derived.Laws.RangeString
import Derived.Maps.RangeRun
import Derived.Lib.ConvBytes
import Derived.Lib.SlBytesConst
import Derived.ChangeSlices
import Derived.ChangeMaps5
import Derived.ChangeSame
import Derived.Deep.Slices
import Derived.Deep.Fields
import Derived.Test.YtfnldnodhfkojaaGreatProg
import Derived.Laws.MakeOwn
import Derived.Sort.MapsRangeIn
import Derived.Sort.KeysCollected
import Derived.RangeFuncNested
import Derived.RangeFuncBound
import Derived.RangeFuncCalls
import Derived.RangeFuncLeaves
import Derived.RangeFuncBox
import Derived.OwnWalkIn
import Derived.TacticsInMore
import Derived.RegionIn
import Derived.LoopNIn
import Derived.LoopIn
import Derived.Maps.AppendAt
import Derived.Shelf.Abstract
import Derived.Test.YtfnldnodhfkojaaGreatQFull1
set_option linter.unusedVariables false
set_option linter.unusedSimpArgs false
namespace Go.Dec
theorem kept_of {W w':World} {l:List HP} (hs:Sat w' (whole W::l)) (may:MemPlace→Prop):W.keptBut w' may:=by
 obtain ⟨h,ho,hu,hz⟩:=hs.of_whole
 refine ⟨ho,hu,fun i hi=>?_⟩
 have hg:W.heap[i]? = some W.heap[i]:=by simp [hi]
 have hg':=h i _ hg
 rw [hg,hg']
 cases W.heap[i] with
 | cells c t fr=>exact ⟨rfl,rfl,rfl,fun _ _=>rfl⟩
 | map es c=>exact .inr ⟨rfl,rfl⟩
 | _=>rfl
section
open Go.ChangeShapes
variable {H:Type} {enc:TypeId × Value→H} {P:Program}
theorem post_keep {f:Func} {s:ChangeSpec} {apart fresh handsOn again:Bool} {W W':World} {args:Array Value} {v:Value} {ds gs:List (DataW H)} {before pa pv:List MemPlace} {l:List HP}
  (hW:DataW.Whole enc P f.params.toList s.vars apart W args.toList ds gs before) (hs:Sat W' (whole W::l))
  (hres:∀ (b:Nat) (sp:Nat→Bool) (hd:Bool),DataW.TrodAll enc P W' b sp hd f.resultTypes.toList (v.resultList f.resultTypes.size) (s.fn H (ds++gs)).results [])
  (hargs:∀ sp:Nat→Bool,(∀ p ∈ before,sp p.block=true)→DataW.TrodAll enc P W' 0 sp true f.params.toList args.toList (s.fn H (ds++gs)).args pa)
  (hvars:∀ sp:Nat→Bool,(∀ p ∈ before,sp p.block=true)→DataW.TrodVars enc P W' sp s.vars (s.fn H (ds++gs)).vars pv)
  (hps:before=pa++pv)
  (hok:∀ (j:Nat) (t:TypeId) (r:Value),f.resultTypes[j]? = some t→(v.resultList f.resultTypes.size)[j]? = some r→Value.okWide P W' .any 0 t r) :
  s.post enc P f apart fresh handsOn again W args v W':=by
 have hlt:=hW.lt
 have hz:=hs.of_whole.2.2.2
 have hkeep:=kept_of hs
 refine ⟨ds,gs,before,[],pa,pv,hW,hres _ _ _,hargs _ fun p hp=>decide_eq_true (hlt p hp),hvars _ fun p hp=>decide_eq_true (hlt p hp),World.keptBut_mono (fun p hp=>⟨hp,.inr (by rw [hps] at hp;exact List.mem_append.1 hp)⟩) (hkeep (· ∈ before)),fun _=>?_⟩
 obtain ⟨_,_,_,_,_,hfz,hnd⟩:=hW
 refine ⟨hok,_,_,([]++pa)++pv,⟨[]++pa,pv,trodAll_append (hargs _ fun _ _=>rfl) (hres _ _ _),hvars _ fun _ _=>rfl,rfl,fun b off hp=>?_,fun ha=>?_⟩,fun p hp _=>?_⟩
 ·have hmem:MemPlace.cell b off ∈ before:=by rw [hps];simpa using hp
  rw [hz _ (hlt _ hmem)]
  exact hfz b off hmem
 ·have:=hnd ha
  rw [hps] at this
  simpa using this
 ·rw [hps];simpa using hp
end
theorem wf64 {n:Int} (h:(Lit.int .i64 n).wf=true) : -9223372036854775808≤n∧n<9223372036854775808:=by
 have h:IntKind.min .i64≤n∧n≤IntKind.max .i64:=by simpa only [Lit.wf,Bool.and_eq_true,decide_eq_true_eq] using h
 have h1:IntKind.min .i64 = -9223372036854775808:=by decide
 have h2:IntKind.max .i64=9223372036854775807:=by decide
 omega
theorem mapM_keep {α β:Type} {f g:α→Option β}:∀ {l:List α} {ys:List β},l.mapM f=some ys→(∀ a y,a ∈ l→y ∈ ys→f a=some y→g a=some y)→l.mapM g=some ys
 | [],ys,h,_=>by simpa using h
 | a::r,ys,h,hk=>by
  rw [List.mapM_cons] at h ⊢
  cases ha:f a with
  | none=>rw [ha] at h;cases h
  | some y =>
   rw [ha] at h
   cases hr:r.mapM f with
   | none=>rw [hr] at h;cases h
   | some zs =>
    rw [hr] at h
    obtain rfl:y::zs=ys:=by simpa using h
    rw [hk a y (List.mem_cons_self ..) (List.mem_cons_self ..) ha,mapM_keep hr fun b z hb hz hf=>hk b z (List.mem_cons_of_mem _ hb) (List.mem_cons_of_mem _ hz) hf]
    rfl
section
variable {H:Type} {enc:TypeId × Value→H} {P:Program} {W W':World} {base:Nat} {sp:Nat→Bool} {L:List TypeId}
theorem cell_keep (hb:∀ (b:Nat) (o:Obj),W.heap[b]? = some o→W'.heap[b]? = some o) {a:Addr} {v:Value} (h:W.cell? a=some v):W'.cell? a=some v:=by
 unfold World.cell? at h ⊢
 cases ho:W.heap[a.block]? with
 | none=>rw [ho] at h;cases h
 | some o=>rw [ho] at h;rw [hb _ _ ho];exact h
theorem cells_keep (hb:∀ (b:Nat) (o:Obj),W.heap[b]? = some o→W'.heap[b]? = some o) {a:Addr} {n:Nat} {cs:List Value} (h:W.cells? base a n=some cs):W'.cells? base a n=some cs:=by
 unfold World.cells? at h ⊢
 split at h
 ·rename_i hc
  rw [if_pos hc]
  exact mapM_keep h fun i v _ _ hv=>cell_keep hb hv
 ·cases h
def celledB (P:Program) (L:List TypeId):Bool:=L.all fun t=>match P.underlying t with
 | some (.pointer e)=>L.any (Nat.beq e)
 | some (.slice e)=>L.any (Nat.beq e) && Nat.blt 0 (P.cellsOf e)
 | some (.array _ e)=>L.any (Nat.beq e)
 | some (.struct fs)=>fs.toList.all fun f=>L.any (Nat.beq f.type)
 | some (.map _ e)=>L.any (Nat.beq e)
 | _=>true
theorem memB {L:List TypeId} {e:TypeId} (h:L.any (Nat.beq e)=true):e ∈ L:=by
 obtain ⟨x,hx,he⟩:=List.any_eq_true.1 h
 rwa [Nat.eq_of_beq_eq_true he]
theorem trod_keep (hz:celledB P L=true) (hb:∀ (b:Nat) (o:Obj),W.heap[b]? = some o→W'.heap[b]? = some o):∀ (fuel:Nat) (t:TypeId) (cs:List Value) (x:DataW H × List MemPlace),t ∈ L →
  DataW.trod enc P W base (fun _=>true) true fuel t cs=some x→(∀ p ∈ x.2,sp p.block=true)→DataW.trod enc P W' base sp true fuel t cs=some x
 | 0,t,cs,x,ht,h,hp=>by simp [DataW.trod] at h
 | fuel+1,t,cs,x,ht,h,hp=>by
  have ih:=trod_keep hz hb fuel
  have hk:=List.all_eq_true.1 hz t ht
  unfold DataW.trod at h ⊢
  have here:∀ {e:TypeId} {a:Addr} {n:Nat} {y:DataW H × List MemPlace},e ∈ L→(W.cells? base a n).bind (DataW.trod enc P W base (fun _=>true) true fuel e)=some y→(∀ p ∈ y.2,sp p.block=true) →
    (W'.cells? base a n).bind (DataW.trod enc P W' base sp true fuel e)=some y:=fun {e a n y} he h hp=>by
   cases hc:W.cells? base a n with
   | none=>rw [hc] at h;cases h
   | some cs=>rw [hc] at h;rw [cells_keep hb hc];exact ih e cs y he h hp
  split at h
  all_goals first|exact h|skip
  case h_6 =>
   rename_i e a hu
   rw [hu] at hk
   have he:e ∈ L:=memB hk
   cases hc:(W.cells? base a (P.cellsOf e)).bind (DataW.trod enc P W base (fun _=>true) true fuel e) with
   | none=>rw [hc] at h;cases h
   | some y =>
    rw [hc] at h
    obtain rfl:=Option.some.inj h
    rw [here he hc fun p h=>hp p (List.mem_append_right _ h)]
    rfl
  case h_8 =>
   rename_i e a len cap hu
   rw [hu] at hk
   have hk:(L.any (Nat.beq e) && Nat.blt 0 (P.cellsOf e))=true:=hk
   rw [Bool.and_eq_true] at hk
   have he:e ∈ L:=memB hk.1
   dsimp only at h ⊢
   split at h
   ·rename_i hc
    rw [if_pos rfl] at h
    cases h1:(List.range len).mapM (fun i=>(W.cells? base (a.add (i*P.cellsOf e)) (P.cellsOf e)).bind (DataW.trod enc P W base (fun _=>true) true fuel e)) with
    | none=>rw [h1] at h;cases h
    | some elems =>
     rw [h1] at h
     simp only [Option.bind_some] at h
     cases h2:(List.range (cap-len)).mapM (fun j=>(W.cells? base (a.add ((len+j)*P.cellsOf e)) (P.cellsOf e)).bind (DataW.trod enc P W base (fun _=>true) true fuel e)) with
     | none=>rw [h2] at h;cases h
     | some rest =>
      rw [h2] at h
      obtain rfl:=Option.some.inj h
      have hin:∀ y,y ∈ elems++rest→∀ p ∈ y.2,sp p.block=true:=fun y hy p hpy=>hp p (List.mem_append_right _ (List.mem_flatMap.2 ⟨y,hy,hpy⟩))
      rw [mapM_keep h1 fun i y _ hy hf=>here he hf (hin y (List.mem_append_left _ hy))]
      simp only [Option.bind_some]
      have hs:(if sp a.block=true then (List.range (cap-len)).mapM (fun j=>(W'.cells? base (a.add ((len+j)*P.cellsOf e)) (P.cellsOf e)).bind (DataW.trod enc P W' base sp true fuel e)) else some [])=some rest:=by
       split
       ·exact mapM_keep h2 fun i y _ hy hf=>here he hf (hin y (List.mem_append_right _ hy))
       ·rename_i hsp
        cases hr:rest with
        | nil=>rfl
        | cons y r =>
         exfalso
         have hpos:0<P.cellsOf e:=Nat.le_of_ble_eq_true hk.2
         refine hsp (hp (.cell a.block (a.off+0)) (List.mem_append_left _ ?_))
         unfold MemPlace.row
         refine List.mem_map.2 ⟨0,List.mem_range.2 ?_,rfl⟩
         rw [hr]
         exact Nat.mul_pos (by rw [List.length_cons];omega) hpos
      rw [hs,if_pos hc]
      rfl
   ·cases h
  case h_9 =>
   rename_i fs hu
   rw [hu] at hk
   have hk:=List.all_eq_true.1 hk
   split at h
   ·rename_i hc
    rw [if_pos hc]
    obtain ⟨xs,h1,rfl⟩:=Option.map_eq_some_iff.1 h
    rw [mapM_keep h1 fun f y hf' hy hf=>ih _ _ y (memB (hk f hf')) hf fun p hpy=>hp p (List.mem_flatMap.2 ⟨y,hy,hpy⟩)]
    rfl
   ·cases h
  case h_10 =>
   rename_i n e hu
   rw [hu] at hk
   split at h
   ·rename_i hc
    rw [if_pos hc]
    obtain ⟨xs,h1,rfl⟩:=Option.map_eq_some_iff.1 h
    rw [mapM_keep h1 fun f y _ hy hf=>ih _ _ y (memB hk) hf fun p hpy=>hp p (List.mem_flatMap.2 ⟨y,hy,hpy⟩)]
    rfl
   ·cases h
  case h_14 =>
   rename_i b hu
   rw [hu] at hk
   cases ho:W.heap[b]? with
   | none=>rw [ho] at h;cases h
   | some o =>
    rw [hb _ _ ho]
    rw [ho] at h
    cases o with
    | map es clock =>
     dsimp only at h ⊢
     split at h
     ·rename_i hc
      rw [if_pos hc]
      obtain ⟨entries,h1,h⟩:=Option.bind_eq_some_iff.1 h
      split at h
      ·rename_i hr
       obtain rfl:=Option.some.inj h
       rw [mapM_keep h1 fun f y _ hy hf=>?_]
       ·simp only [Option.bind_some]
        rw [if_pos hr]
       ·obtain ⟨key,hkey,hf⟩:=Option.bind_eq_some_iff.1 hf
        rw [hkey]
        simp only [Option.bind_some]
        split at hf
        ·rename_i hfm
         rw [if_pos hfm]
         obtain ⟨z,hz',rfl⟩:=Option.map_eq_some_iff.1 hf
         rw [ih _ _ z (memB hk) hz' fun p hpz=>hp p (List.mem_cons_of_mem _ (List.mem_flatMap.2 ⟨_,hy,hpz⟩))]
         rfl
        ·cases hf
      ·cases h
     ·cases h
    | _=>cases h
theorem trodAll_keep (hz:celledB P L=true) (hb:∀ (b:Nat) (o:Obj),W.heap[b]? = some o→W'.heap[b]? = some o):∀ (ts:List TypeId) (vs:List Value) (ds:List (DataW H)) (ps:List MemPlace),(∀ t ∈ ts,t ∈ L) →
  DataW.TrodAll enc P W base (fun _=>true) true ts vs ds ps→(∀ p ∈ ps,sp p.block=true)→DataW.TrodAll enc P W' base sp true ts vs ds ps
 | [],[],[],ps,_,h,_=>h
 | t::ts,v::vs,d::ds,ps,hL,⟨p,q,⟨fuel,h1⟩,h2,he⟩,hp=>by
  subst he
  exact ⟨p,q,⟨fuel,trod_keep hz hb fuel t _ (d,p) (hL t (List.mem_cons_self ..)) h1 fun x hx=>hp x (List.mem_append_left _ hx)⟩,trodAll_keep hz hb ts vs ds q (fun t ht=>hL t (List.mem_cons_of_mem _ ht)) h2 fun x hx=>hp x (List.mem_append_right _ hx),rfl⟩
 | [],[],_::_,_,_,h,_=>h.elim
 | [],_::_,_,_,_,h,_=>h.elim
 | _::_,[],_,_,_,h,_=>h.elim
 | _::_,_::_,[],_,_,h,_=>h.elim
end
open Go.ChangeShapes Go.WideShapes Go.RowKit
section
variable {H:Type} {enc:TypeId × Value→H} {P:Program} {w:World} {base:Nat} {sp:Nat→Bool} {held:Bool}
theorem rd_keep {W W':World} (hb:∀ (b:Nat) (o:Obj),W.heap[b]? = some o→W'.heap[b]? = some o) {sz:Nat} {x:Sl} {cs:List Value} (h:Rd W sz x cs):Rd W' sz x cs :=
 ⟨h.1,h.2.imp id fun ⟨b,off,arr,T,fr,ha,h1,h2⟩=>⟨b,off,arr,T,fr,ha,hb _ _ h1,h2⟩⟩
end
open Go.ChangeShapes Go.WideShapes Go.RowKit Go.Deep
section
variable {H:Type} {enc:TypeId × Value→H} {P:Program} {w:World} {base:Nat} {spare:Nat→Bool} {held:Bool}
theorem rd_cells {a:Addr} {cs:List Value} {len cap sz:Nat} (hlen:cs.length=len*sz) (hpos:0<sz) (hcell:∀ i,i<cs.length→w.cell? (a.add i)=cs[i]?):Rd w sz ⟨some a,len,cap⟩ cs:=by
 refine ⟨hlen,?_⟩
 by_cases h0:len=0
 ·exact .inl h0
 ·right
  have hpos2:0<cs.length:=by rw [hlen];exact Nat.mul_pos (by omega) hpos
  have hc0:=hcell 0 hpos2
  obtain ⟨b,off,spot⟩:=a
  have e0:(Addr.mk b off spot).add 0=⟨b,off,spot⟩:=rfl
  rw [e0,List.getElem?_eq_getElem hpos2] at hc0
  unfold World.cell? at hc0
  dsimp only at hc0
  cases hb:w.heap[b]? with
  | none=>rw [hb] at hc0;cases hc0
  | some o =>
   rw [hb] at hc0
   cases o with
   | cells arr T fr =>
    dsimp only at hc0
    cases spot with
    | some x=>simp at hc0
    | none =>
     refine ⟨b,off,arr,T,fr,rfl,hb,fun i hi=>?_⟩
     have hci:=hcell i hi
     rw [add_mk,cell_of hb] at hci
     rw [hci]
   | _=>cases hc0
end
open Go.ChangeShapes Go.WideShapes Go.RowKit Go.Deep
section
variable {H:Type} {enc:TypeId × Value→H} {P:Program} {w:World} {base:Nat} {spare:Nat→Bool} {held:Bool}
theorem trod_rows {α:Type} {encA:α→List Value} {good:α→Prop} {C:Nat} {t e:TypeId} {fuel:Nat} {v:Value} {y:DataW H × List MemPlace} (ht:P.underlying t=some (.slice e)) (hC:P.cellsOf e=C) (hpos:0<C)
  (hread:∀ (n:Nat) (cs:List Value) (y:DataW H × List MemPlace),cs.length=C→DataW.trod enc P w base spare held n e cs=some y→∃ o:α,cs=encA o∧good o)
  (hd:DataW.trod enc P w base spare held fuel t [v]=some y) :
  ∃ (x:Sl) (xs:List α),v=x.v∧x.len≤x.cap∧x.len=xs.length∧x.cap≤maxLen∧(∀ o ∈ xs,good o)∧Rd w C x (xs.flatMap encA):=by
 rcases DataW.trod_slice ht hd with ⟨hcs,-⟩|⟨a,len,cap,elems,rest,n,_,hcs,-,hb,hl,hm,hlen,hel,-,-⟩
 ·obtain rfl:v=.slice none 0 0:=by simpa using hcs
  exact ⟨⟨none,0,0⟩,[],rfl,Nat.le_refl _,rfl,Nat.zero_le _,(fun o ho=>by cases ho),(Nat.zero_mul _).symm,.inl rfl⟩
 ·obtain rfl:v=.slice (some a) len cap:=by simpa using hcs
  have each:∀ i,i<len→∃ o:α,good o∧(encA o).length=C∧∀ j,j<C→w.cell? (a.add (i*C+j))=(encA o)[j]? := by
   intro i hi
   have h1:=hel i hi
   rw [List.getElem?_eq_getElem (by omega),Option.bind_eq_some_iff] at h1
   obtain ⟨cs',hc,ht'⟩:=h1
   rw [hC] at hc
   obtain ⟨_,hcl,hat⟩:=World.cells?_some hc
   obtain ⟨o,ho,hg⟩:=hread n cs' _ hcl ht'
   refine ⟨o,hg,by rw [← ho];exact hcl,fun j hj=>?_⟩
   rw [← Go.Deep.add_add,hat j hj,ho]
  have hall:∀ k,k≤len→∃ xs:List α,xs.length=k∧(∀ o ∈ xs,good o)∧(xs.flatMap encA).length=k*C∧∀ i,i<k*C→w.cell? (a.add i)=(xs.flatMap encA)[i]? := by
   intro k
   induction k with
   | zero=>exact fun _=>⟨[],rfl,(fun o ho=>by cases ho),by simp,fun i hi=>by omega⟩
   | succ k ih =>
    intro hk
    obtain ⟨xs,h1,h2,h3,h4⟩:=ih (by omega)
    obtain ⟨o,ho,hol,hc⟩:=each k (by omega)
    refine ⟨xs++[o],by simp [h1],fun u hu=>?_,by simp [h3,hol,Nat.succ_mul],fun i hi=>?_⟩
    ·rcases List.mem_append.1 hu with hu|hu
     ·exact h2 u hu
     ·rw [List.mem_singleton.1 hu];exact ho
    ·rw [List.flatMap_append,List.flatMap_singleton]
     by_cases hik:i<k*C
     ·rw [List.getElem?_append_left (by omega),h4 i hik]
     ·rw [List.getElem?_append_right (by omega),h3]
      rw [Nat.succ_mul] at hi
      have:=hc (i-k*C) (by omega)
      rw [show k*C+(i-k*C)=i by omega] at this
      exact this
  obtain ⟨xs,h1,h2,h3,h4⟩:=hall len (Nat.le_refl _)
  exact ⟨⟨some a,len,cap⟩,xs,rfl,hl,h1.symm,hm,h2,rd_cells h3 hpos fun i hi=>h4 i (by rw [← h3];exact hi)⟩
end
end Go.Dec
namespace Go.T
abbrev unit:Go.TypeId:=0
abbrev int64:Go.TypeId:=2
abbrev int:Go.TypeId:=3
abbrev bool:Go.TypeId:=4
abbrev uint8:Go.TypeId:=5
abbrev string:Go.TypeId:=9
abbrev s_api_Batch:Go.TypeId:=22
abbrev seglog_Config:Go.TypeId:=24
abbrev p_disk_Disk:Go.TypeId:=26
abbrev api_Errno:Go.TypeId:=27
abbrev p_seglog_Log:Go.TypeId:=30
abbrev s_api_Record:Go.TypeId:=36
abbrev api_Batch:Go.TypeId:=38
abbrev s_towpathref06_Segment:Go.TypeId:=52
abbrev towpathref06_Log:Go.TypeId:=54
abbrev s_uint8:Go.TypeId:=65
abbrev s_string:Go.TypeId:=68
abbrev towpathref06_Segment:Go.TypeId:=71
abbrev s_int64:Go.TypeId:=105
abbrev m_string_p_disk_file:Go.TypeId:=110
abbrev disk_Disk:Go.TypeId:=112
abbrev s_p_seglog_segment:Go.TypeId:=113
abbrev seglog_Log:Go.TypeId:=115
abbrev p_seglog_segment:Go.TypeId:=116
abbrev p_index_Index:Go.TypeId:=117
abbrev seglog_segment:Go.TypeId:=119
abbrev index_Entry:Go.TypeId:=121
abbrev api_Record:Go.TypeId:=125
abbrev s_s_uint8:Go.TypeId:=143
abbrev p_disk_file:Go.TypeId:=157
abbrev disk_file:Go.TypeId:=160
abbrev index_last:Go.TypeId:=182
abbrev s_index_Entry:Go.TypeId:=183
abbrev index_Index:Go.TypeId:=185
abbrev a32_bool:Go.TypeId:=226
abbrev wire_Reader:Go.TypeId:=249
abbrev slices_xorshift:Go.TypeId:=251
end Go.T
namespace Go.F
abbrev towpathlaw06_SeglogFull:Go.FuncId:=7
abbrev towpathlaw06_config:Go.FuncId:=13
abbrev disk_New:Go.FuncId:=14
abbrev towpathlaw06_awake:Go.FuncId:=17
abbrev seglog_Log_Next:Go.FuncId:=19
abbrev seglog_Log_Read:Go.FuncId:=21
abbrev towpathref03_Span:Go.FuncId:=22
abbrev towpathref03_SameAll:Go.FuncId:=23
abbrev seglog_Open:Go.FuncId:=24
abbrev seglog_Log_Append:Go.FuncId:=25
abbrev towpathlaw06_Small:Go.FuncId:=26
abbrev towpathref06_Log_Append:Go.FuncId:=27
abbrev towpathlaw06_same:Go.FuncId:=28
abbrev disk_Disk_Append:Go.FuncId:=30
abbrev disk_Disk_Names:Go.FuncId:=33
abbrev disk_Disk_Read:Go.FuncId:=34
abbrev towpathref06_Segment_File:Go.FuncId:=36
abbrev towpathlaw06_one:Go.FuncId:=37
abbrev towpathref06_Log_Copy:Go.FuncId:=38
abbrev towpathref06_Log_Placed:Go.FuncId:=39
abbrev towpathref06_Size:Go.FuncId:=40
abbrev towpathref06_Head:Go.FuncId:=41
abbrev towpathref06_Log_Next:Go.FuncId:=42
abbrev disk_Disk_Room:Go.FuncId:=43
abbrev seglog_Prefix:Go.FuncId:=44
abbrev seglog_Log_Sync:Go.FuncId:=45
abbrev disk_Disk_Gone:Go.FuncId:=48
abbrev seglog_Log_All:Go.FuncId:=50
abbrev seglog_Log_First:Go.FuncId:=56
abbrev seglog_Log_Segments:Go.FuncId:=57
abbrev towpathref06_Log_All:Go.FuncId:=58
abbrev seglog_Log_last:Go.FuncId:=60
abbrev seglog_segment_reach:Go.FuncId:=61
abbrev towpathref03_Valid:Go.FuncId:=62
abbrev towpathref03_Mark:Go.FuncId:=63
abbrev sort_Search:Go.FuncId:=65
abbrev seglog_Log_Read_1:Go.FuncId:=66
abbrev seglog_Log_walk:Go.FuncId:=67
abbrev seglog_segment_from:Go.FuncId:=68
abbrev seglog_Log_Read_2:Go.FuncId:=69
abbrev rec_From:Go.FuncId:=70
abbrev towpathref03_Same:Go.FuncId:=71
abbrev seglog_may:Go.FuncId:=72
abbrev seglog_Log_files:Go.FuncId:=73
abbrev disk_Disk_Remove:Go.FuncId:=74
abbrev seglog_Log_name:Go.FuncId:=75
abbrev seglog_Log_scan:Go.FuncId:=76
abbrev seglog_Log_drop:Go.FuncId:=77
abbrev seglog_Log_placed:Go.FuncId:=78
abbrev seglog_Log_fits:Go.FuncId:=79
abbrev seglog_Log_segment:Go.FuncId:=80
abbrev seglog_head:Go.FuncId:=81
abbrev seglog_Log_put:Go.FuncId:=82
abbrev seglog_segment_take:Go.FuncId:=83
abbrev towpathref06_Segment_size:Go.FuncId:=84
abbrev towpathref06_Log_First:Go.FuncId:=85
abbrev towpathref03_Encode:Go.FuncId:=87
abbrev towpathref02_Seal:Go.FuncId:=88
abbrev disk_Disk_may:Go.FuncId:=89
abbrev disk_Name:Go.FuncId:=90
abbrev disk_Disk_Free:Go.FuncId:=91
abbrev disk_power_spend:Go.FuncId:=92
abbrev maps_Keys_map_string_disk_file_string_disk_file:Go.FuncId:=97
abbrev strings_HasPrefix:Go.FuncId:=98
abbrev slices_Sort_s_string_string:Go.FuncId:=99
abbrev bytes_Clone:Go.FuncId:=100
abbrev towpathref01_Uint:Go.FuncId:=101
abbrev towpathref06_Segment_reach:Go.FuncId:=102
abbrev disk_Disk_Sync:Go.FuncId:=103
abbrev index_Index_entry:Go.FuncId:=112
abbrev towpathref03_out:Go.FuncId:=114
abbrev frame_First:Go.FuncId:=115
abbrev rec_Decode:Go.FuncId:=116
abbrev index_Index_Find:Go.FuncId:=117
abbrev rec_Valid:Go.FuncId:=118
abbrev rec_Next:Go.FuncId:=119
abbrev rec_mark:Go.FuncId:=120
abbrev rec_Copy:Go.FuncId:=121
abbrev rec_part:Go.FuncId:=122
abbrev seglog_Log_base:Go.FuncId:=123
abbrev disk_Disk_drop:Go.FuncId:=124
abbrev seglog_headed:Go.FuncId:=125
abbrev disk_Disk_Cut:Go.FuncId:=126
abbrev rec_Encode:Go.FuncId:=127
abbrev frame_Seal:Go.FuncId:=128
abbrev index_New:Go.FuncId:=129
abbrev wire_Uint:Go.FuncId:=130
abbrev seglog_latest:Go.FuncId:=131
abbrev index_Index_Note:Go.FuncId:=132
abbrev towpathref01_Int:Go.FuncId:=133
abbrev towpathref01_Flag:Go.FuncId:=134
abbrev towpathref01_Text:Go.FuncId:=135
abbrev towpathref02_four:Go.FuncId:=136
abbrev towpathref02_Sum:Go.FuncId:=137
abbrev internal_stringslite_HasPrefix:Go.FuncId:=144
abbrev slices_pdqsortOrdered_string:Go.FuncId:=145
abbrev math_bits_Len:Go.FuncId:=146
abbrev frame_number:Go.FuncId:=150
abbrev frame_Sum:Go.FuncId:=151
abbrev wire_NewReader:Go.FuncId:=152
abbrev wire_Reader_Byte:Go.FuncId:=153
abbrev rec_upto:Go.FuncId:=154
abbrev wire_Reader_Err:Go.FuncId:=155
abbrev rec_read:Go.FuncId:=156
abbrev wire_Reader_End:Go.FuncId:=157
abbrev index_Index_Find_1:Go.FuncId:=158
abbrev rec_numbers:Go.FuncId:=159
abbrev rec_fits:Go.FuncId:=160
abbrev rec_record:Go.FuncId:=161
abbrev rec_Span:Go.FuncId:=162
abbrev wire_Reader_Uint:Go.FuncId:=163
abbrev wire_Join:Go.FuncId:=164
abbrev rec_alike:Go.FuncId:=165
abbrev wire_Int:Go.FuncId:=166
abbrev wire_Flag:Go.FuncId:=167
abbrev wire_Text:Go.FuncId:=168
abbrev frame_four:Go.FuncId:=169
abbrev index_may:Go.FuncId:=170
abbrev slices_insertionSortOrdered_string:Go.FuncId:=177
abbrev slices_heapSortOrdered_string:Go.FuncId:=178
abbrev slices_breakPatternsOrdered_string:Go.FuncId:=179
abbrev slices_choosePivotOrdered_string:Go.FuncId:=180
abbrev slices_reverseRangeOrdered_string:Go.FuncId:=181
abbrev slices_partialInsertionSortOrdered_string:Go.FuncId:=182
abbrev cmp_Less_string:Go.FuncId:=183
abbrev slices_partitionEqualOrdered_string:Go.FuncId:=184
abbrev slices_partitionOrdered_string:Go.FuncId:=185
abbrev math_bits_Len64:Go.FuncId:=187
abbrev frame_More:Go.FuncId:=188
abbrev wire_Reader_good:Go.FuncId:=189
abbrev wire_place_left:Go.FuncId:=190
abbrev wire_place_fail:Go.FuncId:=191
abbrev wire_place_take:Go.FuncId:=192
abbrev wire_Reader_Within:Go.FuncId:=193
abbrev wire_Reader_Flag:Go.FuncId:=194
abbrev wire_Reader_Text:Go.FuncId:=195
abbrev rec_within:Go.FuncId:=196
abbrev wire_place_uint:Go.FuncId:=197
abbrev slices_siftDownOrdered_string:Go.FuncId:=198
abbrev slices_nextPowerOfTwo:Go.FuncId:=199
abbrev slices_xorshift_Next:Go.FuncId:=200
abbrev slices_medianAdjacentOrdered_string:Go.FuncId:=201
abbrev slices_medianOrdered_string:Go.FuncId:=202
abbrev cmp_isNaN_string:Go.FuncId:=203
abbrev wire_Reader_Int:Go.FuncId:=204
abbrev slices_order2Ordered_string:Go.FuncId:=205
end Go.F
namespace Go.Dec
noncomputable abbrev P:Program:=Go.Proofs.Tryz.prog
def okFs:List FuncId:=[2,3,4,5,6,7,8,9,10,11,12,13,14,15,16,17,18,19,20,21,22,23,24,25,26,27,28,29,30,31,32,33,34,35,36,37,38,39,40,41,42,43,44,45,46,47,48,49,50,51,52,53,54,55,56,57,58,59,60,61,62,63,64,65,66,67,68,69,70,71,72,73,74,75,76,77,78,79,80,81,82,83,84,85,86,87,88,89,90,91,92,93,94,95,96,97,98,99,100,101,102,103,104,105,106,107,108,109,110,111,112,113,114,115,116,117,118,119,120,121,122,123,124,125,126,127,128,129,130,131,132,133,134,135,136,137,138,139,140,141,142,143,144,145,146,147,148,149,150,151,152,153,154,155,156,157,158,159,160,161,162,163,164,165,166,167,168,169,170,171,172,173,174,175,176,177,178,179,180,181,182,183,184,185,186,187,188,189,190,191,192,193,194,195,196,197,198,199,200,201,202,203,204,205]
theorem okFs_all:okFs.all (callOk P)=true:=by kernel_rfl
theorem okFs_ok:∀ f ∈ okFs,callOk P f=true:=List.all_eq_true.1 okFs_all
theorem mix:P.follows .mixedOrders=true:=by kernel_rfl
def towpathlaw06_SeglogFull (seg room:Int) (l:Sl):Prog :=
.call F.towpathlaw06_config [.int .i64 seg,.int .i64 5] (sG [.int .i64,.int .i64]) (u2 fun (n0 n1:Int) =>
.act (new T.seglog_Config) sA (u1 fun a2 =>
.actU (st T.seglog_Config a2 (.agg #[.int .i64 n0,.int .i64 n1])) <|
.lt (.int .i64) (Int.tmod room 600) fun (n3:Int) =>
.bind 1 [.one (.int .i64)] (
.ite (decide (n3<0)) (
.lt (.int .i64) (IntKind.wrap .i64 (0-n3)) fun (n4:Int) =>
.done 1 [.int .i64 n4]) (
.done 1 [.int .i64 n3])) (u1 fun (n5:Int) =>
.call F.disk_New [.int .i64 n5] (.tup [.one .ptr,.one (.int .i64)]) (u2 fun p6 (n7:Int) =>
.lt (.int .i64) (n7) fun (n8:Int) =>
.read True (ld T.seglog_Config a2) (sG [.int .i64,.int .i64]) (u2 fun (n9 n10:Int) =>
.call F.seglog_Open [.pointer p6,.string (ByteArray.mk #[113]),.agg #[.int .i64 n9,.int .i64 n10]] (.tup [.one .ptr,.one (.int .i64)]) (u2 fun p11 (n12:Int) =>
.lt (.int .i64) (n12) fun (n13:Int) =>
.read True (ld T.int (Addr.add a2 0)) (sI .i64) (u1 fun (n14:Int) =>
.read True (ld T.int (Addr.add a2 1)) (sI .i64) (u1 fun (n15:Int) =>
.act (Instr.box T.towpathref06_Log (.agg #[.int .i64 n14,.int .i64 n15,.slice none 0 0])) sA (u1 fun a16 =>
.ite (n13 != 0) (
.done 0 [.bool false]) (
.bind 1 [.one .ptr] (
.loop 2 [.one .ptr,.one (.int .i64)] (some a16,(0,())) (u2 fun p17 (n18:Int) =>
.ite (decide (n18<((l.len:Nat):Int))) (
.bind 3 [.one .ptr] (
.ex [.adr] (c1 fun a19=>0≤n18∧n18<((l.len:Nat):Int)∧l.a=some a19) (u1 fun a20 =>
.read True (ld T.api_Batch (Addr.add a20 (Int.toNat n18*7))) (sG [.int .i64,.int .i64,.int .i64,.int .i64,.int .i64,.int .i64,.slc]) (u7 fun (n21 n22 n23 n24 n25 n26:Int) l27 =>
.act (new T.api_Batch) sA (u1 fun a28 =>
.lt (.int .i64) (n18) fun (n29:Int) =>
.actU (st T.api_Batch a28 (.agg #[.int .i64 n21,.int .i64 n22,.int .i64 n23,.int .i64 n24,.int .i64 n25,.int .i64 n26,l27.v])) <|
.ite (decide (n29≥20)) (
.done 1 [.pointer p17]) (
.read True (ld T.api_Batch a28) (sG [.int .i64,.int .i64,.int .i64,.int .i64,.int .i64,.int .i64,.slc]) (u7 fun (n30 n31 n32 n33 n34 n35:Int) l36 =>
.call F.towpathlaw06_Small [.agg #[.int .i64 n30,.int .i64 n31,.int .i64 n32,.int .i64 n33,.int .i64 n34,.int .i64 n35,l36.v]] (sG [.int .i64,.int .i64,.int .i64,.int .i64,.int .i64,.int .i64,.slc]) (u7 fun (n37 n38 n39 n40 n41 n42:Int) l43 =>
.act (new T.api_Batch) sA (u1 fun a44 =>
.actU (st T.api_Batch a44 (.agg #[.int .i64 n37,.int .i64 n38,.int .i64 n39,.int .i64 n40,.int .i64 n41,.int .i64 n42,l43.v])) <|
.call F.towpathref06_Log_Copy [.pointer p17] sP (u1 fun p45 =>
.read True (ld T.api_Batch a44) (sG [.int .i64,.int .i64,.int .i64,.int .i64,.int .i64,.int .i64,.slc]) (u7 fun (n46 n47 n48 n49 n50 n51:Int) l52 =>
.act (Instr.buildSlice T.s_api_Batch 1 #[(0,.agg #[.int .i64 n46,.int .i64 n47,.int .i64 n48,.int .i64 n49,.int .i64 n50,.int .i64 n51,l52.v])]) sL (u1 fun l53 =>
.call F.seglog_Log_Append [.pointer p11,l53.v] (.tup [.one (.int .i64),.one (.int .i64)]) (u2 fun (n54 n55:Int) =>
.lt (.int .i64) (n54) fun (n56:Int) =>
.lt (.int .i64) (n55) fun (n57:Int) =>
.read True (ld T.api_Batch a44) (sG [.int .i64,.int .i64,.int .i64,.int .i64,.int .i64,.int .i64,.slc]) (u7 fun (n58 n59 n60 n61 n62 n63:Int) l64 =>
.act (Instr.buildSlice T.s_api_Batch 1 #[(0,.agg #[.int .i64 n58,.int .i64 n59,.int .i64 n60,.int .i64 n61,.int .i64 n62,.int .i64 n63,l64.v])]) sL (u1 fun l65 =>
.call F.towpathref06_Log_Append [.pointer p17,l65.v] (.tup [.one (.int .i64),.one (.int .i64)]) (u2 fun (n66 n67:Int) =>
.lt (.int .i64) (n66) fun (n68:Int) =>
.lt (.int .i64) (n67) fun (n69:Int) =>
.ite (n57 == 5 && n69 == 0) (
.ex [.adr] (c1 fun a70=>p45=some a70) (u1 fun a71 =>
.read True (ld T.s_towpathref06_Segment (Addr.add a71 2)) sL (u1 fun l72 =>
.bind 4 [.one (.int .i64)] (
.loop 5 [.one (.int .i64),.one (.int .i64)] (0,(0,())) (u2 fun (n73 n74:Int) =>
.ite (decide (n74<((l72.len:Nat):Int))) (
.ex [.adr] (c1 fun a75=>0≤n74∧n74<((l72.len:Nat):Int)∧l72.a=some a75) (u1 fun a76 =>
.read True (ld T.towpathref06_Segment (Addr.add a76 (Int.toNat n74*3))) (sG [.int .i64,.int .i64,.slc]) (u3 fun (n77 n78:Int) l79 =>
.act (new T.towpathref06_Segment) sA (u1 fun a80 =>
.actU (st T.towpathref06_Segment a80 (.agg #[.int .i64 n77,.int .i64 n78,l79.v])) <|
.read True (ld T.towpathref06_Segment a80) (sG [.int .i64,.int .i64,.slc]) (u3 fun (n81 n82:Int) l83 =>
.call F.towpathref06_Segment_File [.agg #[.int .i64 n81,.int .i64 n82,l83.v]] sL (u1 fun l84 =>
.lt (.int .i64) (IntKind.wrap .i64 (n73+((l84.len:Nat):Int))) fun (n85:Int) =>
.done 5 [.int .i64 n85,.int .i64 (IntKind.wrap .i64 (n74+1))])))))) (
.done 4 [.int .i64 n73]))) (u1 fun (n86:Int) =>
.read True (ld T.api_Batch a44) (sG [.int .i64,.int .i64,.int .i64,.int .i64,.int .i64,.int .i64,.slc]) (u7 fun (n87 n88 n89 n90 n91 n92:Int) l93 =>
.act (Instr.buildSlice T.s_api_Batch 1 #[(0,.agg #[.int .i64 n87,.int .i64 n88,.int .i64 n89,.int .i64 n90,.int .i64 n91,.int .i64 n92,l93.v])]) sL (u1 fun l94 =>
.call F.towpathref06_Log_Placed [.pointer p45,l94.v] (.tup [.one .slc,.one (.int .i64)]) (u2 fun l95 (n96:Int) =>
.lt (.int .i64) (n96) fun (n97:Int) =>
.bind 4 [.one .bool] (
.ex [.adr] (c1 fun a98=>(0:Int)≤0∧0<((l95.len:Nat):Int)∧l95.a=some a98) (u1 fun a99 =>
.read True (ld T.api_Batch (Addr.add a99 0)) (sG [.int .i64,.int .i64,.int .i64,.int .i64,.int .i64,.int .i64,.slc]) (u7 fun (n100 n101 n102 n103 n104 n105:Int) l106 =>
.call F.towpathref06_Size [.agg #[.int .i64 n100,.int .i64 n101,.int .i64 n102,.int .i64 n103,.int .i64 n104,.int .i64 n105,l106.v]] (sI .i64) (u1 fun (n107:Int) =>
.call F.towpathref06_Log_Next [.pointer p45] (sI .i64) (u1 fun (n108:Int) =>
.call F.towpathref06_Head [.int .i64 n108,.int .i64 0] sL (u1 fun l109 =>
.ite (decide (IntKind.wrap .i64 (IntKind.wrap .i64 (n86+n107)+((l109.len:Nat):Int))≤n5)) (
.done 4 [.bool true]) (
.call F.towpathlaw06_same [.pointer p11,.pointer p45] sB (u1 fun b110 =>
.done 4 [.bool (not b110)])))))))) (u1 fun b111 =>
.ite (b111) (
.done 0 [.bool false]) (
.done 3 [.pointer p45]))))))))) (
.bind 4 [.one .bool] (
.ite (n56 != n68 || n57 != n69) (
.done 4 [.bool true]) (
.call F.towpathlaw06_same [.pointer p11,.pointer p17] sB (u1 fun b112 =>
.done 4 [.bool (not b112)]))) (u1 fun b113 =>
.ite (b113) (
.done 0 [.bool false]) (
.done 3 [.pointer p17])))))))))))))))))) (u1 fun p114 =>
.done 2 [.pointer p114,.int .i64 (IntKind.wrap .i64 (n18+1))])) (
.done 1 [.pointer p17]))) (u1 fun p115 =>
.read True (ld T.seglog_Config a2) (sG [.int .i64,.int .i64]) (u2 fun (n116 n117:Int) =>
.call F.seglog_Open [.pointer p6,.string (ByteArray.mk #[113]),.agg #[.int .i64 n116,.int .i64 n117]] (.tup [.one .ptr,.one (.int .i64)]) (u2 fun p118 (n119:Int) =>
.lt (.int .i64) (n119) fun (n120:Int) =>
.bind 1 [.one .bool] (
.ite (n120 == 0) (
.call F.towpathlaw06_same [.pointer p118,.pointer p115] sB (u1 fun b121 =>
.ite (b121) (
.call F.disk_Disk_Room [.pointer p6,.int .i64 65536] (sI .i64) (u1 fun (n122:Int) =>
.ite (n122 == 0) (
.call F.towpathlaw06_awake [] sB (u1 fun b123 =>
.lt (.bool) (b123) fun b124 =>
.done 1 [.bool b124])) (
.done 1 [.bool false]))) (
.done 1 [.bool false]))) (
.done 1 [.bool false])) (u1 fun b125 =>
.done 0 [.bool b125]))))))))))))))
theorem towpathlaw06_SeglogFull_calls (seg room:Int) (l:Sl) {w:World} {R:List Value→World→Prop} (h:(towpathlaw06_SeglogFull seg room l).wp P (fun _=>True) w fun e vs w'=>e=0∧R vs w') :
  Calls P F.towpathlaw06_SeglogFull #[.int .i64 seg,.int .i64 room,.slice l.a l.len l.cap] w fun e w'=>∃ vs,e=.returned (pack vs)∧R vs w' :=
 decomp_sound (isFn_of Go.Proofs.Tryz.func7 (by kernel_rfl) (by kernel_rfl) (by kernel_rfl)) okFs_ok mix [.val (.int .i64 seg),.val (.int .i64 room),.val (.slice l.a l.len l.cap)] (by rw [show decomp P 166 ⟨okFs,[]⟩ { cnd:=[(211106232541217,[(1,.one (.int .i64))])],blk:=[(0,[(12,.one .ptr)]),(1,[(12,.one .ptr)]),(2,[(21,.one (.int .i64))])],reg:=[(27,[(129,.one .bool)]),(29,[(143,.one .bool)]),(33,[(6,.one .bool)])],lps:=[(0,[(12,.one .ptr),(57,.one (.int .i64))]),(2,[(21,.one (.int .i64)),(94,.one (.int .i64))])] } [.tmp 6] (bodyOf Go.Proofs.Tryz.f7) [.val (.int .i64 seg),.val (.int .i64 room),.val (.slice l.a l.len l.cap)]=towpathlaw06_SeglogFull seg room l from by kernel_rfl];exact h)
def towpathlaw06_config (seg:Int) (gap:Int):Prog :=
.act (new T.seglog_Config) sA (u1 fun a0 =>
.lt (.int .i64) (Int.tmod seg 400) fun (n1:Int) =>
.lt (.int .i64) (Int.tmod gap 100) fun (n2:Int) =>
.bind 1 [.one (.int .i64)] (
.ite (decide (n1<0)) (
.lt (.int .i64) (IntKind.wrap .i64 (0-n1)) fun (n3:Int) =>
.done 1 [.int .i64 n3]) (
.done 1 [.int .i64 n1])) (u1 fun (n4:Int) =>
.bind 1 [.one (.int .i64)] (
.ite (decide (n2<0)) (
.lt (.int .i64) (IntKind.wrap .i64 (0-n2)) fun (n5:Int) =>
.done 1 [.int .i64 n5]) (
.done 1 [.int .i64 n2])) (u1 fun (n6:Int) =>
.actU (st T.seglog_Config a0 (.agg #[.int .i64 (IntKind.wrap .i64 (64+n4)),.int .i64 (IntKind.wrap .i64 (1+n6))])) <|
.read True (ld T.seglog_Config a0) (sG [.int .i64,.int .i64]) (u2 fun (n7 n8:Int) =>
.done 0 [.agg #[.int .i64 n7,.int .i64 n8]]))))
theorem towpathlaw06_config_calls (seg gap:Int) {w:World} {R:List Value→World→Prop} (h:(towpathlaw06_config seg gap).wp P (fun _=>True) w fun e vs w'=>e=0∧R vs w') :
  Calls P F.towpathlaw06_config #[.int .i64 seg,.int .i64 gap] w fun e w'=>∃ vs,e=.returned (pack vs)∧R vs w' :=
 decomp_sound (isFn_of Go.Proofs.Tryz.func13 (by kernel_rfl) (by kernel_rfl) (by kernel_rfl)) okFs_ok mix [.val (.int .i64 seg),.val (.int .i64 gap)] (by rw [show decomp P 22 ⟨okFs,[]⟩ { cnd:=[(25169930,[(0,.one (.int .i64))]),(402661390,[(1,.one (.int .i64))])],blk:=[],reg:=[],lps:=[] } [.cell 4 24] (bodyOf Go.Proofs.Tryz.f13) [.val (.int .i64 seg),.val (.int .i64 gap)]=towpathlaw06_config seg gap from by kernel_rfl];exact h)
def disk_New (room:Int):Prog :=
.ite (decide (room<0) || decide (room>4194304)) (
.done 0 [.pointer none,.int .i64 2]) (
.act (Instr.makeMap T.m_string_p_disk_file none) sM (u1 fun m0 =>
.act (Instr.box T.disk_Disk (.agg #[.int .i64 (-1),.bool false,.int .i64 room,.int .i64 0,.map m0])) sA (u1 fun a1 =>
.done 0 [.pointer (some a1),.int .i64 0])))
theorem disk_New_calls (room:Int) {w:World} {R:List Value→World→Prop} (h:(disk_New room).wp P (fun _=>True) w fun e vs w'=>e=0∧R vs w') :
  Calls P F.disk_New #[.int .i64 room] w fun e w'=>∃ vs,e=.returned (pack vs)∧R vs w' :=
 decomp_sound (isFn_of Go.Proofs.Tryz.func14 (by kernel_rfl) (by kernel_rfl) (by kernel_rfl)) okFs_ok mix [.val (.int .i64 room)] (by rw [show decomp P 15 ⟨okFs,[]⟩ { cnd:=[],blk:=[],reg:=[],lps:=[] } [.tmp 2,.tmp 3] (bodyOf Go.Proofs.Tryz.f14) [.val (.int .i64 room)]=disk_New room from by kernel_rfl];exact h)
def towpathlaw06_awake  : Prog :=
.call F.disk_New [.int .i64 1000] (.tup [.one .ptr,.one (.int .i64)]) (u2 fun p0 (n1:Int) =>
.lt (.int .i64) (n1) fun (n2:Int) =>
.call F.seglog_Open [.pointer p0,.string (ByteArray.mk #[112]),.agg #[.int .i64 64,.int .i64 1]] (.tup [.one .ptr,.one (.int .i64)]) (u2 fun p3 (n4:Int) =>
.lt (.int .i64) (n4) fun (n5:Int) =>
.ite (n5 != 0 || Option.isNone p3) (
.done 0 [.bool false]) (
.call F.towpathlaw06_one [.string (ByteArray.mk #[97]),.string (ByteArray.mk #[120])] (sG [.int .i64,.int .i64,.int .i64,.int .i64,.int .i64,.int .i64,.slc]) (u7 fun (n6 n7 n8 n9 n10 n11:Int) l12 =>
.act (Instr.buildSlice T.s_api_Batch 1 #[(0,.agg #[.int .i64 n6,.int .i64 n7,.int .i64 n8,.int .i64 n9,.int .i64 n10,.int .i64 n11,l12.v])]) sL (u1 fun l13 =>
.call F.seglog_Log_Append [.pointer p3,l13.v] (.tup [.one (.int .i64),.one (.int .i64)]) (u2 fun (n14 n15:Int) =>
.lt (.int .i64) (n14) fun (n16:Int) =>
.lt (.int .i64) (n15) fun (n17:Int) =>
.call F.towpathlaw06_one [.string (ByteArray.mk #[97]),.string (ByteArray.mk #[120])] (sG [.int .i64,.int .i64,.int .i64,.int .i64,.int .i64,.int .i64,.slc]) (u7 fun (n18 n19 n20 n21 n22 n23:Int) l24 =>
.act (Instr.buildSlice T.s_api_Batch 1 #[(0,.agg #[.int .i64 n18,.int .i64 n19,.int .i64 n20,.int .i64 n21,.int .i64 n22,.int .i64 n23,l24.v])]) sL (u1 fun l25 =>
.call F.seglog_Log_Append [.pointer p3,l25.v] (.tup [.one (.int .i64),.one (.int .i64)]) (u2 fun (n26 n27:Int) =>
.lt (.int .i64) (n26) fun (n28:Int) =>
.lt (.int .i64) (n27) fun (n29:Int) =>
.call F.towpathlaw06_one [.string (ByteArray.mk #[97]),.string (ByteArray.mk #[120])] (sG [.int .i64,.int .i64,.int .i64,.int .i64,.int .i64,.int .i64,.slc]) (u7 fun (n30 n31 n32 n33 n34 n35:Int) l36 =>
.act (Instr.buildSlice T.s_api_Batch 1 #[(0,.agg #[.int .i64 n30,.int .i64 n31,.int .i64 n32,.int .i64 n33,.int .i64 n34,.int .i64 n35,l36.v])]) sL (u1 fun l37 =>
.call F.seglog_Log_Append [.pointer p3,l37.v] (.tup [.one (.int .i64),.one (.int .i64)]) (u2 fun (n38 n39:Int) =>
.lt (.int .i64) (n38) fun (n40:Int) =>
.lt (.int .i64) (n39) fun (n41:Int) =>
.call F.seglog_Log_Segments [.pointer p3] sL (u1 fun l42 =>
.call F.disk_Disk_Read [.pointer p0,.string (ByteArray.mk #[112,45,48,48,48,48,48,48,48,48,48,48,48,46,108,111,103])] (.tup [.one .slc,.one (.int .i64)]) (u2 fun l43 (n44:Int) =>
.lt (.int .i64) (n44) fun (n45:Int) =>
.ex [.adr] (c1 fun a46=>(n16 == 0 && n17 == 0 && n28 == 1 && n29 == 0 && n40 == 2 && n41 == 0 && ((l42.len:Nat):Int) == 2)=true→(0:Int)≤1∧1<((l42.len:Nat):Int)∧l42.a=some a46) (u1 fun a47 =>
.read ((n16 == 0 && n17 == 0 && n28 == 1 && n29 == 0 && n40 == 2 && n41 == 0 && ((l42.len:Nat):Int) == 2)=true) (ld T.int64 (Addr.add a47 1)) (sI .i64) (u1 fun (n48:Int) =>
.ex [.adr] (c1 fun a49=>(n16 == 0 && n17 == 0 && n28 == 1 && n29 == 0 && n40 == 2 && n41 == 0 && ((l42.len:Nat):Int) == 2 && n48 == 2 && ((l43.len:Nat):Int) == 53)=true→(0:Int)≤0∧0<((l43.len:Nat):Int)∧l43.a=some a49) (u1 fun a50 =>
.read ((n16 == 0 && n17 == 0 && n28 == 1 && n29 == 0 && n40 == 2 && n41 == 0 && ((l42.len:Nat):Int) == 2 && n48 == 2 && ((l43.len:Nat):Int) == 53)=true) (ld T.uint8 (Addr.add a50 0)) (sI .u8) (u1 fun (n51:Int) =>
.ex [.adr] (c1 fun a52=>(n16 == 0 && n17 == 0 && n28 == 1 && n29 == 0 && n40 == 2 && n41 == 0 && ((l42.len:Nat):Int) == 2 && n48 == 2 && ((l43.len:Nat):Int) == 53 && n51 == 3)=true→(0:Int)≤4∧4<((l43.len:Nat):Int)∧l43.a=some a52) (u1 fun a53 =>
.read ((n16 == 0 && n17 == 0 && n28 == 1 && n29 == 0 && n40 == 2 && n41 == 0 && ((l42.len:Nat):Int) == 2 && n48 == 2 && ((l43.len:Nat):Int) == 53 && n51 == 3)=true) (ld T.uint8 (Addr.add a53 4)) (sI .u8) (u1 fun (n54:Int) =>
.lt (.bool) (n16 == 0 && n17 == 0 && n28 == 1 && n29 == 0 && n40 == 2 && n41 == 0 && ((l42.len:Nat):Int) == 2 && n48 == 2 && ((l43.len:Nat):Int) == 53 && n51 == 3 && n54 == 83) fun b55 =>
.done 0 [.bool b55]))))))))))))))))))))
theorem towpathlaw06_awake_calls  {w:World} {R:List Value→World→Prop} (h:(towpathlaw06_awake ).wp P (fun _=>True) w fun e vs w'=>e=0∧R vs w') :
  Calls P F.towpathlaw06_awake #[] w fun e w'=>∃ vs,e=.returned (pack vs)∧R vs w' :=
 decomp_sound (isFn_of Go.Proofs.Tryz.func17 (by kernel_rfl) (by kernel_rfl) (by kernel_rfl)) okFs_ok mix [] (by rw [show decomp P 108 ⟨okFs,[]⟩ { cnd:=[],blk:=[],reg:=[],lps:=[] } [.tmp 0] (bodyOf Go.Proofs.Tryz.f17) []=towpathlaw06_awake  from by kernel_rfl];exact h)
def towpathlaw06_Small (b_0 b_1 b_2 b_3 b_4 b_5:Int) (b_6:Sl):Prog :=
.act (Instr.box T.api_Batch (.agg #[.int .i64 b_0,.int .i64 b_1,.int .i64 b_2,.int .i64 b_3,.int .i64 b_4,.int .i64 b_5,b_6.v])) sA (u1 fun a0 =>
.act (new T.api_Batch) sA (u1 fun a1 =>
.read True (ld T.api_Batch a0) (sG [.int .i64,.int .i64,.int .i64,.int .i64,.int .i64,.int .i64,.slc]) (u7 fun (n2 n3 n4 n5 n6 n7:Int) l8 =>
.act (new T.api_Batch) sA (u1 fun a9 =>
.actU (st T.api_Batch a9 (.agg #[.int .i64 n2,.int .i64 n3,.int .i64 n4,.int .i64 n5,.int .i64 n6,.int .i64 n7,l8.v])) <|
.actU (st T.s_api_Record (Addr.add a9 6) (.slice none 0 0)) <|
.read True (ld T.s_api_Record (Addr.add a0 6)) sL (u1 fun l10 =>
.bind 1 [] (
.loop 2 [.one (.int .i64)] (0,()) (u1 fun (n11:Int) =>
.ite (decide (n11<((l10.len:Nat):Int))) (
.ex [.adr] (c1 fun a12=>0≤n11∧n11<((l10.len:Nat):Int)∧l10.a=some a12) (u1 fun a13 =>
.read True (ld T.api_Record (Addr.add a13 (Int.toNat n11*4))) (sG [.str,.str,.bool,.int .i64]) (u4 fun s14 s15 b16 (n17:Int) =>
.act (new T.api_Record) sA (u1 fun a18 =>
.lt (.int .i64) (n11) fun (n19:Int) =>
.actU (st T.api_Record a18 (.agg #[.string s14,.string s15,.bool b16,.int .i64 n17])) <|
.ite (decide (n19≥6)) (
.done 1 []) (
.read True (ld T.string (Addr.add a18 0)) sS (u1 fun s20 =>
.bind 3 [] (
.ite (decide (((ByteArray.size s20:Nat):Int)>30)) (
.read True (ld T.string (Addr.add a18 0)) sS (u1 fun s21 =>
.must ((0:Int)≤30∧30≤((ByteArray.size s21:Nat):Int)) <|
.actU (st T.string (Addr.add a18 0) (.string (ByteArray.extract s21 0 30))) <|
.done 3 [])) (
.done 3 [])) (u0 <|
.read True (ld T.string (Addr.add a18 1)) sS (u1 fun s22 =>
.bind 3 [] (
.ite (decide (((ByteArray.size s22:Nat):Int)>30)) (
.read True (ld T.string (Addr.add a18 1)) sS (u1 fun s23 =>
.must ((0:Int)≤30∧30≤((ByteArray.size s23:Nat):Int)) <|
.actU (st T.string (Addr.add a18 1) (.string (ByteArray.extract s23 0 30))) <|
.done 3 [])) (
.done 3 [])) (u0 <|
.read True (ld T.s_api_Record (Addr.add a9 6)) sL (u1 fun l24 =>
.read True (ld T.api_Record a18) (sG [.str,.str,.bool,.int .i64]) (u4 fun s25 s26 b27 (n28:Int) =>
.act (Instr.buildSlice T.s_api_Record 1 #[(0,.agg #[.string s25,.string s26,.bool b27,.int .i64 n28])]) sL (u1 fun l29 =>
.act (app T.s_api_Record T.s_api_Record T.s_api_Record l24.v l29.v) sL (u1 fun l30 =>
.actU (st T.s_api_Record (Addr.add a9 6) l30.v) <|
.done 2 [.int .i64 (IntKind.wrap .i64 (n11+1))]))))))))))))) (
.done 1 []))) (u0 <|
.read True (ld T.api_Batch a9) (sG [.int .i64,.int .i64,.int .i64,.int .i64,.int .i64,.int .i64,.slc]) (u7 fun (n31 n32 n33 n34 n35 n36:Int) l37 =>
.actU (st T.api_Batch a1 (.agg #[.int .i64 n31,.int .i64 n32,.int .i64 n33,.int .i64 n34,.int .i64 n35,.int .i64 n36,l37.v])) <|
.read True (ld T.api_Batch a1) (sG [.int .i64,.int .i64,.int .i64,.int .i64,.int .i64,.int .i64,.slc]) (u7 fun (n38 n39 n40 n41 n42 n43:Int) l44 =>
.done 0 [.agg #[.int .i64 n38,.int .i64 n39,.int .i64 n40,.int .i64 n41,.int .i64 n42,.int .i64 n43,l44.v]]))))))))
theorem towpathlaw06_Small_calls (b_0 b_1 b_2 b_3 b_4 b_5:Int) (b_6:Sl) {w:World} {R:List Value→World→Prop} (h:(towpathlaw06_Small b_0 b_1 b_2 b_3 b_4 b_5 b_6).wp P (fun _=>True) w fun e vs w'=>e=0∧R vs w') :
  Calls P F.towpathlaw06_Small #[.agg #[.int .i64 b_0,.int .i64 b_1,.int .i64 b_2,.int .i64 b_3,.int .i64 b_4,.int .i64 b_5,.slice b_6.a b_6.len b_6.cap]] w fun e w'=>∃ vs,e=.returned (pack vs)∧R vs w' :=
 decomp_sound (isFn_of Go.Proofs.Tryz.func26 (by kernel_rfl) (by kernel_rfl) (by kernel_rfl)) okFs_ok mix [.val (.agg #[.int .i64 b_0,.int .i64 b_1,.int .i64 b_2,.int .i64 b_3,.int .i64 b_4,.int .i64 b_5,.slice b_6.a b_6.len b_6.cap])] (by rw [show decomp P 42 ⟨okFs,[]⟩ { cnd:=[(257698037781,[]),(65970697666589,[])],blk:=[(0,[])],reg:=[],lps:=[(0,[(11,.one (.int .i64))])] } [.cell 2 38] (bodyOf Go.Proofs.Tryz.f26) [.val (.agg #[.int .i64 b_0,.int .i64 b_1,.int .i64 b_2,.int .i64 b_3,.int .i64 b_4,.int .i64 b_5,.slice b_6.a b_6.len b_6.cap])]=towpathlaw06_Small b_0 b_1 b_2 b_3 b_4 b_5 b_6 from by kernel_rfl];exact h)
def towpathref06_Log_Append (l:Option Addr) (bs:Sl):Prog :=
.ite (((bs.len:Nat):Int) == 0) (
.done 0 [.int .i64 0,.int .i64 3]) (
.call F.towpathref06_Log_Placed [.pointer l,bs.v] (.tup [.one .slc,.one (.int .i64)]) (u2 fun l0 (n1:Int) =>
.lt (.int .i64) (n1) fun (n2:Int) =>
.ite (n2 != 0) (
.lt (.int .i64) (n2) fun (n3:Int) =>
.done 0 [.int .i64 0,.int .i64 n3]) (
.bind 1 [.one (.int .i64)] (
.loop 2 [.one (.int .i64),.one (.int .i64)] (0,(0,())) (u2 fun (n4 n5:Int) =>
.ite (decide (n5<((l0.len:Nat):Int))) (
.ex [.adr] (c1 fun a6=>0≤n5∧n5<((l0.len:Nat):Int)∧l0.a=some a6) (u1 fun a7 =>
.read True (ld T.api_Batch (Addr.add a7 (Int.toNat n5*7))) (sG [.int .i64,.int .i64,.int .i64,.int .i64,.int .i64,.int .i64,.slc]) (u7 fun (n8 n9 n10 n11 n12 n13:Int) l14 =>
.act (new T.api_Batch) sA (u1 fun a15 =>
.actU (st T.api_Batch a15 (.agg #[.int .i64 n8,.int .i64 n9,.int .i64 n10,.int .i64 n11,.int .i64 n12,.int .i64 n13,l14.v])) <|
.read True (ld T.api_Batch a15) (sG [.int .i64,.int .i64,.int .i64,.int .i64,.int .i64,.int .i64,.slc]) (u7 fun (n16 n17 n18 n19 n20 n21:Int) l22 =>
.call F.towpathref06_Size [.agg #[.int .i64 n16,.int .i64 n17,.int .i64 n18,.int .i64 n19,.int .i64 n20,.int .i64 n21,l22.v]] (sI .i64) (u1 fun (n23:Int) =>
.lt (.int .i64) (IntKind.wrap .i64 (n4+n23)) fun (n24:Int) =>
.done 2 [.int .i64 n24,.int .i64 (IntKind.wrap .i64 (n5+1))])))))) (
.done 1 [.int .i64 n4]))) (u1 fun (n25:Int) =>
.ex [.adr] (c1 fun a26=>l=some a26) (u1 fun a27 =>
.read True (ld T.s_towpathref06_Segment (Addr.add a27 2)) sL (u1 fun l28 =>
.lt (.int .i64) (IntKind.wrap .i64 (((l28.len:Nat):Int)-1)) fun (n29:Int) =>
.bind 1 [.one .bool] (
.tick <|
.ex [.adr] (c1 fun a30=>decide (n29<0)=false→l=some a30) (u1 fun a31 =>
.read (decide (n29<0)=false) (ld T.s_towpathref06_Segment (Addr.add a31 2)) sL (u1 fun l32 =>
.ex [.adr] (c1 fun a33=>decide (n29<0)=false→0≤n29∧n29<((l32.len:Nat):Int)∧l32.a=some a33) (u1 fun a34 =>
.read (decide (n29<0)=false) (ld T.s_api_Batch (Addr.add (Addr.add a34 (Int.toNat n29*3)) 2)) sL (u1 fun l35 =>
.ex [.adr] (c1 fun a36=>decide (n29<0)=false∧decide (((l35.len:Nat):Int)>0)=true→l=some a36) (u1 fun a37 =>
.read (decide (n29<0)=false∧decide (((l35.len:Nat):Int)>0)=true) (ld T.s_towpathref06_Segment (Addr.add a37 2)) sL (u1 fun l38 =>
.ex [.adr] (c1 fun a39=>decide (n29<0)=false∧decide (((l35.len:Nat):Int)>0)=true→0≤n29∧n29<((l38.len:Nat):Int)∧l38.a=some a39) (u1 fun a40 =>
.read (decide (n29<0)=false∧decide (((l35.len:Nat):Int)>0)=true) (ld T.towpathref06_Segment (Addr.add a40 (Int.toNat n29*3))) (sG [.int .i64,.int .i64,.slc]) (u3 fun (n41 n42:Int) l43 =>
.ex [.adr] (c1 fun a44=>decide (n29<0)=false∧decide (((l35.len:Nat):Int)>0)=true→l=some a44) (u1 fun a45 =>
.hold (decide (n29<0)=false∧decide (((l35.len:Nat):Int)>0)=true) (ld T.int (Addr.add a45 0)) (sI .i64) (u1 fun (n46:Int) =>
.ite (decide (n29<0)) (
.untick <|
.done 1 [.bool true]) (
.ite (decide (((l35.len:Nat):Int)>0)) (
.call F.towpathref06_Segment_size [.agg #[.int .i64 n41,.int .i64 n42,l43.v]] (sI .i64) (u1 fun (n47:Int) =>
.untick <|
.done 1 [.bool (decide (IntKind.wrap .i64 (n47+n25)>n46))])) (
.untick <|
.done 1 [.bool false]))))))))))))) (u1 fun b48 =>
.bind 1 [.one (.int .i64)] (
.ite (b48) (
.ex [.adr] (c1 fun a49=>l=some a49) (u1 fun a50 =>
.read True (ld T.s_towpathref06_Segment (Addr.add a50 2)) sL (u1 fun l51 =>
.act (app T.s_towpathref06_Segment T.s_towpathref06_Segment T.s_towpathref06_Segment (.slice none 0 0) l51.v) sL (u1 fun l52 =>
.call F.towpathref06_Log_Next [.pointer l] (sI .i64) (u1 fun (n53:Int) =>
.act (Instr.buildSlice T.s_towpathref06_Segment 1 #[(0,.agg #[.int .i64 n53,.int .i64 0,.slice none 0 0])]) sL (u1 fun l54 =>
.act (app T.s_towpathref06_Segment T.s_towpathref06_Segment T.s_towpathref06_Segment l52.v l54.v) sL (u1 fun l55 =>
.ex [.adr] (c1 fun a56=>l=some a56) (u1 fun a57 =>
.actU (st T.s_towpathref06_Segment (Addr.add a57 2) l55.v) <|
.lt (.int .i64) (IntKind.wrap .i64 (n29+1)) fun (n58:Int) =>
.done 1 [.int .i64 n58])))))))) (
.done 1 [.int .i64 n29])) (u1 fun (n59:Int) =>
.ex [.adr] (c1 fun a60=>l=some a60) (u1 fun a61 =>
.read True (ld T.s_towpathref06_Segment (Addr.add a61 2)) sL (u1 fun l62 =>
.ex [.adr] (c1 fun a63=>0≤n59∧n59<((l62.len:Nat):Int)∧l62.a=some a63) (u1 fun a64 =>
.read True (ld T.s_api_Batch (Addr.add (Addr.add a64 (Int.toNat n59*3)) 2)) sL (u1 fun l65 =>
.act (app T.s_api_Batch T.s_api_Batch T.s_api_Batch (.slice none 0 0) l65.v) sL (u1 fun l66 =>
.bind 1 [] (
.tick <|
.ex [.adr] (c1 fun a67=>l=some a67) (u1 fun a68 =>
.hold True (ld T.s_towpathref06_Segment (Addr.add a68 2)) sL (u1 fun l69 =>
.act (app T.s_api_Batch T.s_api_Batch T.s_api_Batch l66.v l0.v) sL (u1 fun l70 =>
.ex [.adr] (c1 fun a71=>0≤n59∧n59<((l69.len:Nat):Int)∧l69.a=some a71) (u1 fun a72 =>
.untick <|
.actU (st T.s_api_Batch (Addr.add (Addr.add a72 (Int.toNat n59*3)) 2) l70.v) <|
.untick <|
.done 1 []))))) (u0 <|
.ex [.adr] (c1 fun a73=>(0:Int)≤0∧0<((l0.len:Nat):Int)∧l0.a=some a73) (u1 fun a74 =>
.read True (ld T.int64 (Addr.add (Addr.add a74 0) 0)) (sI .i64) (u1 fun (n75:Int) =>
.lt (.int .i64) (n75) fun (n76:Int) =>
.done 0 [.int .i64 n76,.int .i64 0]))))))))))))))))
theorem towpathref06_Log_Append_calls (l:Option Addr) (bs:Sl) {w:World} {R:List Value→World→Prop} (h:(towpathref06_Log_Append l bs).wp P (fun _=>True) w fun e vs w'=>e=0∧R vs w') :
  Calls P F.towpathref06_Log_Append #[.pointer l,.slice bs.a bs.len bs.cap] w fun e w'=>∃ vs,e=.returned (pack vs)∧R vs w' :=
 decomp_sound (isFn_of Go.Proofs.Tryz.func27 (by kernel_rfl) (by kernel_rfl) (by kernel_rfl)) okFs_ok mix [.val (.pointer l),.val (.slice bs.a bs.len bs.cap)] (by rw [show decomp P 115 ⟨okFs,[]⟩ { cnd:=[(10141127430573379875706469613641,[(11,.one (.int .i64))])],blk:=[(0,[(8,.one (.int .i64))])],reg:=[(13,[(73,.one .bool)]),(20,[])],lps:=[(0,[(8,.one (.int .i64)),(28,.one (.int .i64))])] } [.tmp 4,.tmp 5] (bodyOf Go.Proofs.Tryz.f27) [.val (.pointer l),.val (.slice bs.a bs.len bs.cap)]=towpathref06_Log_Append l bs from by kernel_rfl];exact h)
def towpathlaw06_same (l:Option Addr) (r:Option Addr):Prog :=
.bind 1 [.one .bool] (
.ite (Option.isNone l) (
.done 1 [.bool true]) (
.call F.seglog_Log_First [.pointer l] (sI .i64) (u1 fun (n0:Int) =>
.call F.towpathref06_Log_First [.pointer r] (sI .i64) (u1 fun (n1:Int) =>
.ite (n0 != n1) (
.done 1 [.bool true]) (
.call F.seglog_Log_Next [.pointer l] (sI .i64) (u1 fun (n2:Int) =>
.call F.towpathref06_Log_Next [.pointer r] (sI .i64) (u1 fun (n3:Int) =>
.ite (n2 != n3) (
.done 1 [.bool true]) (
.call F.seglog_Log_All [.pointer l] sL (u1 fun l4 =>
.call F.towpathref06_Log_All [.pointer r] sL (u1 fun l5 =>
.call F.towpathref03_SameAll [l4.v,l5.v] sB (u1 fun b6 =>
.done 1 [.bool (not b6)]))))))))))) (u1 fun b7 =>
.ite (b7) (
.done 0 [.bool false]) (
.call F.seglog_Log_Segments [.pointer l] sL (u1 fun l8 =>
.ex [.adr] (c1 fun a9=>r=some a9) (u1 fun a10 =>
.read True (ld T.s_towpathref06_Segment (Addr.add a10 2)) sL (u1 fun l11 =>
.ite (((l8.len:Nat):Int) != ((l11.len:Nat):Int)) (
.done 0 [.bool false]) (
.bind 1 [] (
.loop 2 [.one (.int .i64)] (0,()) (u1 fun (n12:Int) =>
.ite (decide (n12<((l8.len:Nat):Int))) (
.lt (.int .i64) (n12) fun (n13:Int) =>
.tick <|
.ex [.adr] (c1 fun a14=>0≤n13∧n13<((l8.len:Nat):Int)∧l8.a=some a14) (u1 fun a15 =>
.read True (ld T.int64 (Addr.add a15 (Int.toNat n13*1))) (sI .i64) (u1 fun (n16:Int) =>
.ex [.adr] (c1 fun a17=>r=some a17) (u1 fun a18 =>
.read True (ld T.s_towpathref06_Segment (Addr.add a18 2)) sL (u1 fun l19 =>
.ex [.adr] (c1 fun a20=>0≤n13∧n13<((l19.len:Nat):Int)∧l19.a=some a20) (u1 fun a21 =>
.read True (ld T.int64 (Addr.add (Addr.add a21 (Int.toNat n13*3)) 0)) (sI .i64) (u1 fun (n22:Int) =>
.untick <|
.ite (n16 != n22) (
.done 0 [.bool false]) (
.done 2 [.int .i64 (IntKind.wrap .i64 (n12+1))])))))))) (
.done 1 []))) (u0 <|
.done 0 [.bool true])))))))
theorem towpathlaw06_same_calls (l r:Option Addr) {w:World} {R:List Value→World→Prop} (h:(towpathlaw06_same l r).wp P (fun _=>True) w fun e vs w'=>e=0∧R vs w') :
  Calls P F.towpathlaw06_same #[.pointer l,.pointer r] w fun e w'=>∃ vs,e=.returned (pack vs)∧R vs w' :=
 decomp_sound (isFn_of Go.Proofs.Tryz.func28 (by kernel_rfl) (by kernel_rfl) (by kernel_rfl)) okFs_ok mix [.val (.pointer l),.val (.pointer r)] (by rw [show decomp P 60 ⟨okFs,[]⟩ { cnd:=[],blk:=[(0,[])],reg:=[(1,[(30,.one .bool)])],lps:=[(0,[(43,.one (.int .i64))])] } [.tmp 4] (bodyOf Go.Proofs.Tryz.f28) [.val (.pointer l),.val (.pointer r)]=towpathlaw06_same l r from by kernel_rfl];exact h)
def disk_Disk_Append (d:Option Addr) (name:ByteArray) (parts:Sl):Prog :=
.call F.disk_Disk_may [.pointer d] (sI .i64) (u1 fun (n0:Int) =>
.lt (.int .i64) (n0) fun (n1:Int) =>
.ite (n1 != 0) (
.lt (.int .i64) (n1) fun (n2:Int) =>
.done 0 [.int .i64 n2]) (
.call F.disk_Name [.string name] sB (u1 fun b3 =>
.ite (not b3) (
.done 0 [.int .i64 2]) (
.bind 1 [.one (.int .i64)] (
.loop 2 [.one (.int .i64),.one (.int .i64)] (0,(0,())) (u2 fun (n4 n5:Int) =>
.ite (decide (n5<((parts.len:Nat):Int))) (
.ex [.adr] (c1 fun a6=>0≤n5∧n5<((parts.len:Nat):Int)∧parts.a=some a6) (u1 fun a7 =>
.read True (ld T.s_uint8 (Addr.add a7 (Int.toNat n5*1))) sL (u1 fun l8 =>
.call F.disk_Disk_Free [.pointer d] (sI .i64) (u1 fun (n9:Int) =>
.ite (decide (((l8.len:Nat):Int)>IntKind.wrap .i64 (n9-n4))) (
.done 0 [.int .i64 5]) (
.lt (.int .i64) (IntKind.wrap .i64 (n4+((l8.len:Nat):Int))) fun (n10:Int) =>
.done 2 [.int .i64 n10,.int .i64 (IntKind.wrap .i64 (n5+1))]))))) (
.done 1 [.int .i64 n4]))) (u1 fun (n11:Int) =>
.ex [.adr] (c1 fun a12=>d=some a12) (u1 fun a13 =>
.read True (ld T.m_string_p_disk_file (Addr.add a13 4)) sM (u1 fun m14 =>
.read True (Instr.lookup T.m_string_p_disk_file (.map m14) (.string name) true) (.tup [.one .ptr,.one .bool]) (u2 fun p15 b16 =>
.lt (.bool) (b16) fun b17 =>
.bind 1 [.one .ptr] (
.ite (not b17) (
.ex [.adr] (c1 fun a18=>d=some a18) (u1 fun a19 =>
.read True (ld T.m_string_p_disk_file (Addr.add a19 4)) sM (u1 fun m20 =>
.read True (Builtin.len_ #[T.m_string_p_disk_file] T.int #[.map m20]) (sI .i64) (u1 fun (n21:Int) =>
.ite (decide (n21≥128)) (
.done 0 [.int .i64 5]) (
.act (Instr.box T.disk_file (.agg #[.slice none 0 0,.int .i64 0])) sA (u1 fun a22 =>
.ex [.adr] (c1 fun a23=>d=some a23) (u1 fun a24 =>
.read True (ld T.m_string_p_disk_file (Addr.add a24 4)) sM (u1 fun m25 =>
.actU (Instr.mapUpdate T.m_string_p_disk_file (.map m25) (.string name) (.pointer (some a22))) <|
.done 1 [.pointer (some a22)])))))))) (
.done 1 [.pointer p15])) (u1 fun p26 =>
.bind 1 [] (
.loop 2 [.one (.int .i64)] (0,()) (u1 fun (n27:Int) =>
.ite (decide (n27<((parts.len:Nat):Int))) (
.ex [.adr] (c1 fun a28=>0≤n27∧n27<((parts.len:Nat):Int)∧parts.a=some a28) (u1 fun a29 =>
.read True (ld T.s_uint8 (Addr.add a29 (Int.toNat n27*1))) sL (u1 fun l30 =>
.ex [.adr] (c1 fun a31=>p26=some a31) (u1 fun a32 =>
.read True (ld T.s_uint8 (Addr.add a32 0)) sL (u1 fun l33 =>
.act (app T.s_uint8 T.s_uint8 T.s_uint8 l33.v l30.v) sL (u1 fun l34 =>
.ex [.adr] (c1 fun a35=>p26=some a35) (u1 fun a36 =>
.actU (st T.s_uint8 (Addr.add a36 0) l34.v) <|
.done 2 [.int .i64 (IntKind.wrap .i64 (n27+1))]))))))) (
.done 1 []))) (u0 <|
.ex [.adr] (c1 fun a37=>d=some a37) (u1 fun a38 =>
.read True (ld T.int (Addr.add a38 3)) (sI .i64) (u1 fun (n39:Int) =>
.ex [.adr] (c1 fun a40=>d=some a40) (u1 fun a41 =>
.actU (st T.int (Addr.add a41 3) (.int .i64 (IntKind.wrap .i64 (n39+n11)))) <|
.ex [.adr] (c1 fun a42=>d=some a42) (u1 fun a43 =>
.call F.disk_power_spend [.pointer (some (Addr.add a43 0))] (.tup []) (u0 <|
.done 0 [.int .i64 0])))))))))))))))
theorem disk_Disk_Append_calls (d:Option Addr) (name:ByteArray) (parts:Sl) {w:World} {R:List Value→World→Prop} (h:(disk_Disk_Append d name parts).wp P (fun _=>True) w fun e vs w'=>e=0∧R vs w') :
  Calls P F.disk_Disk_Append #[.pointer d,.string name,.slice parts.a parts.len parts.cap] w fun e w'=>∃ vs,e=.returned (pack vs)∧R vs w' :=
 decomp_sound (isFn_of Go.Proofs.Tryz.func30 (by kernel_rfl) (by kernel_rfl) (by kernel_rfl)) okFs_ok mix [.val (.pointer d),.val (.string name),.val (.slice parts.a parts.len parts.cap)] (by rw [show decomp P 96 ⟨okFs,[]⟩ { cnd:=[(604426016319167176900660,[(11,.one .ptr)])],blk:=[(0,[(8,.one (.int .i64))]),(2,[])],reg:=[],lps:=[(0,[(8,.one (.int .i64)),(26,.one (.int .i64))]),(2,[(69,.one (.int .i64))])] } [.tmp 6] (bodyOf Go.Proofs.Tryz.f30) [.val (.pointer d),.val (.string name),.val (.slice parts.a parts.len parts.cap)]=disk_Disk_Append d name parts from by kernel_rfl];exact h)
def disk_Disk_Read (d:Option Addr) (name:ByteArray):Prog :=
.ite (Option.isNone d) (
.done 0 [.slice none 0 0,.int .i64 1]) (
.ex [.adr] (c1 fun a0=>d=some a0) (u1 fun a1 =>
.read True (ld T.m_string_p_disk_file (Addr.add a1 4)) sM (u1 fun m2 =>
.read True (Instr.lookup T.m_string_p_disk_file (.map m2) (.string name) false) sP (u1 fun p3 =>
.ite (Option.isNone p3) (
.done 0 [.slice none 0 0,.int .i64 3]) (
.ex [.adr] (c1 fun a4=>p3=some a4) (u1 fun a5 =>
.read True (ld T.s_uint8 (Addr.add a5 0)) sL (u1 fun l6 =>
.call F.bytes_Clone [l6.v] sL (u1 fun l7 =>
.done 0 [l7.v,.int .i64 0]))))))))
theorem disk_Disk_Read_calls (d:Option Addr) (name:ByteArray) {w:World} {R:List Value→World→Prop} (h:(disk_Disk_Read d name).wp P (fun _=>True) w fun e vs w'=>e=0∧R vs w') :
  Calls P F.disk_Disk_Read #[.pointer d,.string name] w fun e w'=>∃ vs,e=.returned (pack vs)∧R vs w' :=
 decomp_sound (isFn_of Go.Proofs.Tryz.func34 (by kernel_rfl) (by kernel_rfl) (by kernel_rfl)) okFs_ok mix [.val (.pointer d),.val (.string name)] (by rw [show decomp P 22 ⟨okFs,[]⟩ { cnd:=[],blk:=[],reg:=[],lps:=[] } [.tmp 4,.tmp 5] (bodyOf Go.Proofs.Tryz.f34) [.val (.pointer d),.val (.string name)]=disk_Disk_Read d name from by kernel_rfl];exact h)
def towpathref06_Segment_File (s_0 s_1:Int) (s_2:Sl):Prog :=
.act (Instr.box T.towpathref06_Segment (.agg #[.int .i64 s_0,.int .i64 s_1,s_2.v])) sA (u1 fun a0 =>
.read True (ld T.int64 (Addr.add a0 0)) (sI .i64) (u1 fun (n1:Int) =>
.read True (ld T.int64 (Addr.add a0 1)) (sI .i64) (u1 fun (n2:Int) =>
.call F.towpathref06_Head [.int .i64 n1,.int .i64 n2] sL (u1 fun l3 =>
.read True (ld T.s_api_Batch (Addr.add a0 2)) sL (u1 fun l4 =>
.bind 1 [.one .slc] (
.loop 2 [.one .slc,.one (.int .i64)] ({ a:=l3.a,len:=l3.len,cap:=l3.cap },(0,())) (u2 fun l5 (n6:Int) =>
.ite (decide (n6<((l4.len:Nat):Int))) (
.ex [.adr] (c1 fun a7=>0≤n6∧n6<((l4.len:Nat):Int)∧l4.a=some a7) (u1 fun a8 =>
.read True (ld T.api_Batch (Addr.add a8 (Int.toNat n6*7))) (sG [.int .i64,.int .i64,.int .i64,.int .i64,.int .i64,.int .i64,.slc]) (u7 fun (n9 n10 n11 n12 n13 n14:Int) l15 =>
.act (new T.api_Batch) sA (u1 fun a16 =>
.actU (st T.api_Batch a16 (.agg #[.int .i64 n9,.int .i64 n10,.int .i64 n11,.int .i64 n12,.int .i64 n13,.int .i64 n14,l15.v])) <|
.read True (ld T.api_Batch a16) (sG [.int .i64,.int .i64,.int .i64,.int .i64,.int .i64,.int .i64,.slc]) (u7 fun (n17 n18 n19 n20 n21 n22:Int) l23 =>
.call F.towpathref03_Encode [.agg #[.int .i64 n17,.int .i64 n18,.int .i64 n19,.int .i64 n20,.int .i64 n21,.int .i64 n22,l23.v]] (.tup [.one .slc,.one (.int .i64)]) (u2 fun l24 (n25:Int) =>
.lt (.int .i64) (n25) fun (n26:Int) =>
.call F.towpathref02_Seal [l24.v] sL (u1 fun l27 =>
.act (app T.s_uint8 T.s_uint8 T.s_uint8 l5.v l27.v) sL (u1 fun l28 =>
.done 2 [l28.v,.int .i64 (IntKind.wrap .i64 (n6+1))])))))))) (
.done 1 [l5.v]))) (u1 fun l29 =>
.done 0 [l29.v]))))))
theorem towpathref06_Segment_File_calls (s_0 s_1:Int) (s_2:Sl) {w:World} {R:List Value→World→Prop} (h:(towpathref06_Segment_File s_0 s_1 s_2).wp P (fun _=>True) w fun e vs w'=>e=0∧R vs w') :
  Calls P F.towpathref06_Segment_File #[.agg #[.int .i64 s_0,.int .i64 s_1,.slice s_2.a s_2.len s_2.cap]] w fun e w'=>∃ vs,e=.returned (pack vs)∧R vs w' :=
 decomp_sound (isFn_of Go.Proofs.Tryz.func36 (by kernel_rfl) (by kernel_rfl) (by kernel_rfl)) okFs_ok mix [.val (.agg #[.int .i64 s_0,.int .i64 s_1,.slice s_2.a s_2.len s_2.cap])] (by rw [show decomp P 31 ⟨okFs,[]⟩ { cnd:=[],blk:=[(0,[(3,.one .slc)])],reg:=[],lps:=[(0,[(3,.one .slc),(16,.one (.int .i64))])] } [.tmp 2] (bodyOf Go.Proofs.Tryz.f36) [.val (.agg #[.int .i64 s_0,.int .i64 s_1,.slice s_2.a s_2.len s_2.cap])]=towpathref06_Segment_File s_0 s_1 s_2 from by kernel_rfl];exact h)
def towpathlaw06_one (key:ByteArray) (value:ByteArray):Prog :=
.act (new T.api_Batch) sA (u1 fun a0 =>
.act (Instr.buildSlice T.s_api_Record 1 #[(0,.agg #[.string key,.string value,.bool false,.int .i64 0])]) sL (u1 fun l1 =>
.actU (st T.api_Batch a0 (.agg #[.int .i64 0,.int .i64 0,.int .i64 0,.int .i64 0,.int .i64 0,.int .i64 0,l1.v])) <|
.read True (ld T.api_Batch a0) (sG [.int .i64,.int .i64,.int .i64,.int .i64,.int .i64,.int .i64,.slc]) (u7 fun (n2 n3 n4 n5 n6 n7:Int) l8 =>
.done 0 [.agg #[.int .i64 n2,.int .i64 n3,.int .i64 n4,.int .i64 n5,.int .i64 n6,.int .i64 n7,l8.v]])))
theorem towpathlaw06_one_calls (key value:ByteArray) {w:World} {R:List Value→World→Prop} (h:(towpathlaw06_one key value).wp P (fun _=>True) w fun e vs w'=>e=0∧R vs w') :
  Calls P F.towpathlaw06_one #[.string key,.string value] w fun e w'=>∃ vs,e=.returned (pack vs)∧R vs w' :=
 decomp_sound (isFn_of Go.Proofs.Tryz.func37 (by kernel_rfl) (by kernel_rfl) (by kernel_rfl)) okFs_ok mix [.val (.string key),.val (.string value)] (by rw [show decomp P 10 ⟨okFs,[]⟩ { cnd:=[],blk:=[],reg:=[],lps:=[] } [.cell 4 38] (bodyOf Go.Proofs.Tryz.f37) [.val (.string key),.val (.string value)]=towpathlaw06_one key value from by kernel_rfl];exact h)
def towpathref06_Log_Copy (l:Option Addr):Prog :=
.tick <|
.ex [.adr] (c1 fun a0=>l=some a0) (u1 fun a1 =>
.read True (ld T.int (Addr.add a1 0)) (sI .i64) (u1 fun (n2:Int) =>
.ex [.adr] (c1 fun a3=>l=some a3) (u1 fun a4 =>
.read True (ld T.int (Addr.add a4 1)) (sI .i64) (u1 fun (n5:Int) =>
.act (Instr.box T.towpathref06_Log (.agg #[.int .i64 n2,.int .i64 n5,.slice none 0 0])) sA (u1 fun a6 =>
.untick <|
.ex [.adr] (c1 fun a7=>l=some a7) (u1 fun a8 =>
.read True (ld T.s_towpathref06_Segment (Addr.add a8 2)) sL (u1 fun l9 =>
.bind 1 [] (
.loop 2 [.one (.int .i64)] (0,()) (u1 fun (n10:Int) =>
.ite (decide (n10<((l9.len:Nat):Int))) (
.ex [.adr] (c1 fun a11=>0≤n10∧n10<((l9.len:Nat):Int)∧l9.a=some a11) (u1 fun a12 =>
.read True (ld T.towpathref06_Segment (Addr.add a12 (Int.toNat n10*3))) (sG [.int .i64,.int .i64,.slc]) (u3 fun (n13 n14:Int) l15 =>
.act (new T.towpathref06_Segment) sA (u1 fun a16 =>
.actU (st T.towpathref06_Segment a16 (.agg #[.int .i64 n13,.int .i64 n14,l15.v])) <|
.read True (ld T.int64 (Addr.add a16 0)) (sI .i64) (u1 fun (n17:Int) =>
.read True (ld T.int64 (Addr.add a16 1)) (sI .i64) (u1 fun (n18:Int) =>
.act (new T.towpathref06_Segment) sA (u1 fun a19 =>
.actU (st T.towpathref06_Segment a19 (.agg #[.int .i64 n17,.int .i64 n18,.slice none 0 0])) <|
.read True (ld T.s_api_Batch (Addr.add a19 2)) sL (u1 fun l20 =>
.read True (ld T.s_api_Batch (Addr.add a16 2)) sL (u1 fun l21 =>
.act (app T.s_api_Batch T.s_api_Batch T.s_api_Batch l20.v l21.v) sL (u1 fun l22 =>
.actU (st T.s_api_Batch (Addr.add a19 2) l22.v) <|
.bind 3 [] (
.tick <|
.hold True (ld T.s_towpathref06_Segment (Addr.add a6 2)) sL (u1 fun l23 =>
.read True (ld T.towpathref06_Segment a19) (sG [.int .i64,.int .i64,.slc]) (u3 fun (n24 n25:Int) l26 =>
.act (Instr.buildSlice T.s_towpathref06_Segment 1 #[(0,.agg #[.int .i64 n24,.int .i64 n25,l26.v])]) sL (u1 fun l27 =>
.untick <|
.act (app T.s_towpathref06_Segment T.s_towpathref06_Segment T.s_towpathref06_Segment l23.v l27.v) sL (u1 fun l28 =>
.actU (st T.s_towpathref06_Segment (Addr.add a6 2) l28.v) <|
.untick <|
.done 3 []))))) (u0 <|
.done 2 [.int .i64 (IntKind.wrap .i64 (n10+1))]))))))))))) (
.done 1 []))) (u0 <|
.done 0 [.pointer (some a6)]))))))))
theorem towpathref06_Log_Copy_calls (l:Option Addr) {w:World} {R:List Value→World→Prop} (h:(towpathref06_Log_Copy l).wp P (fun _=>True) w fun e vs w'=>e=0∧R vs w') :
  Calls P F.towpathref06_Log_Copy #[.pointer l] w fun e w'=>∃ vs,e=.returned (pack vs)∧R vs w' :=
 decomp_sound (isFn_of Go.Proofs.Tryz.func38 (by kernel_rfl) (by kernel_rfl) (by kernel_rfl)) okFs_ok mix [.val (.pointer l)] (by rw [show decomp P 49 ⟨okFs,[]⟩ { cnd:=[],blk:=[(0,[])],reg:=[(7,[])],lps:=[(0,[(22,.one (.int .i64))])] } [.tmp 2] (bodyOf Go.Proofs.Tryz.f38) [.val (.pointer l)]=towpathref06_Log_Copy l from by kernel_rfl];exact h)
def towpathref06_Log_Placed (l:Option Addr) (bs:Sl):Prog :=
.call F.towpathref06_Log_Next [.pointer l] (sI .i64) (u1 fun (n0:Int) =>
.lt (.int .i64) (n0) fun (n1:Int) =>
.bind 1 [.one .slc] (
.loop 2 [.one (.int .i64),.one .slc,.one (.int .i64)] (n1,(⟨none,0,0⟩,(0,()))) (u3 fun (n2:Int) l3 (n4:Int) =>
.ite (decide (n4<((bs.len:Nat):Int))) (
.ex [.adr] (c1 fun a5=>0≤n4∧n4<((bs.len:Nat):Int)∧bs.a=some a5) (u1 fun a6 =>
.read True (ld T.api_Batch (Addr.add a6 (Int.toNat n4*7))) (sG [.int .i64,.int .i64,.int .i64,.int .i64,.int .i64,.int .i64,.slc]) (u7 fun (n7 n8 n9 n10 n11 n12:Int) l13 =>
.act (new T.api_Batch) sA (u1 fun a14 =>
.actU (st T.api_Batch a14 (.agg #[.int .i64 n7,.int .i64 n8,.int .i64 n9,.int .i64 n10,.int .i64 n11,.int .i64 n12,l13.v])) <|
.actU (st T.int64 (Addr.add a14 0) (.int .i64 n2)) <|
.read True (ld T.api_Batch a14) (sG [.int .i64,.int .i64,.int .i64,.int .i64,.int .i64,.int .i64,.slc]) (u7 fun (n15 n16 n17 n18 n19 n20:Int) l21 =>
.call F.towpathref03_Valid [.agg #[.int .i64 n15,.int .i64 n16,.int .i64 n17,.int .i64 n18,.int .i64 n19,.int .i64 n20,l21.v]] (sI .i64) (u1 fun (n22:Int) =>
.lt (.int .i64) (n22) fun (n23:Int) =>
.ite (n23 != 0) (
.lt (.int .i64) (n23) fun (n24:Int) =>
.done 0 [.slice none 0 0,.int .i64 n24]) (
.read True (ld T.api_Batch a14) (sG [.int .i64,.int .i64,.int .i64,.int .i64,.int .i64,.int .i64,.slc]) (u7 fun (n25 n26 n27 n28 n29 n30:Int) l31 =>
.act (Instr.buildSlice T.s_api_Batch 1 #[(0,.agg #[.int .i64 n25,.int .i64 n26,.int .i64 n27,.int .i64 n28,.int .i64 n29,.int .i64 n30,l31.v])]) sL (u1 fun l32 =>
.act (app T.s_api_Batch T.s_api_Batch T.s_api_Batch l3.v l32.v) sL (u1 fun l33 =>
.read True (ld T.api_Batch a14) (sG [.int .i64,.int .i64,.int .i64,.int .i64,.int .i64,.int .i64,.slc]) (u7 fun (n34 n35 n36 n37 n38 n39:Int) l40 =>
.call F.towpathref03_Span [.agg #[.int .i64 n34,.int .i64 n35,.int .i64 n36,.int .i64 n37,.int .i64 n38,.int .i64 n39,l40.v]] (sI .i64) (u1 fun (n41:Int) =>
.lt (.int .i64) (IntKind.wrap .i64 (n2+n41)) fun (n42:Int) =>
.done 2 [.int .i64 n42,l33.v,.int .i64 (IntKind.wrap .i64 (n4+1))])))))))))))) (
.done 1 [l3.v]))) (u1 fun l43 =>
.done 0 [l43.v,.int .i64 0]))
theorem towpathref06_Log_Placed_calls (l:Option Addr) (bs:Sl) {w:World} {R:List Value→World→Prop} (h:(towpathref06_Log_Placed l bs).wp P (fun _=>True) w fun e vs w'=>e=0∧R vs w') :
  Calls P F.towpathref06_Log_Placed #[.pointer l,.slice bs.a bs.len bs.cap] w fun e w'=>∃ vs,e=.returned (pack vs)∧R vs w' :=
 decomp_sound (isFn_of Go.Proofs.Tryz.func39 (by kernel_rfl) (by kernel_rfl) (by kernel_rfl)) okFs_ok mix [.val (.pointer l),.val (.slice bs.a bs.len bs.cap)] (by rw [show decomp P 36 ⟨okFs,[]⟩ { cnd:=[],blk:=[(0,[(7,.one .slc)])],reg:=[],lps:=[(0,[(6,.one (.int .i64)),(7,.one .slc),(15,.one (.int .i64))])] } [.tmp 4,.tmp 5] (bodyOf Go.Proofs.Tryz.f39) [.val (.pointer l),.val (.slice bs.a bs.len bs.cap)]=towpathref06_Log_Placed l bs from by kernel_rfl];exact h)
def towpathref06_Size (b_0 b_1 b_2 b_3 b_4 b_5:Int) (b_6:Sl):Prog :=
.act (Instr.box T.api_Batch (.agg #[.int .i64 b_0,.int .i64 b_1,.int .i64 b_2,.int .i64 b_3,.int .i64 b_4,.int .i64 b_5,b_6.v])) sA (u1 fun a0 =>
.read True (ld T.api_Batch a0) (sG [.int .i64,.int .i64,.int .i64,.int .i64,.int .i64,.int .i64,.slc]) (u7 fun (n1 n2 n3 n4 n5 n6:Int) l7 =>
.call F.towpathref03_Encode [.agg #[.int .i64 n1,.int .i64 n2,.int .i64 n3,.int .i64 n4,.int .i64 n5,.int .i64 n6,l7.v]] (.tup [.one .slc,.one (.int .i64)]) (u2 fun l8 (n9:Int) =>
.lt (.int .i64) (n9) fun (n10:Int) =>
.lt (.int .i64) (IntKind.wrap .i64 (((l8.len:Nat):Int)+8)) fun (n11:Int) =>
.done 0 [.int .i64 n11])))
theorem towpathref06_Size_calls (b_0 b_1 b_2 b_3 b_4 b_5:Int) (b_6:Sl) {w:World} {R:List Value→World→Prop} (h:(towpathref06_Size b_0 b_1 b_2 b_3 b_4 b_5 b_6).wp P (fun _=>True) w fun e vs w'=>e=0∧R vs w') :
  Calls P F.towpathref06_Size #[.agg #[.int .i64 b_0,.int .i64 b_1,.int .i64 b_2,.int .i64 b_3,.int .i64 b_4,.int .i64 b_5,.slice b_6.a b_6.len b_6.cap]] w fun e w'=>∃ vs,e=.returned (pack vs)∧R vs w' :=
 decomp_sound (isFn_of Go.Proofs.Tryz.func40 (by kernel_rfl) (by kernel_rfl) (by kernel_rfl)) okFs_ok mix [.val (.agg #[.int .i64 b_0,.int .i64 b_1,.int .i64 b_2,.int .i64 b_3,.int .i64 b_4,.int .i64 b_5,.slice b_6.a b_6.len b_6.cap])] (by rw [show decomp P 13 ⟨okFs,[]⟩ { cnd:=[],blk:=[],reg:=[],lps:=[] } [.tmp 2] (bodyOf Go.Proofs.Tryz.f40) [.val (.agg #[.int .i64 b_0,.int .i64 b_1,.int .i64 b_2,.int .i64 b_3,.int .i64 b_4,.int .i64 b_5,.slice b_6.a b_6.len b_6.cap])]=towpathref06_Size b_0 b_1 b_2 b_3 b_4 b_5 b_6 from by kernel_rfl];exact h)
def towpathref06_Head (base:Int) (end_:Int):Prog :=
.act (Instr.buildSlice T.s_uint8 1 #[(0,.int .u8 83)]) sL (u1 fun l0 =>
.call F.towpathref01_Uint [.int .u64 (IntKind.wrap .u64 base)] sL (u1 fun l1 =>
.act (app T.s_uint8 T.s_uint8 T.s_uint8 l0.v l1.v) sL (u1 fun l2 =>
.call F.towpathref01_Uint [.int .u64 (IntKind.wrap .u64 end_)] sL (u1 fun l3 =>
.act (app T.s_uint8 T.s_uint8 T.s_uint8 l2.v l3.v) sL (u1 fun l4 =>
.call F.towpathref02_Seal [l4.v] sL (u1 fun l5 =>
.done 0 [l5.v]))))))
theorem towpathref06_Head_calls (base end_:Int) {w:World} {R:List Value→World→Prop} (h:(towpathref06_Head base end_).wp P (fun _=>True) w fun e vs w'=>e=0∧R vs w') :
  Calls P F.towpathref06_Head #[.int .i64 base,.int .i64 end_] w fun e w'=>∃ vs,e=.returned (pack vs)∧R vs w' :=
 decomp_sound (isFn_of Go.Proofs.Tryz.func41 (by kernel_rfl) (by kernel_rfl) (by kernel_rfl)) okFs_ok mix [.val (.int .i64 base),.val (.int .i64 end_)] (by rw [show decomp P 19 ⟨okFs,[]⟩ { cnd:=[],blk:=[],reg:=[],lps:=[] } [.tmp 4] (bodyOf Go.Proofs.Tryz.f41) [.val (.int .i64 base),.val (.int .i64 end_)]=towpathref06_Head base end_ from by kernel_rfl];exact h)
def towpathref06_Log_Next (l:Option Addr):Prog :=
.ex [.adr] (c1 fun a0=>l=some a0) (u1 fun a1 =>
.read True (ld T.s_towpathref06_Segment (Addr.add a1 2)) sL (u1 fun l2 =>
.ite (((l2.len:Nat):Int) == 0) (
.done 0 [.int .i64 0]) (
.tick <|
.ex [.adr] (c1 fun a3=>l=some a3) (u1 fun a4 =>
.read True (ld T.s_towpathref06_Segment (Addr.add a4 2)) sL (u1 fun l5 =>
.ex [.adr] (c1 fun a6=>l=some a6) (u1 fun a7 =>
.read True (ld T.s_towpathref06_Segment (Addr.add a7 2)) sL (u1 fun l8 =>
.ex [.adr] (c1 fun a9=>0≤IntKind.wrap .i64 (((l8.len:Nat):Int)-1)∧IntKind.wrap .i64 (((l8.len:Nat):Int)-1)<((l5.len:Nat):Int)∧l5.a=some a9) (u1 fun a10 =>
.read True (ld T.towpathref06_Segment (Addr.add a10 (Int.toNat (IntKind.wrap .i64 (((l8.len:Nat):Int)-1))*3))) (sG [.int .i64,.int .i64,.slc]) (u3 fun (n11 n12:Int) l13 =>
.call F.towpathref06_Segment_reach [.agg #[.int .i64 n11,.int .i64 n12,l13.v]] (sI .i64) (u1 fun (n14:Int) =>
.lt (.int .i64) (n14) fun (n15:Int) =>
.untick <|
.done 0 [.int .i64 n15]))))))))))
theorem towpathref06_Log_Next_calls (l:Option Addr) {w:World} {R:List Value→World→Prop} (h:(towpathref06_Log_Next l).wp P (fun _=>True) w fun e vs w'=>e=0∧R vs w') :
  Calls P F.towpathref06_Log_Next #[.pointer l] w fun e w'=>∃ vs,e=.returned (pack vs)∧R vs w' :=
 decomp_sound (isFn_of Go.Proofs.Tryz.func42 (by kernel_rfl) (by kernel_rfl) (by kernel_rfl)) okFs_ok mix [.val (.pointer l)] (by rw [show decomp P 22 ⟨okFs,[]⟩ { cnd:=[],blk:=[],reg:=[],lps:=[] } [.tmp 2] (bodyOf Go.Proofs.Tryz.f42) [.val (.pointer l)]=towpathref06_Log_Next l from by kernel_rfl];exact h)
def disk_Disk_Room (d:Option Addr) (n:Int):Prog :=
.lt (.bool) (Option.isNone d) fun b0 =>
.ite (b0) (
.done 0 [.int .i64 1]) (
.lt (.bool) (decide (n<0) || decide (n>4194304)) fun b1 =>
.ite (b1) (
.done 0 [.int .i64 2]) (
.ex [.adr] (c1 fun a2=>d=some a2) (u1 fun a3 =>
.actU (st T.int (Addr.add a3 2) (.int .i64 n)) <|
.done 0 [.int .i64 0])))
theorem disk_Disk_Room_calls (d:Option Addr) (n:Int) {w:World} {R:List Value→World→Prop} (h:(disk_Disk_Room d n).wp P (fun _=>True) w fun e vs w'=>e=0∧R vs w') :
  Calls P F.disk_Disk_Room #[.pointer d,.int .i64 n] w fun e w'=>∃ vs,e=.returned (pack vs)∧R vs w' :=
 decomp_sound (isFn_of Go.Proofs.Tryz.func43 (by kernel_rfl) (by kernel_rfl) (by kernel_rfl)) okFs_ok mix [.val (.pointer d),.val (.int .i64 n)] (by rw [show decomp P 19 ⟨okFs,[]⟩ { cnd:=[],blk:=[],reg:=[],lps:=[] } [.tmp 4] (bodyOf Go.Proofs.Tryz.f43) [.val (.pointer d),.val (.int .i64 n)]=disk_Disk_Room d n from by kernel_rfl];exact h)
def disk_Disk_Gone (d:Option Addr):Prog :=
.ex [.adr] (c1 fun a0=>Option.isNone d=false→d=some a0) (u1 fun a1 =>
.read (Option.isNone d=false) (ld T.bool (Addr.add (Addr.add a1 0) 1)) sB (u1 fun b2 =>
.lt (.bool) (Option.isNone d || b2) fun b3 =>
.done 0 [.bool b3]))
theorem disk_Disk_Gone_calls (d:Option Addr) {w:World} {R:List Value→World→Prop} (h:(disk_Disk_Gone d).wp P (fun _=>True) w fun e vs w'=>e=0∧R vs w') :
  Calls P F.disk_Disk_Gone #[.pointer d] w fun e w'=>∃ vs,e=.returned (pack vs)∧R vs w' :=
 decomp_sound (isFn_of Go.Proofs.Tryz.func48 (by kernel_rfl) (by kernel_rfl) (by kernel_rfl)) okFs_ok mix [.val (.pointer d)] (by rw [show decomp P 12 ⟨okFs,[]⟩ { cnd:=[],blk:=[],reg:=[],lps:=[] } [.tmp 2] (bodyOf Go.Proofs.Tryz.f48) [.val (.pointer d)]=disk_Disk_Gone d from by kernel_rfl];exact h)
def towpathref06_Log_All (l:Option Addr):Prog :=
.ex [.adr] (c1 fun a0=>l=some a0) (u1 fun a1 =>
.read True (ld T.s_towpathref06_Segment (Addr.add a1 2)) sL (u1 fun l2 =>
.bind 1 [.one .slc] (
.loop 2 [.one .slc,.one (.int .i64)] (⟨none,0,0⟩,(0,())) (u2 fun l3 (n4:Int) =>
.ite (decide (n4<((l2.len:Nat):Int))) (
.ex [.adr] (c1 fun a5=>0≤n4∧n4<((l2.len:Nat):Int)∧l2.a=some a5) (u1 fun a6 =>
.read True (ld T.towpathref06_Segment (Addr.add a6 (Int.toNat n4*3))) (sG [.int .i64,.int .i64,.slc]) (u3 fun (n7 n8:Int) l9 =>
.act (new T.towpathref06_Segment) sA (u1 fun a10 =>
.actU (st T.towpathref06_Segment a10 (.agg #[.int .i64 n7,.int .i64 n8,l9.v])) <|
.read True (ld T.s_api_Batch (Addr.add a10 2)) sL (u1 fun l11 =>
.act (app T.s_api_Batch T.s_api_Batch T.s_api_Batch l3.v l11.v) sL (u1 fun l12 =>
.done 2 [l12.v,.int .i64 (IntKind.wrap .i64 (n4+1))])))))) (
.done 1 [l3.v]))) (u1 fun l13 =>
.done 0 [l13.v])))
theorem towpathref06_Log_All_calls (l:Option Addr) {w:World} {R:List Value→World→Prop} (h:(towpathref06_Log_All l).wp P (fun _=>True) w fun e vs w'=>e=0∧R vs w') :
  Calls P F.towpathref06_Log_All #[.pointer l] w fun e w'=>∃ vs,e=.returned (pack vs)∧R vs w' :=
 decomp_sound (isFn_of Go.Proofs.Tryz.func58 (by kernel_rfl) (by kernel_rfl) (by kernel_rfl)) okFs_ok mix [.val (.pointer l)] (by rw [show decomp P 21 ⟨okFs,[]⟩ { cnd:=[],blk:=[(0,[(3,.one .slc)])],reg:=[],lps:=[(0,[(3,.one .slc),(11,.one (.int .i64))])] } [.tmp 2] (bodyOf Go.Proofs.Tryz.f58) [.val (.pointer l)]=towpathref06_Log_All l from by kernel_rfl];exact h)
def sort_Search (n:Int) (f:Value):Prog :=
.lt (.int .i64) (n) fun (n0:Int) =>
.bind 1 [.one (.int .i64)] (
.loop 2 [.one (.int .i64),.one (.int .i64)] (0,(n0,())) (u2 fun (n1 n2:Int) =>
.ite (decide (n1<n2)) (
.lt (.int .i64) (IntKind.wrap .i64 (Int.fdiv (IntKind.wrap .u64 (IntKind.wrap .i64 (n1+n2))) 2)) fun (n3:Int) =>
.callv (f) [.int .i64 n3] sB (u1 fun b4 =>
.bind 3 [.one (.int .i64),.one (.int .i64)] (
.ite (not b4) (
.lt (.int .i64) (IntKind.wrap .i64 (n3+1)) fun (n5:Int) =>
.done 3 [.int .i64 n5,.int .i64 n2]) (
.lt (.int .i64) (n3) fun (n6:Int) =>
.done 3 [.int .i64 n1,.int .i64 n6])) (u2 fun (n7 n8:Int) =>
.done 2 [.int .i64 n7,.int .i64 n8]))) (
.done 1 [.int .i64 n1]))) (u1 fun (n9:Int) =>
.lt (.int .i64) (n9) fun (n10:Int) =>
.done 0 [.int .i64 n10])
theorem sort_Search_calls (n:Int) (f:Value) {w:World} {R:List Value→World→Prop} (h:(sort_Search n f).wp P (fun _=>True) w fun e vs w'=>e=0∧R vs w') :
  Calls P F.sort_Search #[.int .i64 n,f] w fun e w'=>∃ vs,e=.returned (pack vs)∧R vs w' :=
 decomp_sound (isFn_of Go.Proofs.Tryz.func65 (by kernel_rfl) (by kernel_rfl) (by kernel_rfl)) okFs_ok mix [.val (.int .i64 n),.any f] (by rw [show decomp P 26 ⟨okFs,[]⟩ { cnd:=[(120259477525,[(5,.one (.int .i64)),(6,.one (.int .i64))])],blk:=[(0,[(5,.one (.int .i64))])],reg:=[],lps:=[(0,[(5,.one (.int .i64)),(6,.one (.int .i64))])] } [.tmp 4] (bodyOf Go.Proofs.Tryz.f65) [.val (.int .i64 n),.any f]=sort_Search n f from by kernel_rfl];exact h)
def disk_Disk_Remove (d:Option Addr) (name:ByteArray):Prog :=
.call F.disk_Disk_may [.pointer d] (sI .i64) (u1 fun (n0:Int) =>
.lt (.int .i64) (n0) fun (n1:Int) =>
.ite (n1 != 0) (
.lt (.int .i64) (n1) fun (n2:Int) =>
.done 0 [.int .i64 n2]) (
.ex [.adr] (c1 fun a3=>d=some a3) (u1 fun a4 =>
.read True (ld T.m_string_p_disk_file (Addr.add a4 4)) sM (u1 fun m5 =>
.read True (Instr.lookup T.m_string_p_disk_file (.map m5) (.string name) false) sP (u1 fun p6 =>
.ite (Option.isNone p6) (
.done 0 [.int .i64 3]) (
.call F.disk_Disk_drop [.pointer d,.string name] (.tup []) (u0 <|
.ex [.adr] (c1 fun a7=>d=some a7) (u1 fun a8 =>
.call F.disk_power_spend [.pointer (some (Addr.add a8 0))] (.tup []) (u0 <|
.done 0 [.int .i64 0])))))))))
theorem disk_Disk_Remove_calls (d:Option Addr) (name:ByteArray) {w:World} {R:List Value→World→Prop} (h:(disk_Disk_Remove d name).wp P (fun _=>True) w fun e vs w'=>e=0∧R vs w') :
  Calls P F.disk_Disk_Remove #[.pointer d,.string name] w fun e w'=>∃ vs,e=.returned (pack vs)∧R vs w' :=
 decomp_sound (isFn_of Go.Proofs.Tryz.func74 (by kernel_rfl) (by kernel_rfl) (by kernel_rfl)) okFs_ok mix [.val (.pointer d),.val (.string name)] (by rw [show decomp P 25 ⟨okFs,[]⟩ { cnd:=[],blk:=[],reg:=[],lps:=[] } [.tmp 4] (bodyOf Go.Proofs.Tryz.f74) [.val (.pointer d),.val (.string name)]=disk_Disk_Remove d name from by kernel_rfl];exact h)
def towpathref06_Segment_size (s_0 s_1:Int) (s_2:Sl):Prog :=
.act (Instr.box T.towpathref06_Segment (.agg #[.int .i64 s_0,.int .i64 s_1,s_2.v])) sA (u1 fun a0 =>
.read True (ld T.int64 (Addr.add a0 0)) (sI .i64) (u1 fun (n1:Int) =>
.read True (ld T.int64 (Addr.add a0 1)) (sI .i64) (u1 fun (n2:Int) =>
.call F.towpathref06_Head [.int .i64 n1,.int .i64 n2] sL (u1 fun l3 =>
.lt (.int .i64) (((l3.len:Nat):Int)) fun (n4:Int) =>
.read True (ld T.s_api_Batch (Addr.add a0 2)) sL (u1 fun l5 =>
.bind 1 [.one (.int .i64)] (
.loop 2 [.one (.int .i64),.one (.int .i64)] (n4,(0,())) (u2 fun (n6 n7:Int) =>
.ite (decide (n7<((l5.len:Nat):Int))) (
.ex [.adr] (c1 fun a8=>0≤n7∧n7<((l5.len:Nat):Int)∧l5.a=some a8) (u1 fun a9 =>
.read True (ld T.api_Batch (Addr.add a9 (Int.toNat n7*7))) (sG [.int .i64,.int .i64,.int .i64,.int .i64,.int .i64,.int .i64,.slc]) (u7 fun (n10 n11 n12 n13 n14 n15:Int) l16 =>
.act (new T.api_Batch) sA (u1 fun a17 =>
.actU (st T.api_Batch a17 (.agg #[.int .i64 n10,.int .i64 n11,.int .i64 n12,.int .i64 n13,.int .i64 n14,.int .i64 n15,l16.v])) <|
.read True (ld T.api_Batch a17) (sG [.int .i64,.int .i64,.int .i64,.int .i64,.int .i64,.int .i64,.slc]) (u7 fun (n18 n19 n20 n21 n22 n23:Int) l24 =>
.call F.towpathref06_Size [.agg #[.int .i64 n18,.int .i64 n19,.int .i64 n20,.int .i64 n21,.int .i64 n22,.int .i64 n23,l24.v]] (sI .i64) (u1 fun (n25:Int) =>
.lt (.int .i64) (IntKind.wrap .i64 (n6+n25)) fun (n26:Int) =>
.done 2 [.int .i64 n26,.int .i64 (IntKind.wrap .i64 (n7+1))])))))) (
.done 1 [.int .i64 n6]))) (u1 fun (n27:Int) =>
.lt (.int .i64) (n27) fun (n28:Int) =>
.done 0 [.int .i64 n28]))))))
theorem towpathref06_Segment_size_calls (s_0 s_1:Int) (s_2:Sl) {w:World} {R:List Value→World→Prop} (h:(towpathref06_Segment_size s_0 s_1 s_2).wp P (fun _=>True) w fun e vs w'=>e=0∧R vs w') :
  Calls P F.towpathref06_Segment_size #[.agg #[.int .i64 s_0,.int .i64 s_1,.slice s_2.a s_2.len s_2.cap]] w fun e w'=>∃ vs,e=.returned (pack vs)∧R vs w' :=
 decomp_sound (isFn_of Go.Proofs.Tryz.func84 (by kernel_rfl) (by kernel_rfl) (by kernel_rfl)) okFs_ok mix [.val (.agg #[.int .i64 s_0,.int .i64 s_1,.slice s_2.a s_2.len s_2.cap])] (by rw [show decomp P 25 ⟨okFs,[]⟩ { cnd:=[],blk:=[(0,[(3,.one (.int .i64))])],reg:=[],lps:=[(0,[(3,.one (.int .i64)),(15,.one (.int .i64))])] } [.tmp 2] (bodyOf Go.Proofs.Tryz.f84) [.val (.agg #[.int .i64 s_0,.int .i64 s_1,.slice s_2.a s_2.len s_2.cap])]=towpathref06_Segment_size s_0 s_1 s_2 from by kernel_rfl];exact h)
def towpathref06_Log_First (l:Option Addr):Prog :=
.ex [.adr] (c1 fun a0=>l=some a0) (u1 fun a1 =>
.read True (ld T.s_towpathref06_Segment (Addr.add a1 2)) sL (u1 fun l2 =>
.ite (((l2.len:Nat):Int) == 0) (
.done 0 [.int .i64 0]) (
.ex [.adr] (c1 fun a3=>l=some a3) (u1 fun a4 =>
.read True (ld T.s_towpathref06_Segment (Addr.add a4 2)) sL (u1 fun l5 =>
.ex [.adr] (c1 fun a6=>(0:Int)≤0∧0<((l5.len:Nat):Int)∧l5.a=some a6) (u1 fun a7 =>
.read True (ld T.int64 (Addr.add (Addr.add a7 0) 0)) (sI .i64) (u1 fun (n8:Int) =>
.lt (.int .i64) (n8) fun (n9:Int) =>
.done 0 [.int .i64 n9])))))))
theorem towpathref06_Log_First_calls (l:Option Addr) {w:World} {R:List Value→World→Prop} (h:(towpathref06_Log_First l).wp P (fun _=>True) w fun e vs w'=>e=0∧R vs w') :
  Calls P F.towpathref06_Log_First #[.pointer l] w fun e w'=>∃ vs,e=.returned (pack vs)∧R vs w' :=
 decomp_sound (isFn_of Go.Proofs.Tryz.func85 (by kernel_rfl) (by kernel_rfl) (by kernel_rfl)) okFs_ok mix [.val (.pointer l)] (by rw [show decomp P 16 ⟨okFs,[]⟩ { cnd:=[],blk:=[],reg:=[],lps:=[] } [.tmp 2] (bodyOf Go.Proofs.Tryz.f85) [.val (.pointer l)]=towpathref06_Log_First l from by kernel_rfl];exact h)
def disk_Disk_may (d:Option Addr):Prog :=
.lt (.bool) (Option.isNone d) fun b0 =>
.ite (b0) (
.done 0 [.int .i64 1]) (
.ex [.adr] (c1 fun a1=>d=some a1) (u1 fun a2 =>
.read True (ld T.bool (Addr.add (Addr.add a2 0) 1)) sB (u1 fun b3 =>
.lt (.bool) (b3) fun b4 =>
.ite (b4) (
.done 0 [.int .i64 9]) (
.done 0 [.int .i64 0]))))
theorem disk_Disk_may_calls (d:Option Addr) {w:World} {R:List Value→World→Prop} (h:(disk_Disk_may d).wp P (fun _=>True) w fun e vs w'=>e=0∧R vs w') :
  Calls P F.disk_Disk_may #[.pointer d] w fun e w'=>∃ vs,e=.returned (pack vs)∧R vs w' :=
 decomp_sound (isFn_of Go.Proofs.Tryz.func89 (by kernel_rfl) (by kernel_rfl) (by kernel_rfl)) okFs_ok mix [.val (.pointer d)] (by rw [show decomp P 12 ⟨okFs,[]⟩ { cnd:=[],blk:=[],reg:=[],lps:=[] } [.tmp 2] (bodyOf Go.Proofs.Tryz.f89) [.val (.pointer d)]=disk_Disk_may d from by kernel_rfl];exact h)
def disk_Name (s:ByteArray):Prog :=
.ite (decide (((ByteArray.size s:Nat):Int)<1) || decide (((ByteArray.size s:Nat):Int)>24)) (
.done 0 [.bool false]) (
.act (convert T.string T.s_uint8 (.string s)) sL (u1 fun l0 =>
.bind 1 [] (
.loop 2 [.one (.int .i64)] (0,()) (u1 fun (n1:Int) =>
.ite (decide (n1<((l0.len:Nat):Int))) (
.ex [.adr] (c1 fun a2=>0≤n1∧n1<((l0.len:Nat):Int)∧l0.a=some a2) (u1 fun a3 =>
.read True (ld T.uint8 (Addr.add a3 (Int.toNat n1*1))) (sI .u8) (u1 fun (n4:Int) =>
.lt (.int .u8) (n4) fun (n5:Int) =>
.lt (.bool) (decide (n5≥97) && decide (n5≤122)) fun b6 =>
.lt (.bool) (decide (n5≥48) && decide (n5≤57)) fun b7 =>
.ite (not b6 && not b7 && n5 != 46 && n5 != 45) (
.done 0 [.bool false]) (
.done 2 [.int .i64 (IntKind.wrap .i64 (n1+1))])))) (
.done 1 []))) (u0 <|
.done 0 [.bool true])))
theorem disk_Name_calls (s:ByteArray) {w:World} {R:List Value→World→Prop} (h:(disk_Name s).wp P (fun _=>True) w fun e vs w'=>e=0∧R vs w') :
  Calls P F.disk_Name #[.string s] w fun e w'=>∃ vs,e=.returned (pack vs)∧R vs w' :=
 decomp_sound (isFn_of Go.Proofs.Tryz.func90 (by kernel_rfl) (by kernel_rfl) (by kernel_rfl)) okFs_ok mix [.val (.string s)] (by rw [show decomp P 49 ⟨okFs,[]⟩ { cnd:=[],blk:=[(0,[])],reg:=[],lps:=[(0,[(18,.one (.int .i64))])] } [.tmp 2] (bodyOf Go.Proofs.Tryz.f90) [.val (.string s)]=disk_Name s from by kernel_rfl];exact h)
def disk_Disk_Free (d:Option Addr):Prog :=
.ite (Option.isNone d) (
.done 0 [.int .i64 0]) (
.tick <|
.ex [.adr] (c1 fun a0=>d=some a0) (u1 fun a1 =>
.read True (ld T.int (Addr.add a1 2)) (sI .i64) (u1 fun (n2:Int) =>
.ex [.adr] (c1 fun a3=>d=some a3) (u1 fun a4 =>
.read True (ld T.int (Addr.add a4 3)) (sI .i64) (u1 fun (n5:Int) =>
.lt (.int .i64) (if 0>IntKind.wrap .i64 (n2-n5) then 0 else IntKind.wrap .i64 (n2-n5)) fun (n6:Int) =>
.untick <|
.done 0 [.int .i64 n6])))))
theorem disk_Disk_Free_calls (d:Option Addr) {w:World} {R:List Value→World→Prop} (h:(disk_Disk_Free d).wp P (fun _=>True) w fun e vs w'=>e=0∧R vs w') :
  Calls P F.disk_Disk_Free #[.pointer d] w fun e w'=>∃ vs,e=.returned (pack vs)∧R vs w' :=
 decomp_sound (isFn_of Go.Proofs.Tryz.func91 (by kernel_rfl) (by kernel_rfl) (by kernel_rfl)) okFs_ok mix [.val (.pointer d)] (by rw [show decomp P 15 ⟨okFs,[]⟩ { cnd:=[],blk:=[],reg:=[],lps:=[] } [.tmp 2] (bodyOf Go.Proofs.Tryz.f91) [.val (.pointer d)]=disk_Disk_Free d from by kernel_rfl];exact h)
def disk_power_spend (p:Option Addr):Prog :=
.ex [.adr] (c1 fun a0=>p=some a0) (u1 fun a1 =>
.read True (ld T.int (Addr.add a1 0)) (sI .i64) (u1 fun (n2:Int) =>
.bind 1 [] (
.ite (decide (n2>0)) (
.ex [.adr] (c1 fun a3=>p=some a3) (u1 fun a4 =>
.read True (ld T.int (Addr.add a4 0)) (sI .i64) (u1 fun (n5:Int) =>
.ex [.adr] (c1 fun a6=>p=some a6) (u1 fun a7 =>
.actU (st T.int (Addr.add a7 0) (.int .i64 (IntKind.wrap .i64 (n5-1)))) <|
.ex [.adr] (c1 fun a8=>p=some a8) (u1 fun a9 =>
.read True (ld T.int (Addr.add a9 0)) (sI .i64) (u1 fun (n10:Int) =>
.ex [.adr] (c1 fun a11=>p=some a11) (u1 fun a12 =>
.actU (st T.bool (Addr.add a12 1) (.bool (n10 == 0))) <|
.done 1 []))))))) (
.done 1 [])) (u0 <|
.done 0 [])))
theorem disk_power_spend_calls (p:Option Addr) {w:World} {R:List Value→World→Prop} (h:(disk_power_spend p).wp P (fun _=>True) w fun e vs w'=>e=0∧R vs w') :
  Calls P F.disk_power_spend #[.pointer p] w fun e w'=>∃ vs,e=.returned (pack vs)∧R vs w' :=
 decomp_sound (isFn_of Go.Proofs.Tryz.func92 (by kernel_rfl) (by kernel_rfl) (by kernel_rfl)) okFs_ok mix [.val (.pointer p)] (by rw [show decomp P 22 ⟨okFs,[]⟩ { cnd:=[(17179344902,[])],blk:=[],reg:=[],lps:=[] } [] (bodyOf Go.Proofs.Tryz.f92) [.val (.pointer p)]=disk_power_spend p from by kernel_rfl];exact h)
def maps_Keys_map_string_disk_file_string_disk_file (m:Option Nat):Prog :=
.act (Instr.box T.m_string_p_disk_file (.map m)) sA (u1 fun a0 =>
.done 0 [.func (Fn.func 143) #[] #[.pointer (some a0)]])
theorem maps_Keys_map_string_disk_file_string_disk_file_calls (m:Option Nat) {w:World} {R:List Value→World→Prop} (h:(maps_Keys_map_string_disk_file_string_disk_file m).wp P (fun _=>True) w fun e vs w'=>e=0∧R vs w') :
  Calls P F.maps_Keys_map_string_disk_file_string_disk_file #[.map m] w fun e w'=>∃ vs,e=.returned (pack vs)∧R vs w' :=
 decomp_sound (isFn_of Go.Proofs.Tryz.func97 (by kernel_rfl) (by kernel_rfl) (by kernel_rfl)) okFs_ok mix [.val (.map m)] (by rw [show decomp P 4 ⟨okFs,[]⟩ { cnd:=[],blk:=[],reg:=[],lps:=[] } [.tmp 2] (bodyOf Go.Proofs.Tryz.f97) [.val (.map m)]=maps_Keys_map_string_disk_file_string_disk_file m from by kernel_rfl];exact h)
def strings_HasPrefix (s:ByteArray) (prefix_:ByteArray):Prog :=
.call F.internal_stringslite_HasPrefix [.string s,.string prefix_] sB (u1 fun b0 =>
.lt (.bool) (b0) fun b1 =>
.done 0 [.bool b1])
theorem strings_HasPrefix_calls (s prefix_:ByteArray) {w:World} {R:List Value→World→Prop} (h:(strings_HasPrefix s prefix_).wp P (fun _=>True) w fun e vs w'=>e=0∧R vs w') :
  Calls P F.strings_HasPrefix #[.string s,.string prefix_] w fun e w'=>∃ vs,e=.returned (pack vs)∧R vs w' :=
 decomp_sound (isFn_of Go.Proofs.Tryz.func98 (by kernel_rfl) (by kernel_rfl) (by kernel_rfl)) okFs_ok mix [.val (.string s),.val (.string prefix_)] (by rw [show decomp P 8 ⟨okFs,[]⟩ { cnd:=[],blk:=[],reg:=[],lps:=[] } [.tmp 4] (bodyOf Go.Proofs.Tryz.f98) [.val (.string s),.val (.string prefix_)]=strings_HasPrefix s prefix_ from by kernel_rfl];exact h)
def slices_Sort_s_string_string (x:Sl):Prog :=
.lt (.int .i64) (((x.len:Nat):Int)) fun (n0:Int) =>
.call F.math_bits_Len [.int .u64 (IntKind.wrap .u64 n0)] (sI .i64) (u1 fun (n1:Int) =>
.call F.slices_pdqsortOrdered_string [x.v,.int .i64 0,.int .i64 n0,.int .i64 n1] (.tup []) (u0 <|
.done 0 []))
theorem slices_Sort_s_string_string_calls (x:Sl) {w:World} {R:List Value→World→Prop} (h:(slices_Sort_s_string_string x).wp P (fun _=>True) w fun e vs w'=>e=0∧R vs w') :
  Calls P F.slices_Sort_s_string_string #[.slice x.a x.len x.cap] w fun e w'=>∃ vs,e=.returned (pack vs)∧R vs w' :=
 decomp_sound (isFn_of Go.Proofs.Tryz.func99 (by kernel_rfl) (by kernel_rfl) (by kernel_rfl)) okFs_ok mix [.val (.slice x.a x.len x.cap)] (by rw [show decomp P 11 ⟨okFs,[]⟩ { cnd:=[],blk:=[],reg:=[],lps:=[] } [] (bodyOf Go.Proofs.Tryz.f99) [.val (.slice x.a x.len x.cap)]=slices_Sort_s_string_string x from by kernel_rfl];exact h)
def towpathref06_Segment_reach (s_0 s_1:Int) (s_2:Sl):Prog :=
.act (Instr.box T.towpathref06_Segment (.agg #[.int .i64 s_0,.int .i64 s_1,s_2.v])) sA (u1 fun a0 =>
.read True (ld T.int64 (Addr.add a0 0)) (sI .i64) (u1 fun (n1:Int) =>
.lt (.int .i64) (n1) fun (n2:Int) =>
.read True (ld T.int64 (Addr.add a0 1)) (sI .i64) (u1 fun (n3:Int) =>
.bind 1 [.one (.int .i64)] (
.ite (decide (n3>n2)) (
.read True (ld T.int64 (Addr.add a0 1)) (sI .i64) (u1 fun (n4:Int) =>
.lt (.int .i64) (n4) fun (n5:Int) =>
.done 1 [.int .i64 n5])) (
.done 1 [.int .i64 n2])) (u1 fun (n6:Int) =>
.read True (ld T.s_api_Batch (Addr.add a0 2)) sL (u1 fun l7 =>
.bind 1 [.one (.int .i64)] (
.ite (decide (((l7.len:Nat):Int)>0)) (
.read True (ld T.s_api_Batch (Addr.add a0 2)) sL (u1 fun l8 =>
.read True (ld T.s_api_Batch (Addr.add a0 2)) sL (u1 fun l9 =>
.ex [.adr] (c1 fun a10=>0≤IntKind.wrap .i64 (((l9.len:Nat):Int)-1)∧IntKind.wrap .i64 (((l9.len:Nat):Int)-1)<((l8.len:Nat):Int)∧l8.a=some a10) (u1 fun a11 =>
.read True (ld T.api_Batch (Addr.add a11 (Int.toNat (IntKind.wrap .i64 (((l9.len:Nat):Int)-1))*7))) (sG [.int .i64,.int .i64,.int .i64,.int .i64,.int .i64,.int .i64,.slc]) (u7 fun (n12 n13 n14 n15 n16 n17:Int) l18 =>
.act (new T.api_Batch) sA (u1 fun a19 =>
.actU (st T.api_Batch a19 (.agg #[.int .i64 n12,.int .i64 n13,.int .i64 n14,.int .i64 n15,.int .i64 n16,.int .i64 n17,l18.v])) <|
.tick <|
.hold True (ld T.int64 (Addr.add a19 0)) (sI .i64) (u1 fun (n20:Int) =>
.read True (ld T.api_Batch a19) (sG [.int .i64,.int .i64,.int .i64,.int .i64,.int .i64,.int .i64,.slc]) (u7 fun (n21 n22 n23 n24 n25 n26:Int) l27 =>
.call F.towpathref03_Span [.agg #[.int .i64 n21,.int .i64 n22,.int .i64 n23,.int .i64 n24,.int .i64 n25,.int .i64 n26,l27.v]] (sI .i64) (u1 fun (n28:Int) =>
.untick <|
.bind 2 [.one (.int .i64)] (
.ite (decide (IntKind.wrap .i64 (n20+n28)>n6)) (
.tick <|
.hold True (ld T.int64 (Addr.add a19 0)) (sI .i64) (u1 fun (n29:Int) =>
.read True (ld T.api_Batch a19) (sG [.int .i64,.int .i64,.int .i64,.int .i64,.int .i64,.int .i64,.slc]) (u7 fun (n30 n31 n32 n33 n34 n35:Int) l36 =>
.call F.towpathref03_Span [.agg #[.int .i64 n30,.int .i64 n31,.int .i64 n32,.int .i64 n33,.int .i64 n34,.int .i64 n35,l36.v]] (sI .i64) (u1 fun (n37:Int) =>
.lt (.int .i64) (IntKind.wrap .i64 (n29+n37)) fun (n38:Int) =>
.untick <|
.done 2 [.int .i64 n38])))) (
.done 2 [.int .i64 n6])) (u1 fun (n39:Int) =>
.done 1 [.int .i64 n39])))))))))) (
.done 1 [.int .i64 n6])) (u1 fun (n40:Int) =>
.lt (.int .i64) (n40) fun (n41:Int) =>
.done 0 [.int .i64 n41]))))))
theorem towpathref06_Segment_reach_calls (s_0 s_1:Int) (s_2:Sl) {w:World} {R:List Value→World→Prop} (h:(towpathref06_Segment_reach s_0 s_1 s_2).wp P (fun _=>True) w fun e vs w'=>e=0∧R vs w') :
  Calls P F.towpathref06_Segment_reach #[.agg #[.int .i64 s_0,.int .i64 s_1,.slice s_2.a s_2.len s_2.cap]] w fun e w'=>∃ vs,e=.returned (pack vs)∧R vs w' :=
 decomp_sound (isFn_of Go.Proofs.Tryz.func102 (by kernel_rfl) (by kernel_rfl) (by kernel_rfl)) okFs_ok mix [.val (.agg #[.int .i64 s_0,.int .i64 s_1,.slice s_2.a s_2.len s_2.cap])] (by rw [show decomp P 38 ⟨okFs,[]⟩ { cnd:=[(25198602,[(3,.one (.int .i64))]),(545357767409695,[(3,.one (.int .i64))]),(562949416648720,[(3,.one (.int .i64))])],blk:=[],reg:=[],lps:=[] } [.tmp 2] (bodyOf Go.Proofs.Tryz.f102) [.val (.agg #[.int .i64 s_0,.int .i64 s_1,.slice s_2.a s_2.len s_2.cap])]=towpathref06_Segment_reach s_0 s_1 s_2 from by kernel_rfl];exact h)
def disk_Disk_Sync (d:Option Addr) (names:Sl):Prog :=
.call F.disk_Disk_may [.pointer d] (sI .i64) (u1 fun (n0:Int) =>
.lt (.int .i64) (n0) fun (n1:Int) =>
.ite (n1 != 0) (
.lt (.int .i64) (n1) fun (n2:Int) =>
.done 0 [.int .i64 n2]) (
.bind 1 [] (
.loop 2 [.one (.int .i64)] (0,()) (u1 fun (n3:Int) =>
.ite (decide (n3<((names.len:Nat):Int))) (
.ex [.adr] (c1 fun a4=>0≤n3∧n3<((names.len:Nat):Int)∧names.a=some a4) (u1 fun a5 =>
.read True (ld T.string (Addr.add a5 (Int.toNat n3*1))) sS (u1 fun s6 =>
.lt (.str) (s6) fun s7 =>
.ex [.adr] (c1 fun a8=>d=some a8) (u1 fun a9 =>
.read True (ld T.m_string_p_disk_file (Addr.add a9 4)) sM (u1 fun m10 =>
.read True (Instr.lookup T.m_string_p_disk_file (.map m10) (.string s7) false) sP (u1 fun p11 =>
.ite (Option.isNone p11) (
.done 0 [.int .i64 3]) (
.done 2 [.int .i64 (IntKind.wrap .i64 (n3+1))]))))))) (
.done 1 []))) (u0 <|
.bind 1 [.one .slc] (
.ite (((names.len:Nat):Int) == 0) (
.call F.disk_Disk_Names [.pointer d,.string (ByteArray.mk #[])] sL (u1 fun l12 =>
.done 1 [l12.v])) (
.done 1 [names.v])) (u1 fun l13 =>
.bind 1 [] (
.loop 2 [.one (.int .i64)] (0,()) (u1 fun (n14:Int) =>
.ite (decide (n14<((l13.len:Nat):Int))) (
.ex [.adr] (c1 fun a15=>0≤n14∧n14<((l13.len:Nat):Int)∧l13.a=some a15) (u1 fun a16 =>
.read True (ld T.string (Addr.add a16 (Int.toNat n14*1))) sS (u1 fun s17 =>
.lt (.str) (s17) fun s18 =>
.ex [.adr] (c1 fun a19=>d=some a19) (u1 fun a20 =>
.read True (ld T.m_string_p_disk_file (Addr.add a20 4)) sM (u1 fun m21 =>
.read True (Instr.lookup T.m_string_p_disk_file (.map m21) (.string s18) false) sP (u1 fun p22 =>
.ex [.adr] (c1 fun a23=>p22=some a23) (u1 fun a24 =>
.read True (ld T.s_uint8 (Addr.add a24 0)) sL (u1 fun l25 =>
.ex [.adr] (c1 fun a26=>p22=some a26) (u1 fun a27 =>
.actU (st T.int (Addr.add a27 1) (.int .i64 (((l25.len:Nat):Int)))) <|
.done 2 [.int .i64 (IntKind.wrap .i64 (n14+1))]))))))))) (
.done 1 []))) (u0 <|
.ex [.adr] (c1 fun a28=>d=some a28) (u1 fun a29 =>
.call F.disk_power_spend [.pointer (some (Addr.add a29 0))] (.tup []) (u0 <|
.done 0 [.int .i64 0])))))))
theorem disk_Disk_Sync_calls (d:Option Addr) (names:Sl) {w:World} {R:List Value→World→Prop} (h:(disk_Disk_Sync d names).wp P (fun _=>True) w fun e vs w'=>e=0∧R vs w') :
  Calls P F.disk_Disk_Sync #[.pointer d,.slice names.a names.len names.cap] w fun e w'=>∃ vs,e=.returned (pack vs)∧R vs w' :=
 decomp_sound (isFn_of Go.Proofs.Tryz.func103 (by kernel_rfl) (by kernel_rfl) (by kernel_rfl)) okFs_ok mix [.val (.pointer d),.val (.slice names.a names.len names.cap)] (by rw [show decomp P 60 ⟨okFs,[]⟩ { cnd:=[(105553116274720,[(1,.one .slc)])],blk:=[(0,[]),(2,[])],reg:=[],lps:=[(0,[(18,.one (.int .i64))]),(2,[(37,.one (.int .i64))])] } [.tmp 4] (bodyOf Go.Proofs.Tryz.f103) [.val (.pointer d),.val (.slice names.a names.len names.cap)]=disk_Disk_Sync d names from by kernel_rfl];exact h)
def disk_Disk_drop (d:Option Addr) (name:ByteArray):Prog :=
.ex [.adr] (c1 fun a0=>d=some a0) (u1 fun a1 =>
.read True (ld T.m_string_p_disk_file (Addr.add a1 4)) sM (u1 fun m2 =>
.read True (Instr.lookup T.m_string_p_disk_file (.map m2) (.string name) false) sP (u1 fun p3 =>
.bind 1 [] (
.ite (not (Option.isNone p3)) (
.tick <|
.ex [.adr] (c1 fun a4=>d=some a4) (u1 fun a5 =>
.read True (ld T.int (Addr.add a5 3)) (sI .i64) (u1 fun (n6:Int) =>
.ex [.adr] (c1 fun a7=>p3=some a7) (u1 fun a8 =>
.read True (ld T.s_uint8 (Addr.add a8 0)) sL (u1 fun l9 =>
.ex [.adr] (c1 fun a10=>d=some a10) (u1 fun a11 =>
.actU (st T.int (Addr.add a11 3) (.int .i64 (IntKind.wrap .i64 (n6-((l9.len:Nat):Int))))) <|
.untick <|
.ex [.adr] (c1 fun a12=>d=some a12) (u1 fun a13 =>
.read True (ld T.m_string_p_disk_file (Addr.add a13 4)) sM (u1 fun m14 =>
.act (Builtin.delete_ #[T.m_string_p_disk_file,T.string] T.unit #[.map m14,.string name]) (.tup []) (u0 <|
.done 1 []))))))))) (
.done 1 [])) (u0 <|
.done 0 []))))
theorem disk_Disk_drop_calls (d:Option Addr) (name:ByteArray) {w:World} {R:List Value→World→Prop} (h:(disk_Disk_drop d name).wp P (fun _=>True) w fun e vs w'=>e=0∧R vs w') :
  Calls P F.disk_Disk_drop #[.pointer d,.string name] w fun e w'=>∃ vs,e=.returned (pack vs)∧R vs w' :=
 decomp_sound (isFn_of Go.Proofs.Tryz.func124 (by kernel_rfl) (by kernel_rfl) (by kernel_rfl)) okFs_ok mix [.val (.pointer d),.val (.string name)] (by rw [show decomp P 30 ⟨okFs,[]⟩ { cnd:=[(4398012956684,[])],blk:=[],reg:=[],lps:=[] } [] (bodyOf Go.Proofs.Tryz.f124) [.val (.pointer d),.val (.string name)]=disk_Disk_drop d name from by kernel_rfl];exact h)
def disk_Disk_Cut (d:Option Addr) (name:ByteArray) (n:Int):Prog :=
.call F.disk_Disk_may [.pointer d] (sI .i64) (u1 fun (n0:Int) =>
.lt (.int .i64) (n0) fun (n1:Int) =>
.ite (n1 != 0) (
.lt (.int .i64) (n1) fun (n2:Int) =>
.done 0 [.int .i64 n2]) (
.ex [.adr] (c1 fun a3=>d=some a3) (u1 fun a4 =>
.read True (ld T.m_string_p_disk_file (Addr.add a4 4)) sM (u1 fun m5 =>
.read True (Instr.lookup T.m_string_p_disk_file (.map m5) (.string name) false) sP (u1 fun p6 =>
.lt (.bool) (Option.isNone p6) fun b7 =>
.ite (b7) (
.done 0 [.int .i64 3]) (
.ex [.adr] (c1 fun a8=>decide (n<0)=false→p6=some a8) (u1 fun a9 =>
.read (decide (n<0)=false) (ld T.s_uint8 (Addr.add a9 0)) sL (u1 fun l10 =>
.lt (.bool) (decide (n<0) || decide (n>((l10.len:Nat):Int))) fun b11 =>
.ite (b11) (
.done 0 [.int .i64 2]) (
.tick <|
.ex [.adr] (c1 fun a12=>d=some a12) (u1 fun a13 =>
.read True (ld T.int (Addr.add a13 3)) (sI .i64) (u1 fun (n14:Int) =>
.ex [.adr] (c1 fun a15=>p6=some a15) (u1 fun a16 =>
.read True (ld T.s_uint8 (Addr.add a16 0)) sL (u1 fun l17 =>
.ex [.adr] (c1 fun a18=>d=some a18) (u1 fun a19 =>
.actU (st T.int (Addr.add a19 3) (.int .i64 (IntKind.wrap .i64 (n14-IntKind.wrap .i64 (((l17.len:Nat):Int)-n))))) <|
.untick <|
.ex [.adr] (c1 fun a20=>p6=some a20) (u1 fun a21 =>
.read True (ld T.s_uint8 (Addr.add a21 0)) sL (u1 fun l22 =>
.must (0≤n∧n≤n∧n≤((l22.cap:Nat):Int)) <|
.ex [.adr] (c1 fun a23=>p6=some a23) (u1 fun a24 =>
.actU (st T.s_uint8 (Addr.add a24 0) (.slice l22.a (Int.toNat n) (Int.toNat n))) <|
.ex [.adr] (c1 fun a25=>p6=some a25) (u1 fun a26 =>
.read True (ld T.int (Addr.add a26 1)) (sI .i64) (u1 fun (n27:Int) =>
.ex [.adr] (c1 fun a28=>p6=some a28) (u1 fun a29 =>
.actU (st T.int (Addr.add a29 1) (.int .i64 (if n<n27 then n else n27))) <|
.ex [.adr] (c1 fun a30=>d=some a30) (u1 fun a31 =>
.call F.disk_power_spend [.pointer (some (Addr.add a31 0))] (.tup []) (u0 <|
.done 0 [.int .i64 0]))))))))))))))))))))))
theorem disk_Disk_Cut_calls (d:Option Addr) (name:ByteArray) (n:Int) {w:World} {R:List Value→World→Prop} (h:(disk_Disk_Cut d name n).wp P (fun _=>True) w fun e vs w'=>e=0∧R vs w') :
  Calls P F.disk_Disk_Cut #[.pointer d,.string name,.int .i64 n] w fun e w'=>∃ vs,e=.returned (pack vs)∧R vs w' :=
 decomp_sound (isFn_of Go.Proofs.Tryz.func126 (by kernel_rfl) (by kernel_rfl) (by kernel_rfl)) okFs_ok mix [.val (.pointer d),.val (.string name),.val (.int .i64 n)] (by rw [show decomp P 72 ⟨okFs,[]⟩ { cnd:=[],blk:=[],reg:=[],lps:=[] } [.tmp 6] (bodyOf Go.Proofs.Tryz.f126) [.val (.pointer d),.val (.string name),.val (.int .i64 n)]=disk_Disk_Cut d name n from by kernel_rfl];exact h)
def internal_stringslite_HasPrefix (s:ByteArray) (prefix_:ByteArray):Prog :=
.must (decide (((ByteArray.size s:Nat):Int)≥((ByteArray.size prefix_:Nat):Int))=true→0≤((ByteArray.size prefix_:Nat):Int)∧((ByteArray.size prefix_:Nat):Int)≤((ByteArray.size s:Nat):Int)) <|
.lt (.bool) (decide (((ByteArray.size s:Nat):Int)≥((ByteArray.size prefix_:Nat):Int)) && ByteArray.toList (ByteArray.extract s 0 (Int.toNat (((ByteArray.size prefix_:Nat):Int)))) == ByteArray.toList prefix_) fun b0 =>
.done 0 [.bool b0]
theorem internal_stringslite_HasPrefix_calls (s prefix_:ByteArray) {w:World} {R:List Value→World→Prop} (h:(internal_stringslite_HasPrefix s prefix_).wp P (fun _=>True) w fun e vs w'=>e=0∧R vs w') :
  Calls P F.internal_stringslite_HasPrefix #[.string s,.string prefix_] w fun e w'=>∃ vs,e=.returned (pack vs)∧R vs w' :=
 decomp_sound (isFn_of Go.Proofs.Tryz.func144 (by kernel_rfl) (by kernel_rfl) (by kernel_rfl)) okFs_ok mix [.val (.string s),.val (.string prefix_)] (by rw [show decomp P 18 ⟨okFs,[]⟩ { cnd:=[],blk:=[],reg:=[],lps:=[] } [.tmp 4] (bodyOf Go.Proofs.Tryz.f144) [.val (.string s),.val (.string prefix_)]=internal_stringslite_HasPrefix s prefix_ from by kernel_rfl];exact h)
def slices_pdqsortOrdered_string (data:Sl) (a b:Int) (limit:Int):Prog :=
.loop 1 [.one (.int .i64),.one (.int .i64),.one (.int .i64),.one .bool,.one .bool] (a,(b,(limit,(true,(true,()))))) (u5 fun (n0 n1 n2:Int) b3 b4 =>
.bind 2 [.one (.int .i64),.one (.int .i64),.one (.int .i64),.one .bool,.one .bool] (
.lt (.int .i64) (IntKind.wrap .i64 (n1-n0)) fun (n5:Int) =>
.ite (decide (n5≤12)) (
.call F.slices_insertionSortOrdered_string [data.v,.int .i64 n0,.int .i64 n1] (.tup []) (u0 <|
.done 0 [])) (
.ite (n2 == 0) (
.call F.slices_heapSortOrdered_string [data.v,.int .i64 n0,.int .i64 n1] (.tup []) (u0 <|
.done 0 [])) (
.bind 3 [.one (.int .i64)] (
.ite (not b3) (
.call F.slices_breakPatternsOrdered_string [data.v,.int .i64 n0,.int .i64 n1] (.tup []) (u0 <|
.lt (.int .i64) (IntKind.wrap .i64 (n2-1)) fun (n6:Int) =>
.done 3 [.int .i64 n6])) (
.done 3 [.int .i64 n2])) (u1 fun (n7:Int) =>
.call F.slices_choosePivotOrdered_string [data.v,.int .i64 n0,.int .i64 n1] (.tup [.one (.int .i64),.one (.int .i64)]) (u2 fun (n8 n9:Int) =>
.lt (.int .i64) (n8) fun (n10:Int) =>
.lt (.int .i64) (n9) fun (n11:Int) =>
.bind 3 [.one (.int .i64),.one (.int .i64)] (
.ite (n11 == 2) (
.call F.slices_reverseRangeOrdered_string [data.v,.int .i64 n0,.int .i64 n1] (.tup []) (u0 <|
.lt (.int .i64) (IntKind.wrap .i64 (IntKind.wrap .i64 (n1-1)-IntKind.wrap .i64 (n10-n0))) fun (n12:Int) =>
.done 3 [.int .i64 n12,.int .i64 1])) (
.done 3 [.int .i64 n10,.int .i64 n11])) (u2 fun (n13 n14:Int) =>
.bind 3 [] (
.ite (b3 && b4 && n14 == 1) (
.call F.slices_partialInsertionSortOrdered_string [data.v,.int .i64 n0,.int .i64 n1] sB (u1 fun b15 =>
.ite (b15) (
.done 0 []) (
.done 3 []))) (
.done 3 [])) (u0 <|
.bind 3 [.one .bool] (
.tick <|
.ex [.adr] (c1 fun a16=>decide (n0>0)=true→0≤IntKind.wrap .i64 (n0-1)∧IntKind.wrap .i64 (n0-1)<((data.len:Nat):Int)∧data.a=some a16) (u1 fun a17 =>
.read (decide (n0>0)=true) (ld T.string (Addr.add a17 (Int.toNat (IntKind.wrap .i64 (n0-1))*1))) sS (u1 fun s18 =>
.ex [.adr] (c1 fun a19=>decide (n0>0)=true→0≤n13∧n13<((data.len:Nat):Int)∧data.a=some a19) (u1 fun a20 =>
.read (decide (n0>0)=true) (ld T.string (Addr.add a20 (Int.toNat n13*1))) sS (u1 fun s21 =>
.ite (decide (n0>0)) (
.call F.cmp_Less_string [.string s18,.string s21] sB (u1 fun b22 =>
.untick <|
.done 3 [.bool (not b22)])) (
.untick <|
.done 3 [.bool false])))))) (u1 fun b23 =>
.ite (b23) (
.call F.slices_partitionEqualOrdered_string [data.v,.int .i64 n0,.int .i64 n1,.int .i64 n13] (sI .i64) (u1 fun (n24:Int) =>
.lt (.int .i64) (n24) fun (n25:Int) =>
.lt (.int .i64) (n25) fun (n26:Int) =>
.done 2 [.int .i64 n26,.int .i64 n1,.int .i64 n7,.bool b3,.bool b4])) (
.call F.slices_partitionOrdered_string [data.v,.int .i64 n0,.int .i64 n1,.int .i64 n13] (.tup [.one (.int .i64),.one .bool]) (u2 fun (n27:Int) b28 =>
.lt (.int .i64) (n27) fun (n29:Int) =>
.lt (.bool) (b28) fun b30 =>
.lt (.bool) (b30) fun b31 =>
.lt (.int .i64) (IntKind.wrap .i64 (n29-n0)) fun (n32:Int) =>
.lt (.int .i64) (IntKind.wrap .i64 (n1-n29)) fun (n33:Int) =>
.lt (.int .i64) (IntKind.wrap .i64 (Int.tdiv n5 8)) fun (n34:Int) =>
.bind 3 [.one (.int .i64),.one (.int .i64),.one .bool] (
.ite (decide (n32<n33)) (
.lt (.bool) (decide (n32≥n34)) fun b35 =>
.call F.slices_pdqsortOrdered_string [data.v,.int .i64 n0,.int .i64 n29,.int .i64 n7] (.tup []) (u0 <|
.lt (.int .i64) (IntKind.wrap .i64 (n29+1)) fun (n36:Int) =>
.done 3 [.int .i64 n36,.int .i64 n1,.bool b35])) (
.lt (.bool) (decide (n33≥n34)) fun b37 =>
.call F.slices_pdqsortOrdered_string [data.v,.int .i64 (IntKind.wrap .i64 (n29+1)),.int .i64 n1,.int .i64 n7] (.tup []) (u0 <|
.lt (.int .i64) (n29) fun (n38:Int) =>
.done 3 [.int .i64 n0,.int .i64 n38,.bool b37]))) (u3 fun (n39 n40:Int) b41 =>
.done 2 [.int .i64 n39,.int .i64 n40,.int .i64 n7,.bool b41,.bool b31]))))))))))) (u5 fun (n42 n43 n44:Int) b45 b46 =>
.done 1 [.int .i64 n42,.int .i64 n43,.int .i64 n44,.bool b45,.bool b46]))
theorem slices_pdqsortOrdered_string_calls (data:Sl) (a b limit:Int) {w:World} {R:List Value→World→Prop} (h:(slices_pdqsortOrdered_string data a b limit).wp P (fun _=>True) w fun e vs w'=>e=0∧R vs w') :
  Calls P F.slices_pdqsortOrdered_string #[.slice data.a data.len data.cap,.int .i64 a,.int .i64 b,.int .i64 limit] w fun e w'=>∃ vs,e=.returned (pack vs)∧R vs w' :=
 decomp_sound (isFn_of Go.Proofs.Tryz.func145 (by kernel_rfl) (by kernel_rfl) (by kernel_rfl)) okFs_ok mix [.val (.slice data.a data.len data.cap),.val (.int .i64 a),.val (.int .i64 b),.val (.int .i64 limit)] (by rw [show decomp P 134 ⟨okFs,[]⟩ { cnd:=[(17732923532804131,[(3,.one (.int .i64))]),(9435509593702460817458,[(11,.one (.int .i64)),(12,.one (.int .i64))]),(36267774588438875241185348,[]),(89202895723530762331527007246941588082942065,[(1,.one (.int .i64)),(2,.one (.int .i64)),(8,.one .bool)])],blk:=[(1,[(1,.one (.int .i64)),(2,.one (.int .i64)),(3,.one (.int .i64)),(8,.one .bool),(9,.one .bool)])],reg:=[(17,[(87,.one .bool)])],lps:=[(0,[(1,.one (.int .i64)),(2,.one (.int .i64)),(3,.one (.int .i64)),(8,.one .bool),(9,.one .bool)])] } [] (bodyOf Go.Proofs.Tryz.f145) [.val (.slice data.a data.len data.cap),.val (.int .i64 a),.val (.int .i64 b),.val (.int .i64 limit)]=slices_pdqsortOrdered_string data a b limit from by kernel_rfl];exact h)
def math_bits_Len (x:Int):Prog :=
.call F.math_bits_Len64 [.int .u64 x] (sI .i64) (u1 fun (n0:Int) =>
.lt (.int .i64) (n0) fun (n1:Int) =>
.done 0 [.int .i64 n1])
theorem math_bits_Len_calls (x:Int) {w:World} {R:List Value→World→Prop} (h:(math_bits_Len x).wp P (fun _=>True) w fun e vs w'=>e=0∧R vs w') :
  Calls P F.math_bits_Len #[.int .u64 x] w fun e w'=>∃ vs,e=.returned (pack vs)∧R vs w' :=
 decomp_sound (isFn_of Go.Proofs.Tryz.func146 (by kernel_rfl) (by kernel_rfl) (by kernel_rfl)) okFs_ok mix [.val (.int .u64 x)] (by rw [show decomp P 8 ⟨okFs,[]⟩ { cnd:=[],blk:=[],reg:=[],lps:=[] } [.tmp 2] (bodyOf Go.Proofs.Tryz.f146) [.val (.int .u64 x)]=math_bits_Len x from by kernel_rfl];exact h)
def slices_insertionSortOrdered_string (data:Sl) (a:Int) (b:Int):Prog :=
.lt (.int .i64) (IntKind.wrap .i64 (a+1)) fun (n0:Int) =>
.bind 1 [] (
.loop 2 [.one (.int .i64)] (n0,()) (u1 fun (n1:Int) =>
.ite (decide (n1<b)) (
.bind 3 [] (
.lt (.int .i64) (n1) fun (n2:Int) =>
.bind 4 [] (
.loop 5 [.one (.int .i64)] (n2,()) (u1 fun (n3:Int) =>
.bind 6 [.one .bool] (
.tick <|
.ex [.adr] (c1 fun a4=>decide (n3>a)=true→0≤n3∧n3<((data.len:Nat):Int)∧data.a=some a4) (u1 fun a5 =>
.read (decide (n3>a)=true) (ld T.string (Addr.add a5 (Int.toNat n3*1))) sS (u1 fun s6 =>
.ex [.adr] (c1 fun a7=>decide (n3>a)=true→0≤IntKind.wrap .i64 (n3-1)∧IntKind.wrap .i64 (n3-1)<((data.len:Nat):Int)∧data.a=some a7) (u1 fun a8 =>
.read (decide (n3>a)=true) (ld T.string (Addr.add a8 (Int.toNat (IntKind.wrap .i64 (n3-1))*1))) sS (u1 fun s9 =>
.ite (decide (n3>a)) (
.call F.cmp_Less_string [.string s6,.string s9] sB (u1 fun b10 =>
.untick <|
.done 6 [.bool b10])) (
.untick <|
.done 6 [.bool false])))))) (u1 fun b11 =>
.ite (b11) (
.bind 6 [] (
.tick <|
.ex [.adr] (c1 fun a12=>0≤IntKind.wrap .i64 (n3-1)∧IntKind.wrap .i64 (n3-1)<((data.len:Nat):Int)∧data.a=some a12) (u1 fun a13 =>
.read True (ld T.string (Addr.add a13 (Int.toNat (IntKind.wrap .i64 (n3-1))*1))) sS (u1 fun s14 =>
.ex [.adr] (c1 fun a15=>0≤n3∧n3<((data.len:Nat):Int)∧data.a=some a15) (u1 fun a16 =>
.read True (ld T.string (Addr.add a16 (Int.toNat n3*1))) sS (u1 fun s17 =>
.ex [.adr] (c1 fun a18=>0≤n3∧n3<((data.len:Nat):Int)∧data.a=some a18) (u1 fun a19 =>
.actU (st T.string (Addr.add a19 (Int.toNat n3*1)) (.string s14)) <|
.ex [.adr] (c1 fun a20=>0≤IntKind.wrap .i64 (n3-1)∧IntKind.wrap .i64 (n3-1)<((data.len:Nat):Int)∧data.a=some a20) (u1 fun a21 =>
.actU (st T.string (Addr.add a21 (Int.toNat (IntKind.wrap .i64 (n3-1))*1)) (.string s17)) <|
.untick <|
.done 6 []))))))) (u0 <|
.lt (.int .i64) (IntKind.wrap .i64 (n3-1)) fun (n22:Int) =>
.done 5 [.int .i64 n22])) (
.done 4 [])))) (u0 <|
.done 3 [])) (u0 <|
.lt (.int .i64) (IntKind.wrap .i64 (n1+1)) fun (n23:Int) =>
.done 2 [.int .i64 n23])) (
.done 1 []))) (u0 <|
.done 0 [])
theorem slices_insertionSortOrdered_string_calls (data:Sl) (a b:Int) {w:World} {R:List Value→World→Prop} (h:(slices_insertionSortOrdered_string data a b).wp P (fun _=>True) w fun e vs w'=>e=0∧R vs w') :
  Calls P F.slices_insertionSortOrdered_string #[.slice data.a data.len data.cap,.int .i64 a,.int .i64 b] w fun e w'=>∃ vs,e=.returned (pack vs)∧R vs w' :=
 decomp_sound (isFn_of Go.Proofs.Tryz.func177 (by kernel_rfl) (by kernel_rfl) (by kernel_rfl)) okFs_ok mix [.val (.slice data.a data.len data.cap),.val (.int .i64 a),.val (.int .i64 b)] (by rw [show decomp P 49 ⟨okFs,[]⟩ { cnd:=[],blk:=[(0,[]),(1,[]),(2,[])],reg:=[(4,[(30,.one .bool)]),(6,[])],lps:=[(0,[(6,.one (.int .i64))]),(2,[(7,.one (.int .i64))])] } [] (bodyOf Go.Proofs.Tryz.f177) [.val (.slice data.a data.len data.cap),.val (.int .i64 a),.val (.int .i64 b)]=slices_insertionSortOrdered_string data a b from by kernel_rfl];exact h)
def slices_heapSortOrdered_string (data:Sl) (a:Int) (b:Int):Prog :=
.lt (.int .i64) (a) fun (n0:Int) =>
.lt (.int .i64) (IntKind.wrap .i64 (b-a)) fun (n1:Int) =>
.lt (.int .i64) (IntKind.wrap .i64 (Int.tdiv (IntKind.wrap .i64 (n1-1)) 2)) fun (n2:Int) =>
.bind 1 [] (
.loop 2 [.one (.int .i64)] (n2,()) (u1 fun (n3:Int) =>
.ite (decide (n3≥0)) (
.call F.slices_siftDownOrdered_string [data.v,.int .i64 n3,.int .i64 n1,.int .i64 n0] (.tup []) (u0 <|
.lt (.int .i64) (IntKind.wrap .i64 (n3-1)) fun (n4:Int) =>
.done 2 [.int .i64 n4])) (
.done 1 []))) (u0 <|
.lt (.int .i64) (IntKind.wrap .i64 (n1-1)) fun (n5:Int) =>
.bind 1 [] (
.loop 2 [.one (.int .i64)] (n5,()) (u1 fun (n6:Int) =>
.ite (decide (n6≥0)) (
.bind 3 [] (
.tick <|
.ex [.adr] (c1 fun a7=>0≤IntKind.wrap .i64 (n0+n6)∧IntKind.wrap .i64 (n0+n6)<((data.len:Nat):Int)∧data.a=some a7) (u1 fun a8 =>
.read True (ld T.string (Addr.add a8 (Int.toNat (IntKind.wrap .i64 (n0+n6))*1))) sS (u1 fun s9 =>
.ex [.adr] (c1 fun a10=>0≤n0∧n0<((data.len:Nat):Int)∧data.a=some a10) (u1 fun a11 =>
.read True (ld T.string (Addr.add a11 (Int.toNat n0*1))) sS (u1 fun s12 =>
.ex [.adr] (c1 fun a13=>0≤n0∧n0<((data.len:Nat):Int)∧data.a=some a13) (u1 fun a14 =>
.actU (st T.string (Addr.add a14 (Int.toNat n0*1)) (.string s9)) <|
.ex [.adr] (c1 fun a15=>0≤IntKind.wrap .i64 (n0+n6)∧IntKind.wrap .i64 (n0+n6)<((data.len:Nat):Int)∧data.a=some a15) (u1 fun a16 =>
.actU (st T.string (Addr.add a16 (Int.toNat (IntKind.wrap .i64 (n0+n6))*1)) (.string s12)) <|
.untick <|
.done 3 []))))))) (u0 <|
.call F.slices_siftDownOrdered_string [data.v,.int .i64 0,.int .i64 n6,.int .i64 n0] (.tup []) (u0 <|
.lt (.int .i64) (IntKind.wrap .i64 (n6-1)) fun (n17:Int) =>
.done 2 [.int .i64 n17]))) (
.done 1 []))) (u0 <|
.done 0 []))
theorem slices_heapSortOrdered_string_calls (data:Sl) (a b:Int) {w:World} {R:List Value→World→Prop} (h:(slices_heapSortOrdered_string data a b).wp P (fun _=>True) w fun e vs w'=>e=0∧R vs w') :
  Calls P F.slices_heapSortOrdered_string #[.slice data.a data.len data.cap,.int .i64 a,.int .i64 b] w fun e w'=>∃ vs,e=.returned (pack vs)∧R vs w' :=
 decomp_sound (isFn_of Go.Proofs.Tryz.func178 (by kernel_rfl) (by kernel_rfl) (by kernel_rfl)) okFs_ok mix [.val (.slice data.a data.len data.cap),.val (.int .i64 a),.val (.int .i64 b)] (by rw [show decomp P 56 ⟨okFs,[]⟩ { cnd:=[],blk:=[(0,[]),(2,[])],reg:=[(10,[])],lps:=[(0,[(9,.one (.int .i64))]),(2,[(10,.one (.int .i64))])] } [] (bodyOf Go.Proofs.Tryz.f178) [.val (.slice data.a data.len data.cap),.val (.int .i64 a),.val (.int .i64 b)]=slices_heapSortOrdered_string data a b from by kernel_rfl];exact h)
def slices_breakPatternsOrdered_string (data:Sl) (a:Int) (b:Int):Prog :=
.lt (.int .i64) (IntKind.wrap .i64 (b-a)) fun (n0:Int) =>
.bind 1 [] (
.ite (decide (n0≥8)) (
.act (new T.slices_xorshift) sA (u1 fun a1 =>
.actU (st T.slices_xorshift a1 (.int .u64 (IntKind.wrap .u64 n0))) <|
.call F.slices_nextPowerOfTwo [.int .i64 n0] (sI .u64) (u1 fun (n2:Int) =>
.lt (.int .u64) (n2) fun (n3:Int) =>
.lt (.int .i64) (IntKind.wrap .i64 (IntKind.wrap .i64 (a+IntKind.wrap .i64 (IntKind.wrap .i64 (Int.tdiv n0 4)*2))-1)) fun (n4:Int) =>
.bind 2 [] (
.loop 3 [.one (.int .i64)] (n4,()) (u1 fun (n5:Int) =>
.ite (decide (n5≤IntKind.wrap .i64 (IntKind.wrap .i64 (a+IntKind.wrap .i64 (IntKind.wrap .i64 (Int.tdiv n0 4)*2))+1))) (
.call F.slices_xorshift_Next [.pointer (some a1)] (sI .u64) (u1 fun (n6:Int) =>
.lt (.int .i64) (IntKind.wrap .i64 (IntKind.wrap .u64 (((BitVec.toNat (BitVec.ofInt 64 n6 &&& BitVec.ofInt 64 (IntKind.wrap .u64 (n3-1))):Nat):Int)))) fun (n7:Int) =>
.bind 4 [.one (.int .i64)] (
.ite (decide (n7≥n0)) (
.lt (.int .i64) (IntKind.wrap .i64 (n7-n0)) fun (n8:Int) =>
.done 4 [.int .i64 n8]) (
.done 4 [.int .i64 n7])) (u1 fun (n9:Int) =>
.bind 4 [] (
.tick <|
.ex [.adr] (c1 fun a10=>0≤IntKind.wrap .i64 (a+n9)∧IntKind.wrap .i64 (a+n9)<((data.len:Nat):Int)∧data.a=some a10) (u1 fun a11 =>
.read True (ld T.string (Addr.add a11 (Int.toNat (IntKind.wrap .i64 (a+n9))*1))) sS (u1 fun s12 =>
.ex [.adr] (c1 fun a13=>0≤n5∧n5<((data.len:Nat):Int)∧data.a=some a13) (u1 fun a14 =>
.read True (ld T.string (Addr.add a14 (Int.toNat n5*1))) sS (u1 fun s15 =>
.ex [.adr] (c1 fun a16=>0≤n5∧n5<((data.len:Nat):Int)∧data.a=some a16) (u1 fun a17 =>
.actU (st T.string (Addr.add a17 (Int.toNat n5*1)) (.string s12)) <|
.ex [.adr] (c1 fun a18=>0≤IntKind.wrap .i64 (a+n9)∧IntKind.wrap .i64 (a+n9)<((data.len:Nat):Int)∧data.a=some a18) (u1 fun a19 =>
.actU (st T.string (Addr.add a19 (Int.toNat (IntKind.wrap .i64 (a+n9))*1)) (.string s15)) <|
.untick <|
.done 4 []))))))) (u0 <|
.lt (.int .i64) (IntKind.wrap .i64 (n5+1)) fun (n20:Int) =>
.done 3 [.int .i64 n20])))) (
.done 2 []))) (u0 <|
.done 1 [])))) (
.done 1 [])) (u0 <|
.done 0 [])
theorem slices_breakPatternsOrdered_string_calls (data:Sl) (a b:Int) {w:World} {R:List Value→World→Prop} (h:(slices_breakPatternsOrdered_string data a b).wp P (fun _=>True) w fun e vs w'=>e=0∧R vs w') :
  Calls P F.slices_breakPatternsOrdered_string #[.slice data.a data.len data.cap,.int .i64 a,.int .i64 b] w fun e w'=>∃ vs,e=.returned (pack vs)∧R vs w' :=
 decomp_sound (isFn_of Go.Proofs.Tryz.func179 (by kernel_rfl) (by kernel_rfl) (by kernel_rfl)) okFs_ok mix [.val (.slice data.a data.len data.cap),.val (.int .i64 a),.val (.int .i64 b)] (by rw [show decomp P 65 ⟨okFs,[]⟩ { cnd:=[(504403158269689899,[(10,.one (.int .i64))]),(151115727451828386267151,[])],blk:=[(0,[])],reg:=[(10,[])],lps:=[(0,[(9,.one (.int .i64))])] } [] (bodyOf Go.Proofs.Tryz.f179) [.val (.slice data.a data.len data.cap),.val (.int .i64 a),.val (.int .i64 b)]=slices_breakPatternsOrdered_string data a b from by kernel_rfl];exact h)
def slices_choosePivotOrdered_string (data:Sl) (a:Int) (b:Int):Prog :=
.lt (.int .i64) (IntKind.wrap .i64 (b-a)) fun (n0:Int) =>
.act (new T.int) sA (u1 fun a1 =>
.lt (.int .i64) (IntKind.wrap .i64 (a+IntKind.wrap .i64 (IntKind.wrap .i64 (Int.tdiv n0 4)*1))) fun (n2:Int) =>
.lt (.int .i64) (IntKind.wrap .i64 (a+IntKind.wrap .i64 (IntKind.wrap .i64 (Int.tdiv n0 4)*2))) fun (n3:Int) =>
.lt (.int .i64) (IntKind.wrap .i64 (a+IntKind.wrap .i64 (IntKind.wrap .i64 (Int.tdiv n0 4)*3))) fun (n4:Int) =>
.bind 1 [.one (.int .i64)] (
.ite (decide (n0≥8)) (
.bind 2 [.one (.int .i64),.one (.int .i64),.one (.int .i64)] (
.ite (decide (n0≥50)) (
.call F.slices_medianAdjacentOrdered_string [data.v,.int .i64 n2,.pointer (some a1)] (sI .i64) (u1 fun (n5:Int) =>
.lt (.int .i64) (n5) fun (n6:Int) =>
.call F.slices_medianAdjacentOrdered_string [data.v,.int .i64 n3,.pointer (some a1)] (sI .i64) (u1 fun (n7:Int) =>
.lt (.int .i64) (n7) fun (n8:Int) =>
.call F.slices_medianAdjacentOrdered_string [data.v,.int .i64 n4,.pointer (some a1)] (sI .i64) (u1 fun (n9:Int) =>
.lt (.int .i64) (n9) fun (n10:Int) =>
.done 2 [.int .i64 n6,.int .i64 n8,.int .i64 n10])))) (
.done 2 [.int .i64 n2,.int .i64 n3,.int .i64 n4])) (u3 fun (n11 n12 n13:Int) =>
.call F.slices_medianOrdered_string [data.v,.int .i64 n11,.int .i64 n12,.int .i64 n13,.pointer (some a1)] (sI .i64) (u1 fun (n14:Int) =>
.lt (.int .i64) (n14) fun (n15:Int) =>
.done 1 [.int .i64 n15]))) (
.done 1 [.int .i64 n3])) (u1 fun (n16:Int) =>
.read True (ld T.int a1) (sI .i64) (u1 fun (n17:Int) =>
.lt (.bool) (n17 == 0) fun b18 =>
.ite (b18) (
.lt (.int .i64) (n16) fun (n19:Int) =>
.done 0 [.int .i64 n19,.int .i64 1]) (
.lt (.bool) (n17 == 12) fun b20 =>
.ite (b20) (
.lt (.int .i64) (n16) fun (n21:Int) =>
.done 0 [.int .i64 n21,.int .i64 2]) (
.lt (.int .i64) (n16) fun (n22:Int) =>
.done 0 [.int .i64 n22,.int .i64 0])))))
theorem slices_choosePivotOrdered_string_calls (data:Sl) (a b:Int) {w:World} {R:List Value→World→Prop} (h:(slices_choosePivotOrdered_string data a b).wp P (fun _=>True) w fun e vs w'=>e=0∧R vs w') :
  Calls P F.slices_choosePivotOrdered_string #[.slice data.a data.len data.cap,.int .i64 a,.int .i64 b] w fun e w'=>∃ vs,e=.returned (pack vs)∧R vs w' :=
 decomp_sound (isFn_of Go.Proofs.Tryz.func180 (by kernel_rfl) (by kernel_rfl) (by kernel_rfl)) okFs_ok mix [.val (.slice data.a data.len data.cap),.val (.int .i64 a),.val (.int .i64 b)] (by rw [show decomp P 57 ⟨okFs,[]⟩ { cnd:=[(71916856578932770,[(10,.one (.int .i64)),(11,.one (.int .i64)),(12,.one (.int .i64))]),(2305807824870965280,[(11,.one (.int .i64))])],blk:=[],reg:=[],lps:=[] } [.tmp 6,.tmp 7] (bodyOf Go.Proofs.Tryz.f180) [.val (.slice data.a data.len data.cap),.val (.int .i64 a),.val (.int .i64 b)]=slices_choosePivotOrdered_string data a b from by kernel_rfl];exact h)
def slices_reverseRangeOrdered_string (data:Sl) (a:Int) (b:Int):Prog :=
.lt (.int .i64) (a) fun (n0:Int) =>
.lt (.int .i64) (IntKind.wrap .i64 (b-1)) fun (n1:Int) =>
.bind 1 [] (
.loop 2 [.one (.int .i64),.one (.int .i64)] (n0,(n1,())) (u2 fun (n2 n3:Int) =>
.ite (decide (n2<n3)) (
.bind 3 [] (
.tick <|
.ex [.adr] (c1 fun a4=>0≤n3∧n3<((data.len:Nat):Int)∧data.a=some a4) (u1 fun a5 =>
.read True (ld T.string (Addr.add a5 (Int.toNat n3*1))) sS (u1 fun s6 =>
.ex [.adr] (c1 fun a7=>0≤n2∧n2<((data.len:Nat):Int)∧data.a=some a7) (u1 fun a8 =>
.read True (ld T.string (Addr.add a8 (Int.toNat n2*1))) sS (u1 fun s9 =>
.ex [.adr] (c1 fun a10=>0≤n2∧n2<((data.len:Nat):Int)∧data.a=some a10) (u1 fun a11 =>
.actU (st T.string (Addr.add a11 (Int.toNat n2*1)) (.string s6)) <|
.ex [.adr] (c1 fun a12=>0≤n3∧n3<((data.len:Nat):Int)∧data.a=some a12) (u1 fun a13 =>
.actU (st T.string (Addr.add a13 (Int.toNat n3*1)) (.string s9)) <|
.untick <|
.done 3 []))))))) (u0 <|
.lt (.int .i64) (IntKind.wrap .i64 (n2+1)) fun (n14:Int) =>
.lt (.int .i64) (IntKind.wrap .i64 (n3-1)) fun (n15:Int) =>
.done 2 [.int .i64 n14,.int .i64 n15])) (
.done 1 []))) (u0 <|
.done 0 [])
theorem slices_reverseRangeOrdered_string_calls (data:Sl) (a b:Int) {w:World} {R:List Value→World→Prop} (h:(slices_reverseRangeOrdered_string data a b).wp P (fun _=>True) w fun e vs w'=>e=0∧R vs w') :
  Calls P F.slices_reverseRangeOrdered_string #[.slice data.a data.len data.cap,.int .i64 a,.int .i64 b] w fun e w'=>∃ vs,e=.returned (pack vs)∧R vs w' :=
 decomp_sound (isFn_of Go.Proofs.Tryz.func181 (by kernel_rfl) (by kernel_rfl) (by kernel_rfl)) okFs_ok mix [.val (.slice data.a data.len data.cap),.val (.int .i64 a),.val (.int .i64 b)] (by rw [show decomp P 32 ⟨okFs,[]⟩ { cnd:=[],blk:=[(0,[])],reg:=[(3,[])],lps:=[(0,[(6,.one (.int .i64)),(7,.one (.int .i64))])] } [] (bodyOf Go.Proofs.Tryz.f181) [.val (.slice data.a data.len data.cap),.val (.int .i64 a),.val (.int .i64 b)]=slices_reverseRangeOrdered_string data a b from by kernel_rfl];exact h)
def slices_partialInsertionSortOrdered_string (data:Sl) (a:Int) (b:Int):Prog :=
.lt (.int .i64) (IntKind.wrap .i64 (a+1)) fun (n0:Int) =>
.bind 1 [] (
.loop 2 [.one (.int .i64),.one (.int .i64)] (n0,(0,())) (u2 fun (n1 n2:Int) =>
.ite (decide (n2<5)) (
.bind 3 [.one (.int .i64)] (
.bind 4 [.one (.int .i64)] (
.loop 5 [.one (.int .i64)] (n1,()) (u1 fun (n3:Int) =>
.bind 6 [.one .bool] (
.tick <|
.ex [.adr] (c1 fun a4=>decide (n3<b)=true→0≤n3∧n3<((data.len:Nat):Int)∧data.a=some a4) (u1 fun a5 =>
.read (decide (n3<b)=true) (ld T.string (Addr.add a5 (Int.toNat n3*1))) sS (u1 fun s6 =>
.ex [.adr] (c1 fun a7=>decide (n3<b)=true→0≤IntKind.wrap .i64 (n3-1)∧IntKind.wrap .i64 (n3-1)<((data.len:Nat):Int)∧data.a=some a7) (u1 fun a8 =>
.read (decide (n3<b)=true) (ld T.string (Addr.add a8 (Int.toNat (IntKind.wrap .i64 (n3-1))*1))) sS (u1 fun s9 =>
.ite (decide (n3<b)) (
.call F.cmp_Less_string [.string s6,.string s9] sB (u1 fun b10 =>
.untick <|
.done 6 [.bool (not b10)])) (
.untick <|
.done 6 [.bool false])))))) (u1 fun b11 =>
.ite (b11) (
.lt (.int .i64) (IntKind.wrap .i64 (n3+1)) fun (n12:Int) =>
.done 5 [.int .i64 n12]) (
.done 4 [.int .i64 n3])))) (u1 fun (n13:Int) =>
.ite (n13 == b) (
.done 0 [.bool true]) (
.ite (decide (IntKind.wrap .i64 (b-a)<50)) (
.done 0 [.bool false]) (
.bind 4 [] (
.tick <|
.ex [.adr] (c1 fun a14=>0≤IntKind.wrap .i64 (n13-1)∧IntKind.wrap .i64 (n13-1)<((data.len:Nat):Int)∧data.a=some a14) (u1 fun a15 =>
.read True (ld T.string (Addr.add a15 (Int.toNat (IntKind.wrap .i64 (n13-1))*1))) sS (u1 fun s16 =>
.ex [.adr] (c1 fun a17=>0≤n13∧n13<((data.len:Nat):Int)∧data.a=some a17) (u1 fun a18 =>
.read True (ld T.string (Addr.add a18 (Int.toNat n13*1))) sS (u1 fun s19 =>
.ex [.adr] (c1 fun a20=>0≤n13∧n13<((data.len:Nat):Int)∧data.a=some a20) (u1 fun a21 =>
.actU (st T.string (Addr.add a21 (Int.toNat n13*1)) (.string s16)) <|
.ex [.adr] (c1 fun a22=>0≤IntKind.wrap .i64 (n13-1)∧IntKind.wrap .i64 (n13-1)<((data.len:Nat):Int)∧data.a=some a22) (u1 fun a23 =>
.actU (st T.string (Addr.add a23 (Int.toNat (IntKind.wrap .i64 (n13-1))*1)) (.string s19)) <|
.untick <|
.done 4 []))))))) (u0 <|
.bind 4 [] (
.ite (decide (IntKind.wrap .i64 (n13-a)≥2)) (
.lt (.int .i64) (IntKind.wrap .i64 (n13-1)) fun (n24:Int) =>
.bind 5 [] (
.loop 6 [.one (.int .i64)] (n24,()) (u1 fun (n25:Int) =>
.ite (decide (n25≥1)) (
.tick <|
.ex [.adr] (c1 fun a26=>0≤n25∧n25<((data.len:Nat):Int)∧data.a=some a26) (u1 fun a27 =>
.read True (ld T.string (Addr.add a27 (Int.toNat n25*1))) sS (u1 fun s28 =>
.ex [.adr] (c1 fun a29=>0≤IntKind.wrap .i64 (n25-1)∧IntKind.wrap .i64 (n25-1)<((data.len:Nat):Int)∧data.a=some a29) (u1 fun a30 =>
.read True (ld T.string (Addr.add a30 (Int.toNat (IntKind.wrap .i64 (n25-1))*1))) sS (u1 fun s31 =>
.call F.cmp_Less_string [.string s28,.string s31] sB (u1 fun b32 =>
.untick <|
.ite (not b32) (
.done 5 []) (
.bind 7 [] (
.tick <|
.ex [.adr] (c1 fun a33=>0≤IntKind.wrap .i64 (n25-1)∧IntKind.wrap .i64 (n25-1)<((data.len:Nat):Int)∧data.a=some a33) (u1 fun a34 =>
.read True (ld T.string (Addr.add a34 (Int.toNat (IntKind.wrap .i64 (n25-1))*1))) sS (u1 fun s35 =>
.ex [.adr] (c1 fun a36=>0≤n25∧n25<((data.len:Nat):Int)∧data.a=some a36) (u1 fun a37 =>
.read True (ld T.string (Addr.add a37 (Int.toNat n25*1))) sS (u1 fun s38 =>
.ex [.adr] (c1 fun a39=>0≤n25∧n25<((data.len:Nat):Int)∧data.a=some a39) (u1 fun a40 =>
.actU (st T.string (Addr.add a40 (Int.toNat n25*1)) (.string s35)) <|
.ex [.adr] (c1 fun a41=>0≤IntKind.wrap .i64 (n25-1)∧IntKind.wrap .i64 (n25-1)<((data.len:Nat):Int)∧data.a=some a41) (u1 fun a42 =>
.actU (st T.string (Addr.add a42 (Int.toNat (IntKind.wrap .i64 (n25-1))*1)) (.string s38)) <|
.untick <|
.done 7 []))))))) (u0 <|
.lt (.int .i64) (IntKind.wrap .i64 (n25-1)) fun (n43:Int) =>
.done 6 [.int .i64 n43])))))))) (
.done 5 []))) (u0 <|
.done 4 [])) (
.done 4 [])) (u0 <|
.bind 4 [] (
.ite (decide (IntKind.wrap .i64 (b-n13)≥2)) (
.lt (.int .i64) (IntKind.wrap .i64 (n13+1)) fun (n44:Int) =>
.bind 5 [] (
.loop 6 [.one (.int .i64)] (n44,()) (u1 fun (n45:Int) =>
.ite (decide (n45<b)) (
.tick <|
.ex [.adr] (c1 fun a46=>0≤n45∧n45<((data.len:Nat):Int)∧data.a=some a46) (u1 fun a47 =>
.read True (ld T.string (Addr.add a47 (Int.toNat n45*1))) sS (u1 fun s48 =>
.ex [.adr] (c1 fun a49=>0≤IntKind.wrap .i64 (n45-1)∧IntKind.wrap .i64 (n45-1)<((data.len:Nat):Int)∧data.a=some a49) (u1 fun a50 =>
.read True (ld T.string (Addr.add a50 (Int.toNat (IntKind.wrap .i64 (n45-1))*1))) sS (u1 fun s51 =>
.call F.cmp_Less_string [.string s48,.string s51] sB (u1 fun b52 =>
.untick <|
.ite (not b52) (
.done 5 []) (
.bind 7 [] (
.tick <|
.ex [.adr] (c1 fun a53=>0≤IntKind.wrap .i64 (n45-1)∧IntKind.wrap .i64 (n45-1)<((data.len:Nat):Int)∧data.a=some a53) (u1 fun a54 =>
.read True (ld T.string (Addr.add a54 (Int.toNat (IntKind.wrap .i64 (n45-1))*1))) sS (u1 fun s55 =>
.ex [.adr] (c1 fun a56=>0≤n45∧n45<((data.len:Nat):Int)∧data.a=some a56) (u1 fun a57 =>
.read True (ld T.string (Addr.add a57 (Int.toNat n45*1))) sS (u1 fun s58 =>
.ex [.adr] (c1 fun a59=>0≤n45∧n45<((data.len:Nat):Int)∧data.a=some a59) (u1 fun a60 =>
.actU (st T.string (Addr.add a60 (Int.toNat n45*1)) (.string s55)) <|
.ex [.adr] (c1 fun a61=>0≤IntKind.wrap .i64 (n45-1)∧IntKind.wrap .i64 (n45-1)<((data.len:Nat):Int)∧data.a=some a61) (u1 fun a62 =>
.actU (st T.string (Addr.add a62 (Int.toNat (IntKind.wrap .i64 (n45-1))*1)) (.string s58)) <|
.untick <|
.done 7 []))))))) (u0 <|
.lt (.int .i64) (IntKind.wrap .i64 (n45+1)) fun (n63:Int) =>
.done 6 [.int .i64 n63])))))))) (
.done 5 []))) (u0 <|
.done 4 [])) (
.done 4 [])) (u0 <|
.done 3 [.int .i64 n13]))))))) (u1 fun (n64:Int) =>
.lt (.int .i64) (IntKind.wrap .i64 (n2+1)) fun (n65:Int) =>
.done 2 [.int .i64 n64,.int .i64 n65])) (
.done 1 []))) (u0 <|
.done 0 [.bool false])
theorem slices_partialInsertionSortOrdered_string_calls (data:Sl) (a b:Int) {w:World} {R:List Value→World→Prop} (h:(slices_partialInsertionSortOrdered_string data a b).wp P (fun _=>True) w fun e vs w'=>e=0∧R vs w') :
  Calls P F.slices_partialInsertionSortOrdered_string #[.slice data.a data.len data.cap,.int .i64 a,.int .i64 b] w fun e w'=>∃ vs,e=.returned (pack vs)∧R vs w' :=
 decomp_sound (isFn_of Go.Proofs.Tryz.func182 (by kernel_rfl) (by kernel_rfl) (by kernel_rfl)) okFs_ok mix [.val (.slice data.a data.len data.cap),.val (.int .i64 a),.val (.int .i64 b)] (by rw [show decomp P 133 ⟨okFs,[]⟩ { cnd:=[(162259276810323897460099431530557,[]),(44601490394465097853804022731031474851545186,[])],blk:=[(0,[]),(1,[(7,.one (.int .i64))]),(2,[(7,.one (.int .i64))]),(4,[]),(6,[])],reg:=[(5,[(32,.one .bool)]),(11,[]),(17,[]),(23,[])],lps:=[(0,[(7,.one (.int .i64)),(8,.one (.int .i64))]),(2,[(7,.one (.int .i64))]),(4,[(9,.one (.int .i64))]),(6,[(10,.one (.int .i64))])] } [.tmp 6] (bodyOf Go.Proofs.Tryz.f182) [.val (.slice data.a data.len data.cap),.val (.int .i64 a),.val (.int .i64 b)]=slices_partialInsertionSortOrdered_string data a b from by kernel_rfl];exact h)
def cmp_Less_string (x:ByteArray) (y:ByteArray):Prog :=
.bind 1 [.one .bool] (
.call F.cmp_isNaN_string [.string x] sB (u1 fun b0 =>
.ite (b0) (
.call F.cmp_isNaN_string [.string y] sB (u1 fun b1 =>
.lt (.bool) (not b1 || Op.bytesLess (ByteArray.toList x) (ByteArray.toList y)) fun b2 =>
.done 1 [.bool b2])) (
.lt (.bool) (Op.bytesLess (ByteArray.toList x) (ByteArray.toList y)) fun b3 =>
.done 1 [.bool b3]))) (u1 fun b4 =>
.done 0 [.bool b4])
theorem cmp_Less_string_calls (x y:ByteArray) {w:World} {R:List Value→World→Prop} (h:(cmp_Less_string x y).wp P (fun _=>True) w fun e vs w'=>e=0∧R vs w') :
  Calls P F.cmp_Less_string #[.string x,.string y] w fun e w'=>∃ vs,e=.returned (pack vs)∧R vs w' :=
 decomp_sound (isFn_of Go.Proofs.Tryz.func183 (by kernel_rfl) (by kernel_rfl) (by kernel_rfl)) okFs_ok mix [.val (.string x),.val (.string y)] (by rw [show decomp P 17 ⟨okFs,[]⟩ { cnd:=[],blk:=[],reg:=[(1,[(4,.one .bool)])],lps:=[] } [.tmp 4] (bodyOf Go.Proofs.Tryz.f183) [.val (.string x),.val (.string y)]=cmp_Less_string x y from by kernel_rfl];exact h)
def slices_partitionEqualOrdered_string (data:Sl) (a b:Int) (pivot:Int):Prog :=
.bind 1 [] (
.tick <|
.ex [.adr] (c1 fun a0=>0≤pivot∧pivot<((data.len:Nat):Int)∧data.a=some a0) (u1 fun a1 =>
.read True (ld T.string (Addr.add a1 (Int.toNat pivot*1))) sS (u1 fun s2 =>
.ex [.adr] (c1 fun a3=>0≤a∧a<((data.len:Nat):Int)∧data.a=some a3) (u1 fun a4 =>
.read True (ld T.string (Addr.add a4 (Int.toNat a*1))) sS (u1 fun s5 =>
.ex [.adr] (c1 fun a6=>0≤a∧a<((data.len:Nat):Int)∧data.a=some a6) (u1 fun a7 =>
.actU (st T.string (Addr.add a7 (Int.toNat a*1)) (.string s2)) <|
.ex [.adr] (c1 fun a8=>0≤pivot∧pivot<((data.len:Nat):Int)∧data.a=some a8) (u1 fun a9 =>
.actU (st T.string (Addr.add a9 (Int.toNat pivot*1)) (.string s5)) <|
.untick <|
.done 1 []))))))) (u0 <|
.lt (.int .i64) (IntKind.wrap .i64 (a+1)) fun (n10:Int) =>
.lt (.int .i64) (IntKind.wrap .i64 (b-1)) fun (n11:Int) =>
.bind 1 [.one (.int .i64)] (
.loop 2 [.one (.int .i64),.one (.int .i64)] (n10,(n11,())) (u2 fun (n12 n13:Int) =>
.bind 3 [.one (.int .i64),.one (.int .i64)] (
.bind 4 [.one (.int .i64)] (
.loop 5 [.one (.int .i64)] (n12,()) (u1 fun (n14:Int) =>
.bind 6 [.one .bool] (
.tick <|
.ex [.adr] (c1 fun a15=>decide (n14≤n13)=true→0≤a∧a<((data.len:Nat):Int)∧data.a=some a15) (u1 fun a16 =>
.read (decide (n14≤n13)=true) (ld T.string (Addr.add a16 (Int.toNat a*1))) sS (u1 fun s17 =>
.ex [.adr] (c1 fun a18=>decide (n14≤n13)=true→0≤n14∧n14<((data.len:Nat):Int)∧data.a=some a18) (u1 fun a19 =>
.read (decide (n14≤n13)=true) (ld T.string (Addr.add a19 (Int.toNat n14*1))) sS (u1 fun s20 =>
.ite (decide (n14≤n13)) (
.call F.cmp_Less_string [.string s17,.string s20] sB (u1 fun b21 =>
.untick <|
.done 6 [.bool (not b21)])) (
.untick <|
.done 6 [.bool false])))))) (u1 fun b22 =>
.ite (b22) (
.lt (.int .i64) (IntKind.wrap .i64 (n14+1)) fun (n23:Int) =>
.done 5 [.int .i64 n23]) (
.done 4 [.int .i64 n14])))) (u1 fun (n24:Int) =>
.bind 4 [.one (.int .i64)] (
.loop 5 [.one (.int .i64)] (n13,()) (u1 fun (n25:Int) =>
.bind 6 [.one .bool] (
.tick <|
.ex [.adr] (c1 fun a26=>decide (n24≤n25)=true→0≤a∧a<((data.len:Nat):Int)∧data.a=some a26) (u1 fun a27 =>
.read (decide (n24≤n25)=true) (ld T.string (Addr.add a27 (Int.toNat a*1))) sS (u1 fun s28 =>
.ex [.adr] (c1 fun a29=>decide (n24≤n25)=true→0≤n25∧n25<((data.len:Nat):Int)∧data.a=some a29) (u1 fun a30 =>
.read (decide (n24≤n25)=true) (ld T.string (Addr.add a30 (Int.toNat n25*1))) sS (u1 fun s31 =>
.ite (decide (n24≤n25)) (
.call F.cmp_Less_string [.string s28,.string s31] sB (u1 fun b32 =>
.untick <|
.done 6 [.bool b32])) (
.untick <|
.done 6 [.bool false])))))) (u1 fun b33 =>
.ite (b33) (
.lt (.int .i64) (IntKind.wrap .i64 (n25-1)) fun (n34:Int) =>
.done 5 [.int .i64 n34]) (
.done 4 [.int .i64 n25])))) (u1 fun (n35:Int) =>
.ite (decide (n24>n35)) (
.done 1 [.int .i64 n24]) (
.bind 4 [] (
.tick <|
.ex [.adr] (c1 fun a36=>0≤n35∧n35<((data.len:Nat):Int)∧data.a=some a36) (u1 fun a37 =>
.read True (ld T.string (Addr.add a37 (Int.toNat n35*1))) sS (u1 fun s38 =>
.ex [.adr] (c1 fun a39=>0≤n24∧n24<((data.len:Nat):Int)∧data.a=some a39) (u1 fun a40 =>
.read True (ld T.string (Addr.add a40 (Int.toNat n24*1))) sS (u1 fun s41 =>
.ex [.adr] (c1 fun a42=>0≤n24∧n24<((data.len:Nat):Int)∧data.a=some a42) (u1 fun a43 =>
.actU (st T.string (Addr.add a43 (Int.toNat n24*1)) (.string s38)) <|
.ex [.adr] (c1 fun a44=>0≤n35∧n35<((data.len:Nat):Int)∧data.a=some a44) (u1 fun a45 =>
.actU (st T.string (Addr.add a45 (Int.toNat n35*1)) (.string s41)) <|
.untick <|
.done 4 []))))))) (u0 <|
.lt (.int .i64) (IntKind.wrap .i64 (n24+1)) fun (n46:Int) =>
.lt (.int .i64) (IntKind.wrap .i64 (n35-1)) fun (n47:Int) =>
.done 3 [.int .i64 n46,.int .i64 n47]))))) (u2 fun (n48 n49:Int) =>
.done 2 [.int .i64 n48,.int .i64 n49]))) (u1 fun (n50:Int) =>
.lt (.int .i64) (n50) fun (n51:Int) =>
.done 0 [.int .i64 n51]))
theorem slices_partitionEqualOrdered_string_calls (data:Sl) (a b pivot:Int) {w:World} {R:List Value→World→Prop} (h:(slices_partitionEqualOrdered_string data a b pivot).wp P (fun _=>True) w fun e vs w'=>e=0∧R vs w') :
  Calls P F.slices_partitionEqualOrdered_string #[.slice data.a data.len data.cap,.int .i64 a,.int .i64 b,.int .i64 pivot] w fun e w'=>∃ vs,e=.returned (pack vs)∧R vs w' :=
 decomp_sound (isFn_of Go.Proofs.Tryz.func184 (by kernel_rfl) (by kernel_rfl) (by kernel_rfl)) okFs_ok mix [.val (.slice data.a data.len data.cap),.val (.int .i64 a),.val (.int .i64 b),.val (.int .i64 pivot)] (by rw [show decomp P 84 ⟨okFs,[]⟩ { cnd:=[],blk:=[(0,[(9,.one (.int .i64))]),(1,[(9,.one (.int .i64)),(10,.one (.int .i64))]),(2,[(9,.one (.int .i64))]),(4,[(10,.one (.int .i64))])],reg:=[(1,[]),(3,[(43,.one .bool)]),(5,[(59,.one .bool)]),(8,[])],lps:=[(0,[(9,.one (.int .i64)),(10,.one (.int .i64))]),(2,[(9,.one (.int .i64))]),(4,[(10,.one (.int .i64))])] } [.tmp 8] (bodyOf Go.Proofs.Tryz.f184) [.val (.slice data.a data.len data.cap),.val (.int .i64 a),.val (.int .i64 b),.val (.int .i64 pivot)]=slices_partitionEqualOrdered_string data a b pivot from by kernel_rfl];exact h)
def slices_partitionOrdered_string (data:Sl) (a b:Int) (pivot:Int):Prog :=
.bind 1 [] (
.tick <|
.ex [.adr] (c1 fun a0=>0≤pivot∧pivot<((data.len:Nat):Int)∧data.a=some a0) (u1 fun a1 =>
.read True (ld T.string (Addr.add a1 (Int.toNat pivot*1))) sS (u1 fun s2 =>
.ex [.adr] (c1 fun a3=>0≤a∧a<((data.len:Nat):Int)∧data.a=some a3) (u1 fun a4 =>
.read True (ld T.string (Addr.add a4 (Int.toNat a*1))) sS (u1 fun s5 =>
.ex [.adr] (c1 fun a6=>0≤a∧a<((data.len:Nat):Int)∧data.a=some a6) (u1 fun a7 =>
.actU (st T.string (Addr.add a7 (Int.toNat a*1)) (.string s2)) <|
.ex [.adr] (c1 fun a8=>0≤pivot∧pivot<((data.len:Nat):Int)∧data.a=some a8) (u1 fun a9 =>
.actU (st T.string (Addr.add a9 (Int.toNat pivot*1)) (.string s5)) <|
.untick <|
.done 1 []))))))) (u0 <|
.lt (.int .i64) (IntKind.wrap .i64 (a+1)) fun (n10:Int) =>
.lt (.int .i64) (IntKind.wrap .i64 (b-1)) fun (n11:Int) =>
.bind 1 [.one (.int .i64)] (
.loop 2 [.one (.int .i64)] (n10,()) (u1 fun (n12:Int) =>
.bind 3 [.one .bool] (
.tick <|
.ex [.adr] (c1 fun a13=>decide (n12≤n11)=true→0≤n12∧n12<((data.len:Nat):Int)∧data.a=some a13) (u1 fun a14 =>
.read (decide (n12≤n11)=true) (ld T.string (Addr.add a14 (Int.toNat n12*1))) sS (u1 fun s15 =>
.ex [.adr] (c1 fun a16=>decide (n12≤n11)=true→0≤a∧a<((data.len:Nat):Int)∧data.a=some a16) (u1 fun a17 =>
.read (decide (n12≤n11)=true) (ld T.string (Addr.add a17 (Int.toNat a*1))) sS (u1 fun s18 =>
.ite (decide (n12≤n11)) (
.call F.cmp_Less_string [.string s15,.string s18] sB (u1 fun b19 =>
.untick <|
.done 3 [.bool b19])) (
.untick <|
.done 3 [.bool false])))))) (u1 fun b20 =>
.ite (b20) (
.lt (.int .i64) (IntKind.wrap .i64 (n12+1)) fun (n21:Int) =>
.done 2 [.int .i64 n21]) (
.done 1 [.int .i64 n12])))) (u1 fun (n22:Int) =>
.bind 1 [.one (.int .i64)] (
.loop 2 [.one (.int .i64)] (n11,()) (u1 fun (n23:Int) =>
.bind 3 [.one .bool] (
.tick <|
.ex [.adr] (c1 fun a24=>decide (n22≤n23)=true→0≤n23∧n23<((data.len:Nat):Int)∧data.a=some a24) (u1 fun a25 =>
.read (decide (n22≤n23)=true) (ld T.string (Addr.add a25 (Int.toNat n23*1))) sS (u1 fun s26 =>
.ex [.adr] (c1 fun a27=>decide (n22≤n23)=true→0≤a∧a<((data.len:Nat):Int)∧data.a=some a27) (u1 fun a28 =>
.read (decide (n22≤n23)=true) (ld T.string (Addr.add a28 (Int.toNat a*1))) sS (u1 fun s29 =>
.ite (decide (n22≤n23)) (
.call F.cmp_Less_string [.string s26,.string s29] sB (u1 fun b30 =>
.untick <|
.done 3 [.bool (not b30)])) (
.untick <|
.done 3 [.bool false])))))) (u1 fun b31 =>
.ite (b31) (
.lt (.int .i64) (IntKind.wrap .i64 (n23-1)) fun (n32:Int) =>
.done 2 [.int .i64 n32]) (
.done 1 [.int .i64 n23])))) (u1 fun (n33:Int) =>
.ite (decide (n22>n33)) (
.bind 1 [] (
.tick <|
.ex [.adr] (c1 fun a34=>0≤a∧a<((data.len:Nat):Int)∧data.a=some a34) (u1 fun a35 =>
.read True (ld T.string (Addr.add a35 (Int.toNat a*1))) sS (u1 fun s36 =>
.ex [.adr] (c1 fun a37=>0≤n33∧n33<((data.len:Nat):Int)∧data.a=some a37) (u1 fun a38 =>
.read True (ld T.string (Addr.add a38 (Int.toNat n33*1))) sS (u1 fun s39 =>
.ex [.adr] (c1 fun a40=>0≤n33∧n33<((data.len:Nat):Int)∧data.a=some a40) (u1 fun a41 =>
.actU (st T.string (Addr.add a41 (Int.toNat n33*1)) (.string s36)) <|
.ex [.adr] (c1 fun a42=>0≤a∧a<((data.len:Nat):Int)∧data.a=some a42) (u1 fun a43 =>
.actU (st T.string (Addr.add a43 (Int.toNat a*1)) (.string s39)) <|
.untick <|
.done 1 []))))))) (u0 <|
.lt (.int .i64) (n33) fun (n44:Int) =>
.done 0 [.int .i64 n44,.bool true])) (
.bind 1 [] (
.tick <|
.ex [.adr] (c1 fun a45=>0≤n33∧n33<((data.len:Nat):Int)∧data.a=some a45) (u1 fun a46 =>
.read True (ld T.string (Addr.add a46 (Int.toNat n33*1))) sS (u1 fun s47 =>
.ex [.adr] (c1 fun a48=>0≤n22∧n22<((data.len:Nat):Int)∧data.a=some a48) (u1 fun a49 =>
.read True (ld T.string (Addr.add a49 (Int.toNat n22*1))) sS (u1 fun s50 =>
.ex [.adr] (c1 fun a51=>0≤n22∧n22<((data.len:Nat):Int)∧data.a=some a51) (u1 fun a52 =>
.actU (st T.string (Addr.add a52 (Int.toNat n22*1)) (.string s47)) <|
.ex [.adr] (c1 fun a53=>0≤n33∧n33<((data.len:Nat):Int)∧data.a=some a53) (u1 fun a54 =>
.actU (st T.string (Addr.add a54 (Int.toNat n33*1)) (.string s50)) <|
.untick <|
.done 1 []))))))) (u0 <|
.lt (.int .i64) (IntKind.wrap .i64 (n22+1)) fun (n55:Int) =>
.lt (.int .i64) (IntKind.wrap .i64 (n33-1)) fun (n56:Int) =>
.bind 1 [.one (.int .i64)] (
.loop 2 [.one (.int .i64),.one (.int .i64)] (n55,(n56,())) (u2 fun (n57 n58:Int) =>
.bind 3 [.one (.int .i64),.one (.int .i64)] (
.bind 4 [.one (.int .i64)] (
.loop 5 [.one (.int .i64)] (n57,()) (u1 fun (n59:Int) =>
.bind 6 [.one .bool] (
.tick <|
.ex [.adr] (c1 fun a60=>decide (n59≤n58)=true→0≤n59∧n59<((data.len:Nat):Int)∧data.a=some a60) (u1 fun a61 =>
.read (decide (n59≤n58)=true) (ld T.string (Addr.add a61 (Int.toNat n59*1))) sS (u1 fun s62 =>
.ex [.adr] (c1 fun a63=>decide (n59≤n58)=true→0≤a∧a<((data.len:Nat):Int)∧data.a=some a63) (u1 fun a64 =>
.read (decide (n59≤n58)=true) (ld T.string (Addr.add a64 (Int.toNat a*1))) sS (u1 fun s65 =>
.ite (decide (n59≤n58)) (
.call F.cmp_Less_string [.string s62,.string s65] sB (u1 fun b66 =>
.untick <|
.done 6 [.bool b66])) (
.untick <|
.done 6 [.bool false])))))) (u1 fun b67 =>
.ite (b67) (
.lt (.int .i64) (IntKind.wrap .i64 (n59+1)) fun (n68:Int) =>
.done 5 [.int .i64 n68]) (
.done 4 [.int .i64 n59])))) (u1 fun (n69:Int) =>
.bind 4 [.one (.int .i64)] (
.loop 5 [.one (.int .i64)] (n58,()) (u1 fun (n70:Int) =>
.bind 6 [.one .bool] (
.tick <|
.ex [.adr] (c1 fun a71=>decide (n69≤n70)=true→0≤n70∧n70<((data.len:Nat):Int)∧data.a=some a71) (u1 fun a72 =>
.read (decide (n69≤n70)=true) (ld T.string (Addr.add a72 (Int.toNat n70*1))) sS (u1 fun s73 =>
.ex [.adr] (c1 fun a74=>decide (n69≤n70)=true→0≤a∧a<((data.len:Nat):Int)∧data.a=some a74) (u1 fun a75 =>
.read (decide (n69≤n70)=true) (ld T.string (Addr.add a75 (Int.toNat a*1))) sS (u1 fun s76 =>
.ite (decide (n69≤n70)) (
.call F.cmp_Less_string [.string s73,.string s76] sB (u1 fun b77 =>
.untick <|
.done 6 [.bool (not b77)])) (
.untick <|
.done 6 [.bool false])))))) (u1 fun b78 =>
.ite (b78) (
.lt (.int .i64) (IntKind.wrap .i64 (n70-1)) fun (n79:Int) =>
.done 5 [.int .i64 n79]) (
.done 4 [.int .i64 n70])))) (u1 fun (n80:Int) =>
.ite (decide (n69>n80)) (
.done 1 [.int .i64 n80]) (
.bind 4 [] (
.tick <|
.ex [.adr] (c1 fun a81=>0≤n80∧n80<((data.len:Nat):Int)∧data.a=some a81) (u1 fun a82 =>
.read True (ld T.string (Addr.add a82 (Int.toNat n80*1))) sS (u1 fun s83 =>
.ex [.adr] (c1 fun a84=>0≤n69∧n69<((data.len:Nat):Int)∧data.a=some a84) (u1 fun a85 =>
.read True (ld T.string (Addr.add a85 (Int.toNat n69*1))) sS (u1 fun s86 =>
.ex [.adr] (c1 fun a87=>0≤n69∧n69<((data.len:Nat):Int)∧data.a=some a87) (u1 fun a88 =>
.actU (st T.string (Addr.add a88 (Int.toNat n69*1)) (.string s83)) <|
.ex [.adr] (c1 fun a89=>0≤n80∧n80<((data.len:Nat):Int)∧data.a=some a89) (u1 fun a90 =>
.actU (st T.string (Addr.add a90 (Int.toNat n80*1)) (.string s86)) <|
.untick <|
.done 4 []))))))) (u0 <|
.lt (.int .i64) (IntKind.wrap .i64 (n69+1)) fun (n91:Int) =>
.lt (.int .i64) (IntKind.wrap .i64 (n80-1)) fun (n92:Int) =>
.done 3 [.int .i64 n91,.int .i64 n92]))))) (u2 fun (n93 n94:Int) =>
.done 2 [.int .i64 n93,.int .i64 n94]))) (u1 fun (n95:Int) =>
.bind 1 [] (
.tick <|
.ex [.adr] (c1 fun a96=>0≤a∧a<((data.len:Nat):Int)∧data.a=some a96) (u1 fun a97 =>
.read True (ld T.string (Addr.add a97 (Int.toNat a*1))) sS (u1 fun s98 =>
.ex [.adr] (c1 fun a99=>0≤n95∧n95<((data.len:Nat):Int)∧data.a=some a99) (u1 fun a100 =>
.read True (ld T.string (Addr.add a100 (Int.toNat n95*1))) sS (u1 fun s101 =>
.ex [.adr] (c1 fun a102=>0≤n95∧n95<((data.len:Nat):Int)∧data.a=some a102) (u1 fun a103 =>
.actU (st T.string (Addr.add a103 (Int.toNat n95*1)) (.string s98)) <|
.ex [.adr] (c1 fun a104=>0≤a∧a<((data.len:Nat):Int)∧data.a=some a104) (u1 fun a105 =>
.actU (st T.string (Addr.add a105 (Int.toNat a*1)) (.string s101)) <|
.untick <|
.done 1 []))))))) (u0 <|
.lt (.int .i64) (n95) fun (n106:Int) =>
.done 0 [.int .i64 n106,.bool false])))))))
theorem slices_partitionOrdered_string_calls (data:Sl) (a b pivot:Int) {w:World} {R:List Value→World→Prop} (h:(slices_partitionOrdered_string data a b pivot).wp P (fun _=>True) w fun e vs w'=>e=0∧R vs w') :
  Calls P F.slices_partitionOrdered_string #[.slice data.a data.len data.cap,.int .i64 a,.int .i64 b,.int .i64 pivot] w fun e w'=>∃ vs,e=.returned (pack vs)∧R vs w' :=
 decomp_sound (isFn_of Go.Proofs.Tryz.func185 (by kernel_rfl) (by kernel_rfl) (by kernel_rfl)) okFs_ok mix [.val (.slice data.a data.len data.cap),.val (.int .i64 a),.val (.int .i64 b),.val (.int .i64 pivot)] (by rw [show decomp P 168 ⟨okFs,[]⟩ { cnd:=[],blk:=[(0,[(10,.one (.int .i64))]),(2,[(11,.one (.int .i64))]),(4,[(11,.one (.int .i64))]),(5,[(10,.one (.int .i64)),(11,.one (.int .i64))]),(6,[(10,.one (.int .i64))]),(8,[(11,.one (.int .i64))])],reg:=[(1,[]),(3,[(43,.one .bool)]),(5,[(60,.one .bool)]),(8,[]),(10,[]),(13,[(112,.one .bool)]),(15,[(129,.one .bool)]),(18,[]),(21,[])],lps:=[(0,[(10,.one (.int .i64))]),(2,[(11,.one (.int .i64))]),(4,[(10,.one (.int .i64)),(11,.one (.int .i64))]),(6,[(10,.one (.int .i64))]),(8,[(11,.one (.int .i64))])] } [.tmp 8,.tmp 9] (bodyOf Go.Proofs.Tryz.f185) [.val (.slice data.a data.len data.cap),.val (.int .i64 a),.val (.int .i64 b),.val (.int .i64 pivot)]=slices_partitionOrdered_string data a b pivot from by kernel_rfl];exact h)
def math_bits_Len64 (x:Int):Prog :=
.bind 1 [.one (.int .u64),.one (.int .i64)] (
.ite (decide (x≥4294967296)) (
.lt (.int .u64) (Int.fdiv x 4294967296) fun (n0:Int) =>
.done 1 [.int .u64 n0,.int .i64 32]) (
.done 1 [.int .u64 x,.int .i64 0])) (u2 fun (n1 n2:Int) =>
.bind 1 [.one (.int .u64),.one (.int .i64)] (
.ite (decide (n1≥65536)) (
.lt (.int .u64) (Int.fdiv n1 65536) fun (n3:Int) =>
.lt (.int .i64) (IntKind.wrap .i64 (n2+16)) fun (n4:Int) =>
.done 1 [.int .u64 n3,.int .i64 n4]) (
.done 1 [.int .u64 n1,.int .i64 n2])) (u2 fun (n5 n6:Int) =>
.bind 1 [.one (.int .u64),.one (.int .i64)] (
.ite (decide (n5≥256)) (
.lt (.int .u64) (Int.fdiv n5 256) fun (n7:Int) =>
.lt (.int .i64) (IntKind.wrap .i64 (n6+8)) fun (n8:Int) =>
.done 1 [.int .u64 n7,.int .i64 n8]) (
.done 1 [.int .u64 n5,.int .i64 n6])) (u2 fun (n9 n10:Int) =>
.must (0≤IntKind.wrap .u8 n9∧IntKind.wrap .u8 n9<256) <|
.lt (.int .i64) (IntKind.wrap .i64 (n10+IntKind.wrap .i64 (bt (ByteArray.mk #[0,1,2,2,3,3,3,3,4,4,4,4,4,4,4,4,5,5,5,5,5,5,5,5,5,5,5,5,5,5,5,5,6,6,6,6,6,6,6,6,6,6,6,6,6,6,6,6,6,6,6,6,6,6,6,6,6,6,6,6,6,6,6,6,7,7,7,7,7,7,7,7,7,7,7,7,7,7,7,7,7,7,7,7,7,7,7,7,7,7,7,7,7,7,7,7,7,7,7,7,7,7,7,7,7,7,7,7,7,7,7,7,7,7,7,7,7,7,7,7,7,7,7,7,7,7,7,7,8,8,8,8,8,8,8,8,8,8,8,8,8,8,8,8,8,8,8,8,8,8,8,8,8,8,8,8,8,8,8,8,8,8,8,8,8,8,8,8,8,8,8,8,8,8,8,8,8,8,8,8,8,8,8,8,8,8,8,8,8,8,8,8,8,8,8,8,8,8,8,8,8,8,8,8,8,8,8,8,8,8,8,8,8,8,8,8,8,8,8,8,8,8,8,8,8,8,8,8,8,8,8,8,8,8,8,8,8,8,8,8,8,8,8,8,8,8,8,8,8,8,8,8,8,8,8,8]) (IntKind.wrap .u8 n9)))) fun (n11:Int) =>
.done 0 [.int .i64 n11])))
theorem math_bits_Len64_calls (x:Int) {w:World} {R:List Value→World→Prop} (h:(math_bits_Len64 x).wp P (fun _=>True) w fun e vs w'=>e=0∧R vs w') :
  Calls P F.math_bits_Len64 #[.int .u64 x] w fun e w'=>∃ vs,e=.returned (pack vs)∧R vs w' :=
 decomp_sound (isFn_of Go.Proofs.Tryz.func187 (by kernel_rfl) (by kernel_rfl) (by kernel_rfl)) okFs_ok mix [.val (.int .u64 x)] (by rw [show decomp P 25 ⟨okFs,[]⟩ { cnd:=[(413700,[(0,.one (.int .u64)),(2,.one (.int .i64))]),(31477768,[(0,.one (.int .u64)),(2,.one (.int .i64))]),(2013286414,[(0,.one (.int .u64)),(2,.one (.int .i64))])],blk:=[],reg:=[],lps:=[] } [.tmp 2] (bodyOf Go.Proofs.Tryz.f187) [.val (.int .u64 x)]=math_bits_Len64 x from by kernel_rfl];exact h)
def slices_siftDownOrdered_string (data:Sl) (lo hi:Int) (first:Int):Prog :=
.lt (.int .i64) (lo) fun (n0:Int) =>
.bind 1 [] (
.loop 2 [.one (.int .i64)] (n0,()) (u1 fun (n1:Int) =>
.lt (.int .i64) (IntKind.wrap .i64 (IntKind.wrap .i64 (2*n1)+1)) fun (n2:Int) =>
.ite (decide (n2≥hi)) (
.done 1 []) (
.bind 3 [.one .bool] (
.tick <|
.ex [.adr] (c1 fun a3=>decide (IntKind.wrap .i64 (n2+1)<hi)=true→0≤IntKind.wrap .i64 (first+n2)∧IntKind.wrap .i64 (first+n2)<((data.len:Nat):Int)∧data.a=some a3) (u1 fun a4 =>
.read (decide (IntKind.wrap .i64 (n2+1)<hi)=true) (ld T.string (Addr.add a4 (Int.toNat (IntKind.wrap .i64 (first+n2))*1))) sS (u1 fun s5 =>
.ex [.adr] (c1 fun a6=>decide (IntKind.wrap .i64 (n2+1)<hi)=true→0≤IntKind.wrap .i64 (IntKind.wrap .i64 (first+n2)+1)∧IntKind.wrap .i64 (IntKind.wrap .i64 (first+n2)+1)<((data.len:Nat):Int)∧data.a=some a6) (u1 fun a7 =>
.read (decide (IntKind.wrap .i64 (n2+1)<hi)=true) (ld T.string (Addr.add a7 (Int.toNat (IntKind.wrap .i64 (IntKind.wrap .i64 (first+n2)+1))*1))) sS (u1 fun s8 =>
.ite (decide (IntKind.wrap .i64 (n2+1)<hi)) (
.call F.cmp_Less_string [.string s5,.string s8] sB (u1 fun b9 =>
.untick <|
.done 3 [.bool b9])) (
.untick <|
.done 3 [.bool false])))))) (u1 fun b10 =>
.bind 3 [.one (.int .i64)] (
.ite (b10) (
.lt (.int .i64) (IntKind.wrap .i64 (n2+1)) fun (n11:Int) =>
.done 3 [.int .i64 n11]) (
.done 3 [.int .i64 n2])) (u1 fun (n12:Int) =>
.tick <|
.ex [.adr] (c1 fun a13=>0≤IntKind.wrap .i64 (first+n1)∧IntKind.wrap .i64 (first+n1)<((data.len:Nat):Int)∧data.a=some a13) (u1 fun a14 =>
.read True (ld T.string (Addr.add a14 (Int.toNat (IntKind.wrap .i64 (first+n1))*1))) sS (u1 fun s15 =>
.ex [.adr] (c1 fun a16=>0≤IntKind.wrap .i64 (first+n12)∧IntKind.wrap .i64 (first+n12)<((data.len:Nat):Int)∧data.a=some a16) (u1 fun a17 =>
.read True (ld T.string (Addr.add a17 (Int.toNat (IntKind.wrap .i64 (first+n12))*1))) sS (u1 fun s18 =>
.call F.cmp_Less_string [.string s15,.string s18] sB (u1 fun b19 =>
.untick <|
.ite (not b19) (
.done 0 []) (
.bind 3 [] (
.tick <|
.ex [.adr] (c1 fun a20=>0≤IntKind.wrap .i64 (first+n12)∧IntKind.wrap .i64 (first+n12)<((data.len:Nat):Int)∧data.a=some a20) (u1 fun a21 =>
.read True (ld T.string (Addr.add a21 (Int.toNat (IntKind.wrap .i64 (first+n12))*1))) sS (u1 fun s22 =>
.ex [.adr] (c1 fun a23=>0≤IntKind.wrap .i64 (first+n1)∧IntKind.wrap .i64 (first+n1)<((data.len:Nat):Int)∧data.a=some a23) (u1 fun a24 =>
.read True (ld T.string (Addr.add a24 (Int.toNat (IntKind.wrap .i64 (first+n1))*1))) sS (u1 fun s25 =>
.ex [.adr] (c1 fun a26=>0≤IntKind.wrap .i64 (first+n1)∧IntKind.wrap .i64 (first+n1)<((data.len:Nat):Int)∧data.a=some a26) (u1 fun a27 =>
.actU (st T.string (Addr.add a27 (Int.toNat (IntKind.wrap .i64 (first+n1))*1)) (.string s22)) <|
.ex [.adr] (c1 fun a28=>0≤IntKind.wrap .i64 (first+n12)∧IntKind.wrap .i64 (first+n12)<((data.len:Nat):Int)∧data.a=some a28) (u1 fun a29 =>
.actU (st T.string (Addr.add a29 (Int.toNat (IntKind.wrap .i64 (first+n12))*1)) (.string s25)) <|
.untick <|
.done 3 []))))))) (u0 <|
.lt (.int .i64) (n12) fun (n30:Int) =>
.done 2 [.int .i64 n30])))))))))))) (u0 <|
.done 0 [])
theorem slices_siftDownOrdered_string_calls (data:Sl) (lo hi first:Int) {w:World} {R:List Value→World→Prop} (h:(slices_siftDownOrdered_string data lo hi first).wp P (fun _=>True) w fun e vs w'=>e=0∧R vs w') :
  Calls P F.slices_siftDownOrdered_string #[.slice data.a data.len data.cap,.int .i64 lo,.int .i64 hi,.int .i64 first] w fun e w'=>∃ vs,e=.returned (pack vs)∧R vs w' :=
 decomp_sound (isFn_of Go.Proofs.Tryz.func198 (by kernel_rfl) (by kernel_rfl) (by kernel_rfl)) okFs_ok mix [.val (.slice data.a data.len data.cap),.val (.int .i64 lo),.val (.int .i64 hi),.val (.int .i64 first)] (by rw [show decomp P 76 ⟨okFs,[]⟩ { cnd:=[(1688849862361124,[(9,.one (.int .i64))])],blk:=[(0,[])],reg:=[(3,[(36,.one .bool)]),(6,[])],lps:=[(0,[(8,.one (.int .i64))])] } [] (bodyOf Go.Proofs.Tryz.f198) [.val (.slice data.a data.len data.cap),.val (.int .i64 lo),.val (.int .i64 hi),.val (.int .i64 first)]=slices_siftDownOrdered_string data lo hi first from by kernel_rfl];exact h)
def slices_nextPowerOfTwo (length:Int):Prog :=
.call F.math_bits_Len [.int .u64 (IntKind.wrap .u64 length)] (sI .i64) (u1 fun (n0:Int) =>
.must (0≤n0) <|
.lt (.int .u64) (IntKind.wrap .u64 (1*2 ^ min (Int.toNat n0) 64)) fun (n1:Int) =>
.done 0 [.int .u64 n1])
theorem slices_nextPowerOfTwo_calls (length:Int) {w:World} {R:List Value→World→Prop} (h:(slices_nextPowerOfTwo length).wp P (fun _=>True) w fun e vs w'=>e=0∧R vs w') :
  Calls P F.slices_nextPowerOfTwo #[.int .i64 length] w fun e w'=>∃ vs,e=.returned (pack vs)∧R vs w' :=
 decomp_sound (isFn_of Go.Proofs.Tryz.func199 (by kernel_rfl) (by kernel_rfl) (by kernel_rfl)) okFs_ok mix [.val (.int .i64 length)] (by rw [show decomp P 7 ⟨okFs,[]⟩ { cnd:=[],blk:=[],reg:=[],lps:=[] } [.tmp 2] (bodyOf Go.Proofs.Tryz.f199) [.val (.int .i64 length)]=slices_nextPowerOfTwo length from by kernel_rfl];exact h)
def slices_xorshift_Next (r:Option Addr):Prog :=
.tick <|
.ex [.adr] (c1 fun a0=>r=some a0) (u1 fun a1 =>
.read True (ld T.slices_xorshift a1) (sI .u64) (u1 fun (n2:Int) =>
.ex [.adr] (c1 fun a3=>r=some a3) (u1 fun a4 =>
.read True (ld T.slices_xorshift a4) (sI .u64) (u1 fun (n5:Int) =>
.ex [.adr] (c1 fun a6=>r=some a6) (u1 fun a7 =>
.actU (st T.slices_xorshift a7 (.int .u64 (IntKind.wrap .u64 (((BitVec.toNat (BitVec.ofInt 64 n2 ^^^ BitVec.ofInt 64 (IntKind.wrap .u64 (n5*8192))):Nat):Int))))) <|
.untick <|
.tick <|
.ex [.adr] (c1 fun a8=>r=some a8) (u1 fun a9 =>
.read True (ld T.slices_xorshift a9) (sI .u64) (u1 fun (n10:Int) =>
.ex [.adr] (c1 fun a11=>r=some a11) (u1 fun a12 =>
.read True (ld T.slices_xorshift a12) (sI .u64) (u1 fun (n13:Int) =>
.ex [.adr] (c1 fun a14=>r=some a14) (u1 fun a15 =>
.actU (st T.slices_xorshift a15 (.int .u64 (IntKind.wrap .u64 (((BitVec.toNat (BitVec.ofInt 64 n10 ^^^ BitVec.ofInt 64 (Int.fdiv n13 128)):Nat):Int))))) <|
.untick <|
.tick <|
.ex [.adr] (c1 fun a16=>r=some a16) (u1 fun a17 =>
.read True (ld T.slices_xorshift a17) (sI .u64) (u1 fun (n18:Int) =>
.ex [.adr] (c1 fun a19=>r=some a19) (u1 fun a20 =>
.read True (ld T.slices_xorshift a20) (sI .u64) (u1 fun (n21:Int) =>
.ex [.adr] (c1 fun a22=>r=some a22) (u1 fun a23 =>
.actU (st T.slices_xorshift a23 (.int .u64 (IntKind.wrap .u64 (((BitVec.toNat (BitVec.ofInt 64 n18 ^^^ BitVec.ofInt 64 (IntKind.wrap .u64 (n21*131072))):Nat):Int))))) <|
.untick <|
.ex [.adr] (c1 fun a24=>r=some a24) (u1 fun a25 =>
.read True (ld T.slices_xorshift a25) (sI .u64) (u1 fun (n26:Int) =>
.lt (.int .u64) (n26) fun (n27:Int) =>
.done 0 [.int .u64 n27])))))))))))))))))
theorem slices_xorshift_Next_calls (r:Option Addr) {w:World} {R:List Value→World→Prop} (h:(slices_xorshift_Next r).wp P (fun _=>True) w fun e vs w'=>e=0∧R vs w') :
  Calls P F.slices_xorshift_Next #[.pointer r] w fun e w'=>∃ vs,e=.returned (pack vs)∧R vs w' :=
 decomp_sound (isFn_of Go.Proofs.Tryz.func200 (by kernel_rfl) (by kernel_rfl) (by kernel_rfl)) okFs_ok mix [.val (.pointer r)] (by rw [show decomp P 33 ⟨okFs,[]⟩ { cnd:=[],blk:=[],reg:=[],lps:=[] } [.tmp 2] (bodyOf Go.Proofs.Tryz.f200) [.val (.pointer r)]=slices_xorshift_Next r from by kernel_rfl];exact h)
def slices_medianAdjacentOrdered_string (data:Sl) (a:Int) (swaps:Option Addr):Prog :=
.call F.slices_medianOrdered_string [data.v,.int .i64 (IntKind.wrap .i64 (a-1)),.int .i64 a,.int .i64 (IntKind.wrap .i64 (a+1)),.pointer swaps] (sI .i64) (u1 fun (n0:Int) =>
.lt (.int .i64) (n0) fun (n1:Int) =>
.done 0 [.int .i64 n1])
theorem slices_medianAdjacentOrdered_string_calls (data:Sl) (a:Int) (swaps:Option Addr) {w:World} {R:List Value→World→Prop} (h:(slices_medianAdjacentOrdered_string data a swaps).wp P (fun _=>True) w fun e vs w'=>e=0∧R vs w') :
  Calls P F.slices_medianAdjacentOrdered_string #[.slice data.a data.len data.cap,.int .i64 a,.pointer swaps] w fun e w'=>∃ vs,e=.returned (pack vs)∧R vs w' :=
 decomp_sound (isFn_of Go.Proofs.Tryz.func201 (by kernel_rfl) (by kernel_rfl) (by kernel_rfl)) okFs_ok mix [.val (.slice data.a data.len data.cap),.val (.int .i64 a),.val (.pointer swaps)] (by rw [show decomp P 15 ⟨okFs,[]⟩ { cnd:=[],blk:=[],reg:=[],lps:=[] } [.tmp 6] (bodyOf Go.Proofs.Tryz.f201) [.val (.slice data.a data.len data.cap),.val (.int .i64 a),.val (.pointer swaps)]=slices_medianAdjacentOrdered_string data a swaps from by kernel_rfl];exact h)
def slices_medianOrdered_string (data:Sl) (a b c:Int) (swaps:Option Addr):Prog :=
.call F.slices_order2Ordered_string [data.v,.int .i64 a,.int .i64 b,.pointer swaps] (.tup [.one (.int .i64),.one (.int .i64)]) (u2 fun (n0 n1:Int) =>
.lt (.int .i64) (n0) fun (n2:Int) =>
.lt (.int .i64) (n1) fun (n3:Int) =>
.call F.slices_order2Ordered_string [data.v,.int .i64 n3,.int .i64 c,.pointer swaps] (.tup [.one (.int .i64),.one (.int .i64)]) (u2 fun (n4 n5:Int) =>
.lt (.int .i64) (n4) fun (n6:Int) =>
.lt (.int .i64) (n5) fun (n7:Int) =>
.call F.slices_order2Ordered_string [data.v,.int .i64 n2,.int .i64 n6,.pointer swaps] (.tup [.one (.int .i64),.one (.int .i64)]) (u2 fun (n8 n9:Int) =>
.lt (.int .i64) (n8) fun (n10:Int) =>
.lt (.int .i64) (n9) fun (n11:Int) =>
.lt (.int .i64) (n11) fun (n12:Int) =>
.done 0 [.int .i64 n12])))
theorem slices_medianOrdered_string_calls (data:Sl) (a b c:Int) (swaps:Option Addr) {w:World} {R:List Value→World→Prop} (h:(slices_medianOrdered_string data a b c swaps).wp P (fun _=>True) w fun e vs w'=>e=0∧R vs w') :
  Calls P F.slices_medianOrdered_string #[.slice data.a data.len data.cap,.int .i64 a,.int .i64 b,.int .i64 c,.pointer swaps] w fun e w'=>∃ vs,e=.returned (pack vs)∧R vs w' :=
 decomp_sound (isFn_of Go.Proofs.Tryz.func202 (by kernel_rfl) (by kernel_rfl) (by kernel_rfl)) okFs_ok mix [.val (.slice data.a data.len data.cap),.val (.int .i64 a),.val (.int .i64 b),.val (.int .i64 c),.val (.pointer swaps)] (by rw [show decomp P 36 ⟨okFs,[]⟩ { cnd:=[],blk:=[],reg:=[],lps:=[] } [.tmp 10] (bodyOf Go.Proofs.Tryz.f202) [.val (.slice data.a data.len data.cap),.val (.int .i64 a),.val (.int .i64 b),.val (.int .i64 c),.val (.pointer swaps)]=slices_medianOrdered_string data a b c swaps from by kernel_rfl];exact h)
def cmp_isNaN_string (x:ByteArray):Prog :=
.lt (.bool) (not (ByteArray.toList x == ByteArray.toList x)) fun b0 =>
.done 0 [.bool b0]
theorem cmp_isNaN_string_calls (x:ByteArray) {w:World} {R:List Value→World→Prop} (h:(cmp_isNaN_string x).wp P (fun _=>True) w fun e vs w'=>e=0∧R vs w') :
  Calls P F.cmp_isNaN_string #[.string x] w fun e w'=>∃ vs,e=.returned (pack vs)∧R vs w' :=
 decomp_sound (isFn_of Go.Proofs.Tryz.func203 (by kernel_rfl) (by kernel_rfl) (by kernel_rfl)) okFs_ok mix [.val (.string x)] (by rw [show decomp P 6 ⟨okFs,[]⟩ { cnd:=[],blk:=[],reg:=[],lps:=[] } [.tmp 2] (bodyOf Go.Proofs.Tryz.f203) [.val (.string x)]=cmp_isNaN_string x from by kernel_rfl];exact h)
def slices_order2Ordered_string (data:Sl) (a b:Int) (swaps:Option Addr):Prog :=
.tick <|
.ex [.adr] (c1 fun a0=>0≤b∧b<((data.len:Nat):Int)∧data.a=some a0) (u1 fun a1 =>
.read True (ld T.string (Addr.add a1 (Int.toNat b*1))) sS (u1 fun s2 =>
.ex [.adr] (c1 fun a3=>0≤a∧a<((data.len:Nat):Int)∧data.a=some a3) (u1 fun a4 =>
.read True (ld T.string (Addr.add a4 (Int.toNat a*1))) sS (u1 fun s5 =>
.call F.cmp_Less_string [.string s2,.string s5] sB (u1 fun b6 =>
.untick <|
.ite (b6) (
.ex [.adr] (c1 fun a7=>swaps=some a7) (u1 fun a8 =>
.read True (ld T.int a8) (sI .i64) (u1 fun (n9:Int) =>
.ex [.adr] (c1 fun a10=>swaps=some a10) (u1 fun a11 =>
.actU (st T.int a11 (.int .i64 (IntKind.wrap .i64 (n9+1)))) <|
.lt (.int .i64) (b) fun (n12:Int) =>
.lt (.int .i64) (a) fun (n13:Int) =>
.done 0 [.int .i64 n12,.int .i64 n13])))) (
.lt (.int .i64) (a) fun (n14:Int) =>
.lt (.int .i64) (b) fun (n15:Int) =>
.done 0 [.int .i64 n14,.int .i64 n15]))))))
theorem slices_order2Ordered_string_calls (data:Sl) (a b:Int) (swaps:Option Addr) {w:World} {R:List Value→World→Prop} (h:(slices_order2Ordered_string data a b swaps).wp P (fun _=>True) w fun e vs w'=>e=0∧R vs w') :
  Calls P F.slices_order2Ordered_string #[.slice data.a data.len data.cap,.int .i64 a,.int .i64 b,.pointer swaps] w fun e w'=>∃ vs,e=.returned (pack vs)∧R vs w' :=
 decomp_sound (isFn_of Go.Proofs.Tryz.func205 (by kernel_rfl) (by kernel_rfl) (by kernel_rfl)) okFs_ok mix [.val (.slice data.a data.len data.cap),.val (.int .i64 a),.val (.int .i64 b),.val (.pointer swaps)] (by rw [show decomp P 28 ⟨okFs,[]⟩ { cnd:=[],blk:=[],reg:=[],lps:=[] } [.tmp 8,.tmp 9] (bodyOf Go.Proofs.Tryz.f205) [.val (.slice data.a data.len data.cap),.val (.int .i64 a),.val (.int .i64 b),.val (.pointer swaps)]=slices_order2Ordered_string data a b swaps from by kernel_rfl];exact h)
end Go.Dec
