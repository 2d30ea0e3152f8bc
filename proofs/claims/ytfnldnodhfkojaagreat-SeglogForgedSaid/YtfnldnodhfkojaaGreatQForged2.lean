/- What the claim of this folder leans on: our own texts, joined, without what it does not use. -/
import Derived.Test.YtfnldnodhfkojaaGreatRows
import Derived.WalkKit
import Derived.ProofKit
import Derived.OpenShut
import Derived.RowKit3
import Derived.OrdersHeld
import Derived.Scope
import Derived.KernelRfl
import Derived.Laws.Sem
import Derived.Laws.StructEq
import Derived.Deep.AppendSrc
import Derived.Laws.BytesArg
import Derived.Laws.RangeString
import Derived.Maps.RangeRun
import Derived.Lib.ConvBytes
import Derived.Lib.SlBytesConst
import Derived.ChangeSlices
import Derived.ChangeMaps5
import Derived.ChangeSame
import Derived.Deep.Slices
import Derived.Deep.Fields
import Derived.Test.YtfnldnodhfkojaaGreatProg
import Derived.Laws.MakeOwn
import Derived.Sort.MapsRangeIn
import Derived.Sort.KeysCollected
import Derived.RangeFuncNested
import Derived.RangeFuncBound
import Derived.RangeFuncCalls
import Derived.RangeFuncLeaves
import Derived.RangeFuncBox
import Derived.OwnWalkIn
import Derived.TacticsInMore
import Derived.RegionIn
import Derived.LoopNIn
import Derived.LoopIn
import Derived.Maps.AppendAt
import Derived.Shelf.Abstract
import Derived.Shelf.Sort.Plain
import Derived.Shelf.Slices.In.SortNone
import Derived.Test.YtfnldnodhfkojaaGreatQForged1
set_option linter.unusedVariables false
set_option linter.unusedSimpArgs false
namespace Go.Dec
theorem zyx {W w':World} {l:List HP} (hs:Sat w' (whole W::l)) (may:MemPlace->Prop):W.keptBut w' may:=by
 obtain ⟨h,ho,hu,hz⟩:=hs.of_whole
 refine ⟨ho,hu,λi hi=>?_⟩
 have hg:W.heap[i]? = some W.heap[i]:=by simp [hi]
 have hg':=h i _ hg
 rw [hg,hg']
 cases W.heap[i] with
 | cells c t fr=>exact ⟨rfl,rfl,rfl,λ_ _=>rfl⟩
 | map es c=>exact .inr ⟨rfl,rfl⟩
 | _=>rfl
section
open Go.ChangeShapes
variable {H:Type} {enc:TypeId × Value->H} {P:Program}
theorem z03x {f:Func} {s:ChangeSpec} {apart fresh handsOn again:Bool} {W W':World} {args:Array Value} {v:Value} {ds gs:List (DataW H)} {before pa pv:List MemPlace} {l:List HP}
  (hW:DataW.Whole enc P f.params.toList s.vars apart W args.toList ds gs before) (hs:Sat W' (whole W::l))
  (hres:∀ (b:Nat) (sp:Nat->Bool) (hd:Bool),DataW.TrodAll enc P W' b sp hd f.resultTypes.toList (v.resultList f.resultTypes.size) (s.fn H (ds++gs)).results [])
  (hargs:∀ sp:Nat->Bool,(∀ p ∈ before,sp p.block=true)->DataW.TrodAll enc P W' 0 sp true f.params.toList args.toList (s.fn H (ds++gs)).args pa)
  (hvars:∀ sp:Nat->Bool,(∀ p ∈ before,sp p.block=true)->DataW.TrodVars enc P W' sp s.vars (s.fn H (ds++gs)).vars pv)
  (hps:before=pa++pv)
  (hok:∀ (j:Nat) (t:TypeId) (r:Value),f.resultTypes[j]? = some t->(v.resultList f.resultTypes.size)[j]? = some r->Value.okWide P W' .any 0 t r) :
  s.post enc P f apart fresh handsOn again W args v W':=by
 have hlt:=hW.lt
 have hz:=hs.of_whole.2.2.2
 have hkeep:=zyx hs
 refine ⟨ds,gs,before,[],pa,pv,hW,hres _ _ _,hargs _ λp hp=>decide_eq_true (hlt p hp),hvars _ λp hp=>decide_eq_true (hlt p hp),World.keptBut_mono (λp hp=>⟨hp,.inr (by rw [hps] at hp;exact List.mem_append.1 hp)⟩) (hkeep (· ∈ before)),λ_=>?_⟩
 obtain ⟨_,_,_,_,_,hfz,hnd⟩:=hW
 refine ⟨hok,_,_,([]++pa)++pv,⟨[]++pa,pv,trodAll_append (hargs _ λ_ _=>rfl) (hres _ _ _),hvars _ λ_ _=>rfl,rfl,λb off hp=>?_,λha=>?_⟩,λp hp _=>?_⟩
 ·have hmem:MemPlace.cell b off ∈ before:=by rw [hps];simpa using hp
  rw [hz _ (hlt _ hmem)]
  exact hfz b off hmem
 ·have:=hnd ha
  rw [hps] at this
  simpa using this
 ·rw [hps];simpa using hp
end
theorem z040 {n:Int} (h:(Lit.int .i64 n).wf=true) : -9223372036854775808<=n/\n<9223372036854775808:=by
 have h:IntKind.min .i64<=n/\n<=IntKind.max .i64:=by simpa only [Lit.wf,Bool.and_eq_true,decide_eq_true_eq] using h
 have h1:IntKind.min .i64 = -9223372036854775808:=by decide
 have h2:IntKind.max .i64=9223372036854775807:=by decide
 omega
theorem z6d {α β:Type} {f g:α->Option β}:∀ {l:List α} {ys:List β},l.mapM f=some ys->(∀ a y,a ∈ l->y ∈ ys->f a=some y->g a=some y)->l.mapM g=some ys
 | [],ys,h,_=>by simpa using h
 | a::r,ys,h,hk=>by
  rw [List.mapM_cons] at h ⊢
  cases ha:f a with
  | none=>rw [ha] at h;cases h
  | some y =>
   rw [ha] at h
   cases hr:r.mapM f with
   | none=>rw [hr] at h;cases h
   | some zs =>
    rw [hr] at h
    obtain rfl:y::zs=ys:=by simpa using h
    rw [hk a y (List.mem_cons_self ..) (List.mem_cons_self ..) ha,z6d hr λb z hb hz hf=>hk b z (List.mem_cons_of_mem _ hb) (List.mem_cons_of_mem _ hz) hf]
    rfl
section
variable {H:Type} {enc:TypeId × Value->H} {P:Program} {W W':World} {base:Nat} {sp:Nat->Bool} {L:List TypeId}
theorem zt4 (hb:∀ (b:Nat) (o:Obj),W.heap[b]? = some o->W'.heap[b]? = some o) {a:Addr} {v:Value} (h:W.cell? a=some v):W'.cell? a=some v:=by
 unfold World.cell? at h ⊢
 cases ho:W.heap[a.block]? with
 | none=>rw [ho] at h;cases h
 | some o=>rw [ho] at h;rw [hb _ _ ho];exact h
theorem zpc (hb:∀ (b:Nat) (o:Obj),W.heap[b]? = some o->W'.heap[b]? = some o) {a:Addr} {n:Nat} {cs:List Value} (h:W.cells? base a n=some cs):W'.cells? base a n=some cs:=by
 unfold World.cells? at h ⊢
 split at h
 ·rename_i hc
  rw [if_pos hc]
  exact z6d h λi v _ _ hv=>zt4 hb hv
 ·cases h
def zos (P:Program) (L:List TypeId):Bool:=L.all λt=>match P.underlying t with
 | some (.pointer e)=>L.any (Nat.beq e)
 | some (.slice e)=>L.any (Nat.beq e) && Nat.blt 0 (P.cellsOf e)
 | some (.array _ e)=>L.any (Nat.beq e)
 | some (.struct fs)=>fs.toList.all λf=>L.any (Nat.beq f.type)
 | some (.map _ e)=>L.any (Nat.beq e)
 | _=>true
theorem zlc {L:List TypeId} {e:TypeId} (h:L.any (Nat.beq e)=true):e ∈ L:=by
 obtain ⟨x,hx,he⟩:=List.any_eq_true.1 h
 rwa [Nat.eq_of_beq_eq_true he]
theorem ziq (hz:zos P L=true) (hb:∀ (b:Nat) (o:Obj),W.heap[b]? = some o->W'.heap[b]? = some o):∀ (fuel:Nat) (t:TypeId) (cs:List Value) (x:DataW H × List MemPlace),t ∈ L ->
  DataW.trod enc P W base (λ_=>true) true fuel t cs=some x->(∀ p ∈ x.2,sp p.block=true)->DataW.trod enc P W' base sp true fuel t cs=some x
 | 0,t,cs,x,ht,h,hp=>by simp [DataW.trod] at h
 | fuel+1,t,cs,x,ht,h,hp=>by
  have ih:=ziq hz hb fuel
  have hk:=List.all_eq_true.1 hz t ht
  unfold DataW.trod at h ⊢
  have here:∀ {e:TypeId} {a:Addr} {n:Nat} {y:DataW H × List MemPlace},e ∈ L->(W.cells? base a n).bind (DataW.trod enc P W base (λ_=>true) true fuel e)=some y->(∀ p ∈ y.2,sp p.block=true) ->
    (W'.cells? base a n).bind (DataW.trod enc P W' base sp true fuel e)=some y:=λ{e a n y} he h hp=>by
   cases hc:W.cells? base a n with
   | none=>rw [hc] at h;cases h
   | some cs=>rw [hc] at h;rw [zpc hb hc];exact ih e cs y he h hp
  split at h
  all_goals first|exact h|skip
  case h_6 =>
   rename_i e a hu
   rw [hu] at hk
   have he:e ∈ L:=zlc hk
   cases hc:(W.cells? base a (P.cellsOf e)).bind (DataW.trod enc P W base (λ_=>true) true fuel e) with
   | none=>rw [hc] at h;cases h
   | some y =>
    rw [hc] at h
    obtain rfl:=Option.some.inj h
    rw [here he hc λp h=>hp p (List.mem_append_right _ h)]
    rfl
  case h_8 =>
   rename_i e a len cap hu
   rw [hu] at hk
   have hk:(L.any (Nat.beq e) && Nat.blt 0 (P.cellsOf e))=true:=hk
   rw [Bool.and_eq_true] at hk
   have he:e ∈ L:=zlc hk.1
   dsimp only at h ⊢
   split at h
   ·rename_i hc
    rw [if_pos rfl] at h
    cases h1:(List.range len).mapM (λi=>(W.cells? base (a.add (i*P.cellsOf e)) (P.cellsOf e)).bind (DataW.trod enc P W base (λ_=>true) true fuel e)) with
    | none=>rw [h1] at h;cases h
    | some elems =>
     rw [h1] at h
     simp only [Option.bind_some] at h
     cases h2:(List.range (cap-len)).mapM (λj=>(W.cells? base (a.add ((len+j)*P.cellsOf e)) (P.cellsOf e)).bind (DataW.trod enc P W base (λ_=>true) true fuel e)) with
     | none=>rw [h2] at h;cases h
     | some rest =>
      rw [h2] at h
      obtain rfl:=Option.some.inj h
      have hin:∀ y,y ∈ elems++rest->∀ p ∈ y.2,sp p.block=true:=λy hy p hpy=>hp p (List.mem_append_right _ (List.mem_flatMap.2 ⟨y,hy,hpy⟩))
      rw [z6d h1 λi y _ hy hf=>here he hf (hin y (List.mem_append_left _ hy))]
      simp only [Option.bind_some]
      have hs:(if sp a.block=true then (List.range (cap-len)).mapM (λj=>(W'.cells? base (a.add ((len+j)*P.cellsOf e)) (P.cellsOf e)).bind (DataW.trod enc P W' base sp true fuel e)) else some [])=some rest:=by
       split
       ·exact z6d h2 λi y _ hy hf=>here he hf (hin y (List.mem_append_right _ hy))
       ·rename_i hsp
        cases hr:rest with
        | nil=>rfl
        | cons y r =>
         exfalso
         have hpos:0<P.cellsOf e:=Nat.le_of_ble_eq_true hk.2
         refine hsp (hp (.cell a.block (a.off+0)) (List.mem_append_left _ ?_))
         unfold MemPlace.row
         refine List.mem_map.2 ⟨0,List.mem_range.2 ?_,rfl⟩
         rw [hr]
         exact Nat.mul_pos (by rw [List.length_cons];omega) hpos
      rw [hs,if_pos hc]
      rfl
   ·cases h
  case h_9 =>
   rename_i fs hu
   rw [hu] at hk
   have hk:=List.all_eq_true.1 hk
   split at h
   ·rename_i hc
    rw [if_pos hc]
    obtain ⟨xs,h1,rfl⟩:=Option.map_eq_some_iff.1 h
    rw [z6d h1 λf y hf' hy hf=>ih _ _ y (zlc (hk f hf')) hf λp hpy=>hp p (List.mem_flatMap.2 ⟨y,hy,hpy⟩)]
    rfl
   ·cases h
  case h_10 =>
   rename_i n e hu
   rw [hu] at hk
   split at h
   ·rename_i hc
    rw [if_pos hc]
    obtain ⟨xs,h1,rfl⟩:=Option.map_eq_some_iff.1 h
    rw [z6d h1 λf y _ hy hf=>ih _ _ y (zlc hk) hf λp hpy=>hp p (List.mem_flatMap.2 ⟨y,hy,hpy⟩)]
    rfl
   ·cases h
  case h_14 =>
   rename_i b hu
   rw [hu] at hk
   cases ho:W.heap[b]? with
   | none=>rw [ho] at h;cases h
   | some o =>
    rw [hb _ _ ho]
    rw [ho] at h
    cases o with
    | map es clock =>
     dsimp only at h ⊢
     split at h
     ·rename_i hc
      rw [if_pos hc]
      obtain ⟨entries,h1,h⟩:=Option.bind_eq_some_iff.1 h
      split at h
      ·rename_i hr
       obtain rfl:=Option.some.inj h
       rw [z6d h1 λf y _ hy hf=>?_]
       ·simp only [Option.bind_some]
        rw [if_pos hr]
       ·obtain ⟨key,hkey,hf⟩:=Option.bind_eq_some_iff.1 hf
        rw [hkey]
        simp only [Option.bind_some]
        split at hf
        ·rename_i hfm
         rw [if_pos hfm]
         obtain ⟨z,hz',rfl⟩:=Option.map_eq_some_iff.1 hf
         rw [ih _ _ z (zlc hk) hz' λp hpz=>hp p (List.mem_cons_of_mem _ (List.mem_flatMap.2 ⟨_,hy,hpz⟩))]
         rfl
        ·cases hf
      ·cases h
     ·cases h
    | _=>cases h
theorem zk2 (hz:zos P L=true) (hb:∀ (b:Nat) (o:Obj),W.heap[b]? = some o->W'.heap[b]? = some o):∀ (ts:List TypeId) (vs:List Value) (ds:List (DataW H)) (ps:List MemPlace),(∀ t ∈ ts,t ∈ L) ->
  DataW.TrodAll enc P W base (λ_=>true) true ts vs ds ps->(∀ p ∈ ps,sp p.block=true)->DataW.TrodAll enc P W' base sp true ts vs ds ps
 | [],[],[],ps,_,h,_=>h
 | t::ts,v::vs,d::ds,ps,hL,⟨p,q,⟨fuel,h1⟩,h2,he⟩,hp=>by
  subst he
  exact ⟨p,q,⟨fuel,ziq hz hb fuel t _ (d,p) (hL t (List.mem_cons_self ..)) h1 λx hx=>hp x (List.mem_append_left _ hx)⟩,zk2 hz hb ts vs ds q (λt ht=>hL t (List.mem_cons_of_mem _ ht)) h2 λx hx=>hp x (List.mem_append_right _ hx),rfl⟩
 | [],[],_::_,_,_,h,_=>h.elim
 | [],_::_,_,_,_,h,_=>h.elim
 | _::_,[],_,_,_,h,_=>h.elim
 | _::_,_::_,[],_,_,h,_=>h.elim
end
open Go.ChangeShapes Go.WideShapes Go.RowKit
section
variable {H:Type} {enc:TypeId × Value->H} {P:Program} {w:World} {base:Nat} {sp:Nat->Bool} {held:Bool}
theorem zzn {W W':World} (hb:∀ (b:Nat) (o:Obj),W.heap[b]? = some o->W'.heap[b]? = some o) {sz:Nat} {x:Sl} {cs:List Value} (h:Rd W sz x cs):Rd W' sz x cs :=
 ⟨h.1,h.2.imp id λ⟨b,off,arr,T,fr,ha,h1,h2⟩=>⟨b,off,arr,T,fr,ha,hb _ _ h1,h2⟩⟩
end
open Go.ChangeShapes Go.WideShapes Go.RowKit Go.Deep
section
variable {H:Type} {enc:TypeId × Value->H} {P:Program} {w:World} {base:Nat} {spare:Nat->Bool} {held:Bool}
theorem zu8 {a:Addr} {cs:List Value} {len cap sz:Nat} (hlen:cs.length=len*sz) (hpos:0<sz) (hcell:∀ i,i<cs.length->w.cell? (a.add i)=cs[i]?):Rd w sz ⟨some a,len,cap⟩ cs:=by
 refine ⟨hlen,?_⟩
 by_cases h0:len=0
 ·exact .inl h0
 ·right
  have hpos2:0<cs.length:=by rw [hlen];exact Nat.mul_pos (by omega) hpos
  have hc0:=hcell 0 hpos2
  obtain ⟨b,off,spot⟩:=a
  have e0:(Addr.mk b off spot).add 0=⟨b,off,spot⟩:=rfl
  rw [e0,List.getElem?_eq_getElem hpos2] at hc0
  unfold World.cell? at hc0
  dsimp only at hc0
  cases hb:w.heap[b]? with
  | none=>rw [hb] at hc0;cases hc0
  | some o =>
   rw [hb] at hc0
   cases o with
   | cells arr T fr =>
    dsimp only at hc0
    cases spot with
    | some x=>simp at hc0
    | none =>
     refine ⟨b,off,arr,T,fr,rfl,hb,λi hi=>?_⟩
     have hci:=hcell i hi
     rw [z3m,z5f hb] at hci
     rw [hci]
   | _=>cases hc0
end
open Go.ChangeShapes Go.WideShapes Go.RowKit Go.Deep
section
variable {H:Type} {enc:TypeId × Value->H} {P:Program} {w:World} {base:Nat} {spare:Nat->Bool} {held:Bool}
theorem zcr {α:Type} {encA:α->List Value} {good:α->Prop} {C:Nat} {t e:TypeId} {fuel:Nat} {v:Value} {y:DataW H × List MemPlace} (ht:P.underlying t=some (.slice e)) (hC:P.cellsOf e=C) (hpos:0<C)
  (hread:∀ (n:Nat) (cs:List Value) (y:DataW H × List MemPlace),cs.length=C->DataW.trod enc P w base spare held n e cs=some y->∃ o:α,cs=encA o/\good o)
  (hd:DataW.trod enc P w base spare held fuel t [v]=some y) :
  ∃ (x:Sl) (xs:List α),v=x.v/\x.len<=x.cap/\x.len=xs.length/\x.cap<=maxLen/\(∀ o ∈ xs,good o)/\Rd w C x (xs.flatMap encA):=by
 rcases DataW.trod_slice ht hd with ⟨hcs,-⟩|⟨a,len,cap,elems,rest,n,_,hcs,-,hb,hl,hm,hlen,hel,-,-⟩
 ·obtain rfl:v=.slice none 0 0:=by simpa using hcs
  exact ⟨⟨none,0,0⟩,[],rfl,Nat.le_refl _,rfl,Nat.zero_le _,(λo ho=>by cases ho),(Nat.zero_mul _).symm,.inl rfl⟩
 ·obtain rfl:v=.slice (some a) len cap:=by simpa using hcs
  have each:∀ i,i<len->∃ o:α,good o/\(encA o).length=C/\∀ j,j<C->w.cell? (a.add (i*C+j))=(encA o)[j]? := by
   intro i hi
   have h1:=hel i hi
   rw [List.getElem?_eq_getElem (by omega),Option.bind_eq_some_iff] at h1
   obtain ⟨cs',hc,ht'⟩:=h1
   rw [hC] at hc
   obtain ⟨_,hcl,hat⟩:=World.cells?_some hc
   obtain ⟨o,ho,hg⟩:=hread n cs' _ hcl ht'
   refine ⟨o,hg,by rw [<- ho];exact hcl,λj hj=>?_⟩
   rw [<- Go.Deep.add_add,hat j hj,ho]
  have hall:∀ k,k<=len->∃ xs:List α,xs.length=k/\(∀ o ∈ xs,good o)/\(xs.flatMap encA).length=k*C/\∀ i,i<k*C->w.cell? (a.add i)=(xs.flatMap encA)[i]? := by
   intro k
   induction k with
   | zero=>exact λ_=>⟨[],rfl,(λo ho=>by cases ho),by simp,λi hi=>by omega⟩
   | succ k ih =>
    intro hk
    obtain ⟨xs,h1,h2,h3,h4⟩:=ih (by omega)
    obtain ⟨o,ho,hol,hc⟩:=each k (by omega)
    refine ⟨xs++[o],by simp [h1],λu hu=>?_,by simp [h3,hol,Nat.succ_mul],λi hi=>?_⟩
    ·rcases List.mem_append.1 hu with hu|hu
     ·exact h2 u hu
     ·rw [List.mem_singleton.1 hu];exact ho
    ·rw [List.flatMap_append,List.flatMap_singleton]
     by_cases hik:i<k*C
     ·rw [List.getElem?_append_left (by omega),h4 i hik]
     ·rw [List.getElem?_append_right (by omega),h3]
      rw [Nat.succ_mul] at hi
      have:=hc (i-k*C) (by omega)
      rw [show k*C+(i-k*C)=i by omega] at this
      exact this
  obtain ⟨xs,h1,h2,h3,h4⟩:=hall len (Nat.le_refl _)
  exact ⟨⟨some a,len,cap⟩,xs,rfl,hl,h1.symm,hm,h2,zu8 h3 hpos λi hi=>h4 i (by rw [<- h3];exact hi)⟩
end
end Go.Dec
namespace Go.T
abbrev a39:Go.TypeId:=0
abbrev a11:Go.TypeId:=2
abbrev a10:Go.TypeId:=3
abbrev a4:Go.TypeId:=4
abbrev a38:Go.TypeId:=5
abbrev a32:Go.TypeId:=9
abbrev a18:Go.TypeId:=22
abbrev a28:Go.TypeId:=24
abbrev a13:Go.TypeId:=26
abbrev a2:Go.TypeId:=27
abbrev a16:Go.TypeId:=30
abbrev a19:Go.TypeId:=36
abbrev a1:Go.TypeId:=38
abbrev a26:Go.TypeId:=52
abbrev a35:Go.TypeId:=54
abbrev a25:Go.TypeId:=62
abbrev a27:Go.TypeId:=65
abbrev a24:Go.TypeId:=68
abbrev a37:Go.TypeId:=71
abbrev a21:Go.TypeId:=105
abbrev a12:Go.TypeId:=110
abbrev a5:Go.TypeId:=112
abbrev a22:Go.TypeId:=113
abbrev a29:Go.TypeId:=115
abbrev a17:Go.TypeId:=116
abbrev a15:Go.TypeId:=117
abbrev a30:Go.TypeId:=119
abbrev a7:Go.TypeId:=121
abbrev a3:Go.TypeId:=125
abbrev a23:Go.TypeId:=143
abbrev a33:Go.TypeId:=151
abbrev a36:Go.TypeId:=156
abbrev a14:Go.TypeId:=157
abbrev a6:Go.TypeId:=160
abbrev a9:Go.TypeId:=182
abbrev a20:Go.TypeId:=183
abbrev a8:Go.TypeId:=185
abbrev a34:Go.TypeId:=206
abbrev a0:Go.TypeId:=226
abbrev a40:Go.TypeId:=249
abbrev a31:Go.TypeId:=251
end Go.T
namespace Go.F
abbrev a97:Go.FuncId:=6
abbrev a100:Go.FuncId:=13
abbrev a16:Go.FuncId:=14
abbrev a99:Go.FuncId:=17
abbrev a53:Go.FuncId:=19
abbrev a54:Go.FuncId:=21
abbrev a128:Go.FuncId:=22
abbrev a127:Go.FuncId:=23
abbrev a70:Go.FuncId:=24
abbrev a51:Go.FuncId:=25
abbrev a98:Go.FuncId:=26
abbrev a136:Go.FuncId:=27
abbrev a105:Go.FuncId:=28
abbrev a103:Go.FuncId:=29
abbrev a3:Go.FuncId:=30
abbrev a133:Go.FuncId:=31
abbrev a10:Go.FuncId:=32
abbrev a7:Go.FuncId:=33
abbrev a8:Go.FuncId:=34
abbrev a102:Go.FuncId:=35
abbrev a140:Go.FuncId:=36
abbrev a104:Go.FuncId:=37
abbrev a139:Go.FuncId:=39
abbrev a143:Go.FuncId:=40
abbrev a134:Go.FuncId:=41
abbrev a138:Go.FuncId:=42
abbrev a71:Go.FuncId:=44
abbrev a58:Go.FuncId:=45
abbrev a6:Go.FuncId:=48
abbrev a50:Go.FuncId:=50
abbrev a52:Go.FuncId:=56
abbrev a57:Go.FuncId:=57
abbrev a135:Go.FuncId:=58
abbrev a63:Go.FuncId:=60
abbrev a77:Go.FuncId:=61
abbrev a129:Go.FuncId:=62
abbrev a125:Go.FuncId:=63
abbrev a95:Go.FuncId:=65
abbrev a55:Go.FuncId:=66
abbrev a69:Go.FuncId:=67
abbrev a76:Go.FuncId:=68
abbrev a56:Go.FuncId:=69
abbrev a37:Go.FuncId:=70
abbrev a126:Go.FuncId:=71
abbrev a75:Go.FuncId:=72
abbrev a61:Go.FuncId:=73
abbrev a9:Go.FuncId:=74
abbrev a64:Go.FuncId:=75
abbrev a67:Go.FuncId:=76
abbrev a60:Go.FuncId:=77
abbrev a65:Go.FuncId:=78
abbrev a62:Go.FuncId:=79
abbrev a68:Go.FuncId:=80
abbrev a72:Go.FuncId:=81
abbrev a66:Go.FuncId:=82
abbrev a78:Go.FuncId:=83
abbrev a142:Go.FuncId:=84
abbrev a137:Go.FuncId:=85
abbrev a101:Go.FuncId:=86
abbrev a124:Go.FuncId:=87
abbrev a120:Go.FuncId:=88
abbrev a14:Go.FuncId:=89
abbrev a15:Go.FuncId:=90
abbrev a5:Go.FuncId:=91
abbrev a17:Go.FuncId:=92
abbrev a119:Go.FuncId:=93
abbrev a144:Go.FuncId:=94
abbrev a123:Go.FuncId:=95
abbrev a12:Go.FuncId:=96
abbrev a31:Go.FuncId:=97
abbrev a96:Go.FuncId:=98
abbrev a79:Go.FuncId:=99
abbrev a0:Go.FuncId:=100
abbrev a117:Go.FuncId:=101
abbrev a141:Go.FuncId:=102
abbrev a11:Go.FuncId:=103
abbrev a27:Go.FuncId:=112
abbrev a130:Go.FuncId:=114
abbrev a18:Go.FuncId:=115
abbrev a35:Go.FuncId:=116
abbrev a24:Go.FuncId:=117
abbrev a40:Go.FuncId:=118
abbrev a38:Go.FuncId:=119
abbrev a43:Go.FuncId:=120
abbrev a34:Go.FuncId:=121
abbrev a45:Go.FuncId:=122
abbrev a59:Go.FuncId:=123
abbrev a13:Go.FuncId:=124
abbrev a73:Go.FuncId:=125
abbrev a4:Go.FuncId:=126
abbrev a36:Go.FuncId:=127
abbrev a20:Go.FuncId:=128
abbrev a28:Go.FuncId:=129
abbrev a159:Go.FuncId:=130
abbrev a74:Go.FuncId:=131
abbrev a26:Go.FuncId:=132
abbrev a107:Go.FuncId:=133
abbrev a106:Go.FuncId:=134
abbrev a116:Go.FuncId:=135
abbrev a122:Go.FuncId:=136
abbrev a121:Go.FuncId:=137
abbrev a108:Go.FuncId:=138
abbrev a114:Go.FuncId:=139
abbrev a110:Go.FuncId:=140
abbrev a132:Go.FuncId:=141
abbrev a131:Go.FuncId:=142
abbrev a30:Go.FuncId:=144
abbrev a91:Go.FuncId:=145
abbrev a32:Go.FuncId:=146
abbrev a23:Go.FuncId:=150
abbrev a21:Go.FuncId:=151
abbrev a148:Go.FuncId:=152
abbrev a149:Go.FuncId:=153
abbrev a48:Go.FuncId:=154
abbrev a151:Go.FuncId:=155
abbrev a46:Go.FuncId:=156
abbrev a150:Go.FuncId:=157
abbrev a25:Go.FuncId:=158
abbrev a44:Go.FuncId:=159
abbrev a42:Go.FuncId:=160
abbrev a47:Go.FuncId:=161
abbrev a39:Go.FuncId:=162
abbrev a155:Go.FuncId:=163
abbrev a147:Go.FuncId:=164
abbrev a41:Go.FuncId:=165
abbrev a146:Go.FuncId:=166
abbrev a145:Go.FuncId:=167
abbrev a158:Go.FuncId:=168
abbrev a22:Go.FuncId:=169
abbrev a29:Go.FuncId:=170
abbrev a109:Go.FuncId:=171
abbrev a118:Go.FuncId:=172
abbrev a115:Go.FuncId:=173
abbrev a112:Go.FuncId:=174
abbrev a111:Go.FuncId:=175
abbrev a113:Go.FuncId:=176
abbrev a83:Go.FuncId:=177
abbrev a82:Go.FuncId:=178
abbrev a80:Go.FuncId:=179
abbrev a81:Go.FuncId:=180
abbrev a92:Go.FuncId:=181
abbrev a88:Go.FuncId:=182
abbrev a1:Go.FuncId:=183
abbrev a89:Go.FuncId:=184
abbrev a90:Go.FuncId:=185
abbrev a33:Go.FuncId:=187
abbrev a19:Go.FuncId:=188
abbrev a157:Go.FuncId:=189
abbrev a161:Go.FuncId:=190
abbrev a160:Go.FuncId:=191
abbrev a162:Go.FuncId:=192
abbrev a156:Go.FuncId:=193
abbrev a152:Go.FuncId:=194
abbrev a154:Go.FuncId:=195
abbrev a49:Go.FuncId:=196
abbrev a163:Go.FuncId:=197
abbrev a93:Go.FuncId:=198
abbrev a86:Go.FuncId:=199
abbrev a94:Go.FuncId:=200
abbrev a84:Go.FuncId:=201
abbrev a85:Go.FuncId:=202
abbrev a2:Go.FuncId:=203
abbrev a153:Go.FuncId:=204
abbrev a87:Go.FuncId:=205
end Go.F
namespace Go.Dec
noncomputable abbrev P:Program:=Go.Proofs.Tryz.prog
def zvy:List FuncId:=[2,3,4,5,6,7,8,9,10,11,12,13,14,15,16,17,18,19,20,21,22,23,24,25,26,27,28,29,30,31,32,33,34,35,36,37,38,39,40,41,42,43,44,45,46,47,48,49,50,51,52,53,54,55,56,57,58,59,60,61,62,63,64,65,66,67,68,69,70,71,72,73,74,75,76,77,78,79,80,81,82,83,84,85,86,87,88,89,90,91,92,93,94,95,96,97,98,99,100,101,102,103,104,105,106,107,108,109,110,111,112,113,114,115,116,117,118,119,120,121,122,123,124,125,126,127,128,129,130,131,132,133,134,135,136,137,138,139,140,141,142,143,144,145,146,147,148,149,150,151,152,153,154,155,156,157,158,159,160,161,162,163,164,165,166,167,168,169,170,171,172,173,174,175,176,177,178,179,180,181,182,183,184,185,186,187,188,189,190,191,192,193,194,195,196,197,198,199,200,201,202,203,204,205]
theorem zvp:zvy.all (z4w P)=true:=by kernel_rfl
theorem zzr:∀ f ∈ zvy,z4w P f=true:=List.all_eq_true.1 zvp
theorem mix:P.follows .mixedOrders=true:=by kernel_rfl
theorem dS {f:FuncId} {fn:Func} {n:Nat} {rv:List RV} {p:Prog} {w:World} {R:List Value->World->Prop} (H:Hints) (args:List Base) (hf:P.funcs[f]? = some fn) (hb:fn.body.isSome=true) (hn:fn.ntmps=n) (hr:zb6 fn.results.toList=rv) (he:zf3 P n ⟨zvy,[]⟩ H rv (zko fn) args=p) (h:p.wp P (λ_=>True) w λe vs w'=>e=0/\R vs w'):Ret P f (args.map Base.v).toArray w R:=zkm (zzc hf hb hn hr) zzr mix args (by rw [he];exact h)
def zwf (seg:Int) (files:Sl):Prog :=
.call F.a100 [.int .i64 seg,.int .i64 3] (sG [.int .i64,.int .i64]) (u2 λ(n0 n1:Int) =>
.act (new T.a28) sA (u1 λa2 =>
.actU (st T.a28 a2 (.agg #[.int .i64 n0,.int .i64 n1])) <|
.call F.a16 [.int .i64 1048576] (.tup [.one .ptr,.one (.int .i64)]) (u2 λp3 (n4:Int) =>
.lt (.int .i64) (n4) λ(n5:Int) =>
.call F.a103 [.pointer p3,files.v] sL (u1 λl6 =>
.act (Instr.buildSlice T.a27 4 #[(0,.int .u8 108),(1,.int .u8 101),(2,.int .u8 102),(3,.int .u8 116)]) sL (u1 λl7 =>
.act (convert T.a27 T.a27 l7.v) sL (u1 λl8 =>
.act (Instr.buildSlice T.a23 1 #[(0,l8.v)]) sL (u1 λl9 =>
.call F.a3 [.pointer p3,.string (ByteArray.mk #[113,45,48,48,48,48,48,48,48,48,48,48,48,46,110,101,119]),l9.v] (sI .i64) (u1 λ(n10:Int) =>
.act (Instr.buildSlice T.a27 4 #[(0,.int .u8 107),(1,.int .u8 101),(2,.int .u8 112),(3,.int .u8 116)]) sL (u1 λl11 =>
.act (convert T.a27 T.a27 l11.v) sL (u1 λl12 =>
.act (Instr.buildSlice T.a23 1 #[(0,l12.v)]) sL (u1 λl13 =>
.call F.a3 [.pointer p3,.string (ByteArray.mk #[111,116,104,101,114]),l13.v] (sI .i64) (u1 λ(n14:Int) =>
.read True (ld T.a10 (Addr.add a2 0)) (sI .i64) (u1 λ(n15:Int) =>
.read True (ld T.a10 (Addr.add a2 1)) (sI .i64) (u1 λ(n16:Int) =>
.call F.a133 [.int .i64 n15,.int .i64 n16,l6.v] sP (u1 λp17 =>
.read True (ld T.a28 a2) (sG [.int .i64,.int .i64]) (u2 λ(n18 n19:Int) =>
.call F.a70 [.pointer p3,.string (ByteArray.mk #[113]),.agg #[.int .i64 n18,.int .i64 n19]] (.tup [.one .ptr,.one (.int .i64)]) (u2 λp20 (n21:Int) =>
.lt (.int .i64) (n21) λ(n22:Int) =>
.bind 1 [.one .bool] (
.ite (n22 != 0) (
.done 1 [.bool true]) (
.call F.a105 [.pointer p20,.pointer p17] sB (u1 λb23 =>
.ite (not b23) (
.done 1 [.bool true]) (
.call F.a10 [.pointer p3,.string (ByteArray.mk #[111,116,104,101,114])] (sI .i64) (u1 λ(n24:Int) =>
.ite (n24 != 4) (
.done 1 [.bool true]) (
.call F.a10 [.pointer p3,.string (ByteArray.mk #[113,45,48,48,48,48,48,48,48,48,48,48,48,46,110,101,119])] (sI .i64) (u1 λ(n25:Int) =>
.done 1 [.bool (n25 != 0)]))))))) (u1 λb26 =>
.ite (b26) (
.done 0 [.bool false]) (
.read True (ld T.a28 a2) (sG [.int .i64,.int .i64]) (u2 λ(n27 n28:Int) =>
.call F.a70 [.pointer p3,.string (ByteArray.mk #[113]),.agg #[.int .i64 n27,.int .i64 n28]] (.tup [.one .ptr,.one (.int .i64)]) (u2 λp29 (n30:Int) =>
.lt (.int .i64) (n30) λ(n31:Int) =>
.bind 1 [.one .bool] (
.tick <|
.ite (n31 != 0) (
.untick <|
.done 1 [.bool true]) (
.call F.a105 [.pointer p29,.pointer p17] sB (u1 λb32 =>
.ex [.adr] (c1 λa33=>not b32=false->p17=some a33) (u1 λa34 =>
.hold (not b32=false) (ld T.a26 (Addr.add a34 2)) sL (u1 λl35 =>
.ite (not b32) (
.untick <|
.done 1 [.bool true]) (
.call F.a7 [.pointer p3,.string (ByteArray.mk #[113,45])] sL (u1 λl36 =>
.untick <|
.done 1 [.bool (((l36.len:Nat):Int) != ((l35.len:Nat):Int))]))))))) (u1 λb37 =>
.ite (b37) (
.done 0 [.bool false]) (
.ex [.adr] (c1 λa38=>p17=some a38) (u1 λa39 =>
.read True (ld T.a26 (Addr.add a39 2)) sL (u1 λl40 =>
.bind 1 [] (
.loop 2 [.one (.int .i64)] (0,()) (u1 λ(n41:Int) =>
.ite (decide (n41<((l40.len:Nat):Int))) (
.ex [.adr] (c1 λa42=>0<=n41/\n41<((l40.len:Nat):Int)/\l40.a=some a42) (u1 λa43 =>
.read True (ld T.a37 (Addr.add a43 (Int.toNat n41*3))) (sG [.int .i64,.int .i64,.slc]) (u3 λ(n44 n45:Int) l46 =>
.act (new T.a37) sA (u1 λa47 =>
.actU (st T.a37 a47 (.agg #[.int .i64 n44,.int .i64 n45,l46.v])) <|
.read True (ld T.a11 (Addr.add a47 0)) (sI .i64) (u1 λ(n48:Int) =>
.call F.a102 [.int .i64 n48] sS (u1 λs49 =>
.must (((2+ByteArray.size s49:Nat):Int)<=9223372036854775807) <|
.must (((ByteArray.size ((ByteArray.mk #[113,45])++s49)+4:Nat):Int)<=9223372036854775807) <|
.call F.a8 [.pointer p3,.string ((ByteArray.mk #[113,45])++s49++(ByteArray.mk #[46,108,111,103]))] (.tup [.one .slc,.one (.int .i64)]) (u2 λl50 (n51:Int) =>
.lt (.int .i64) (n51) λ(n52:Int) =>
.bind 3 [.one .bool] (
.tick <|
.hold ((n52 != 0)=false) (convert T.a27 T.a32 l50.v) sS (u1 λs53 =>
.read ((n52 != 0)=false) (ld T.a37 a47) (sG [.int .i64,.int .i64,.slc]) (u3 λ(n54 n55:Int) l56 =>
.ite (n52 != 0) (
.untick <|
.done 3 [.bool true]) (
.call F.a140 [.agg #[.int .i64 n54,.int .i64 n55,l56.v]] sL (u1 λl57 =>
.read True (convert T.a27 T.a32 l57.v) sS (u1 λs58 =>
.untick <|
.done 3 [.bool (not (ByteArray.toList s53 == ByteArray.toList s58))])))))) (u1 λb59 =>
.ite (b59) (
.done 0 [.bool false]) (
.done 2 [.int .i64 (IntKind.wrap .i64 (n41+1))]))))))))) (
.done 1 []))) (u0 <|
.call F.a104 [.string (ByteArray.mk #[107]),.string (ByteArray.mk #[118])] (sG [.int .i64,.int .i64,.int .i64,.int .i64,.int .i64,.int .i64,.slc]) (u7 λ(n60 n61 n62 n63 n64 n65:Int) l66 =>
.act (new T.a1) sA (u1 λa67 =>
.actU (st T.a1 a67 (.agg #[.int .i64 n60,.int .i64 n61,.int .i64 n62,.int .i64 n63,.int .i64 n64,.int .i64 n65,l66.v])) <|
.read True (ld T.a1 a67) (sG [.int .i64,.int .i64,.int .i64,.int .i64,.int .i64,.int .i64,.slc]) (u7 λ(n68 n69 n70 n71 n72 n73:Int) l74 =>
.act (Instr.buildSlice T.a18 1 #[(0,.agg #[.int .i64 n68,.int .i64 n69,.int .i64 n70,.int .i64 n71,.int .i64 n72,.int .i64 n73,l74.v])]) sL (u1 λl75 =>
.call F.a51 [.pointer p29,l75.v] (.tup [.one (.int .i64),.one (.int .i64)]) (u2 λ(n76 n77:Int) =>
.lt (.int .i64) (n76) λ(n78:Int) =>
.lt (.int .i64) (n77) λ(n79:Int) =>
.read True (ld T.a1 a67) (sG [.int .i64,.int .i64,.int .i64,.int .i64,.int .i64,.int .i64,.slc]) (u7 λ(n80 n81 n82 n83 n84 n85:Int) l86 =>
.act (Instr.buildSlice T.a18 1 #[(0,.agg #[.int .i64 n80,.int .i64 n81,.int .i64 n82,.int .i64 n83,.int .i64 n84,.int .i64 n85,l86.v])]) sL (u1 λl87 =>
.call F.a136 [.pointer p17,l87.v] (.tup [.one (.int .i64),.one (.int .i64)]) (u2 λ(n88 n89:Int) =>
.lt (.int .i64) (n88) λ(n90:Int) =>
.lt (.int .i64) (n89) λ(n91:Int) =>
.bind 1 [.one .bool] (
.ite (n78 == n90 && n79 == n91) (
.call F.a105 [.pointer p29,.pointer p17] sB (u1 λb92 =>
.ite (b92) (
.call F.a99 [] sB (u1 λb93 =>
.lt (.bool) (b93) λb94 =>
.done 1 [.bool b94])) (
.done 1 [.bool false]))) (
.done 1 [.bool false])) (u1 λb95 =>
.done 0 [.bool b95])))))))))))))))))))))))))))))))))))
theorem zn0 (seg:Int) (files:Sl) {w:World} {R:List Value->World->Prop} (h:(zwf seg files).wp P (λ_=>True) w λe vs w'=>e=0/\R vs w'):Ret P F.a97 #[.int .i64 seg,.slice files.a files.len files.cap] w R:=dS (n:=158) (rv:=[.tmp 4]) { cnd:=[],blk:=[(0,[])],reg:=[(8,[(71,.one .bool)]),(11,[(96,.one .bool)]),(17,[(125,.one .bool)]),(23,[(4,.one .bool)])],lps:=[(0,[(102,.one (.int .i64))])] } [.val (.int .i64 seg),.val (.slice files.a files.len files.cap)] Go.Proofs.Tryz.func6 (by kernel_rfl) (by kernel_rfl) (by kernel_rfl) (by kernel_rfl) h
def zxe (seg:Int) (gap:Int):Prog :=
.act (new T.a28) sA (u1 λa0 =>
.lt (.int .i64) (Int.tmod seg 400) λ(n1:Int) =>
.lt (.int .i64) (Int.tmod gap 100) λ(n2:Int) =>
.bind 1 [.one (.int .i64)] (
.ite (decide (n1<0)) (
.lt (.int .i64) (IntKind.wrap .i64 (0-n1)) λ(n3:Int) =>
.done 1 [.int .i64 n3]) (
.done 1 [.int .i64 n1])) (u1 λ(n4:Int) =>
.bind 1 [.one (.int .i64)] (
.ite (decide (n2<0)) (
.lt (.int .i64) (IntKind.wrap .i64 (0-n2)) λ(n5:Int) =>
.done 1 [.int .i64 n5]) (
.done 1 [.int .i64 n2])) (u1 λ(n6:Int) =>
.actU (st T.a28 a0 (.agg #[.int .i64 (IntKind.wrap .i64 (64+n4)),.int .i64 (IntKind.wrap .i64 (1+n6))])) <|
.read True (ld T.a28 a0) (sG [.int .i64,.int .i64]) (u2 λ(n7 n8:Int) =>
.done 0 [.agg #[.int .i64 n7,.int .i64 n8]]))))
theorem znd (seg gap:Int) {w:World} {R:List Value->World->Prop} (h:(zxe seg gap).wp P (λ_=>True) w λe vs w'=>e=0/\R vs w'):Ret P F.a100 #[.int .i64 seg,.int .i64 gap] w R:=dS (n:=22) (rv:=[.cell 4 24]) { cnd:=[(25169930,[(0,.one (.int .i64))]),(402661390,[(1,.one (.int .i64))])],blk:=[],reg:=[],lps:=[] } [.val (.int .i64 seg),.val (.int .i64 gap)] Go.Proofs.Tryz.func13 (by kernel_rfl) (by kernel_rfl) (by kernel_rfl) (by kernel_rfl) h
def z00x (room:Int):Prog :=
.ite (decide (room<0) || decide (room>4194304)) (
.done 0 [.pointer none,.int .i64 2]) (
.act (Instr.makeMap T.a12 none) sM (u1 λm0 =>
.act (Instr.box T.a5 (.agg #[.int .i64 (-1),.bool false,.int .i64 room,.int .i64 0,.map m0])) sA (u1 λa1 =>
.done 0 [.pointer (some a1),.int .i64 0])))
theorem zpg (room:Int) {w:World} {R:List Value->World->Prop} (h:(z00x room).wp P (λ_=>True) w λe vs w'=>e=0/\R vs w'):Ret P F.a16 #[.int .i64 room] w R:=dS (n:=15) (rv:=[.tmp 2,.tmp 3]) { cnd:=[],blk:=[],reg:=[],lps:=[] } [.val (.int .i64 room)] Go.Proofs.Tryz.func14 (by kernel_rfl) (by kernel_rfl) (by kernel_rfl) (by kernel_rfl) h
def z83  : Prog :=
.call F.a16 [.int .i64 1000] (.tup [.one .ptr,.one (.int .i64)]) (u2 λp0 (n1:Int) =>
.lt (.int .i64) (n1) λ(n2:Int) =>
.call F.a70 [.pointer p0,.string (ByteArray.mk #[112]),.agg #[.int .i64 64,.int .i64 1]] (.tup [.one .ptr,.one (.int .i64)]) (u2 λp3 (n4:Int) =>
.lt (.int .i64) (n4) λ(n5:Int) =>
.ite (n5 != 0 || Option.isNone p3) (
.done 0 [.bool false]) (
.call F.a104 [.string (ByteArray.mk #[97]),.string (ByteArray.mk #[120])] (sG [.int .i64,.int .i64,.int .i64,.int .i64,.int .i64,.int .i64,.slc]) (u7 λ(n6 n7 n8 n9 n10 n11:Int) l12 =>
.act (Instr.buildSlice T.a18 1 #[(0,.agg #[.int .i64 n6,.int .i64 n7,.int .i64 n8,.int .i64 n9,.int .i64 n10,.int .i64 n11,l12.v])]) sL (u1 λl13 =>
.call F.a51 [.pointer p3,l13.v] (.tup [.one (.int .i64),.one (.int .i64)]) (u2 λ(n14 n15:Int) =>
.lt (.int .i64) (n14) λ(n16:Int) =>
.lt (.int .i64) (n15) λ(n17:Int) =>
.call F.a104 [.string (ByteArray.mk #[97]),.string (ByteArray.mk #[120])] (sG [.int .i64,.int .i64,.int .i64,.int .i64,.int .i64,.int .i64,.slc]) (u7 λ(n18 n19 n20 n21 n22 n23:Int) l24 =>
.act (Instr.buildSlice T.a18 1 #[(0,.agg #[.int .i64 n18,.int .i64 n19,.int .i64 n20,.int .i64 n21,.int .i64 n22,.int .i64 n23,l24.v])]) sL (u1 λl25 =>
.call F.a51 [.pointer p3,l25.v] (.tup [.one (.int .i64),.one (.int .i64)]) (u2 λ(n26 n27:Int) =>
.lt (.int .i64) (n26) λ(n28:Int) =>
.lt (.int .i64) (n27) λ(n29:Int) =>
.call F.a104 [.string (ByteArray.mk #[97]),.string (ByteArray.mk #[120])] (sG [.int .i64,.int .i64,.int .i64,.int .i64,.int .i64,.int .i64,.slc]) (u7 λ(n30 n31 n32 n33 n34 n35:Int) l36 =>
.act (Instr.buildSlice T.a18 1 #[(0,.agg #[.int .i64 n30,.int .i64 n31,.int .i64 n32,.int .i64 n33,.int .i64 n34,.int .i64 n35,l36.v])]) sL (u1 λl37 =>
.call F.a51 [.pointer p3,l37.v] (.tup [.one (.int .i64),.one (.int .i64)]) (u2 λ(n38 n39:Int) =>
.lt (.int .i64) (n38) λ(n40:Int) =>
.lt (.int .i64) (n39) λ(n41:Int) =>
.call F.a57 [.pointer p3] sL (u1 λl42 =>
.call F.a8 [.pointer p0,.string (ByteArray.mk #[112,45,48,48,48,48,48,48,48,48,48,48,48,46,108,111,103])] (.tup [.one .slc,.one (.int .i64)]) (u2 λl43 (n44:Int) =>
.lt (.int .i64) (n44) λ(n45:Int) =>
.ex [.adr] (c1 λa46=>(n16 == 0 && n17 == 0 && n28 == 1 && n29 == 0 && n40 == 2 && n41 == 0 && ((l42.len:Nat):Int) == 2)=true->(0:Int)<=1/\1<((l42.len:Nat):Int)/\l42.a=some a46) (u1 λa47 =>
.read ((n16 == 0 && n17 == 0 && n28 == 1 && n29 == 0 && n40 == 2 && n41 == 0 && ((l42.len:Nat):Int) == 2)=true) (ld T.a11 (Addr.add a47 1)) (sI .i64) (u1 λ(n48:Int) =>
.ex [.adr] (c1 λa49=>(n16 == 0 && n17 == 0 && n28 == 1 && n29 == 0 && n40 == 2 && n41 == 0 && ((l42.len:Nat):Int) == 2 && n48 == 2 && ((l43.len:Nat):Int) == 53)=true->(0:Int)<=0/\0<((l43.len:Nat):Int)/\l43.a=some a49) (u1 λa50 =>
.read ((n16 == 0 && n17 == 0 && n28 == 1 && n29 == 0 && n40 == 2 && n41 == 0 && ((l42.len:Nat):Int) == 2 && n48 == 2 && ((l43.len:Nat):Int) == 53)=true) (ld T.a38 (Addr.add a50 0)) (sI .u8) (u1 λ(n51:Int) =>
.ex [.adr] (c1 λa52=>(n16 == 0 && n17 == 0 && n28 == 1 && n29 == 0 && n40 == 2 && n41 == 0 && ((l42.len:Nat):Int) == 2 && n48 == 2 && ((l43.len:Nat):Int) == 53 && n51 == 3)=true->(0:Int)<=4/\4<((l43.len:Nat):Int)/\l43.a=some a52) (u1 λa53 =>
.read ((n16 == 0 && n17 == 0 && n28 == 1 && n29 == 0 && n40 == 2 && n41 == 0 && ((l42.len:Nat):Int) == 2 && n48 == 2 && ((l43.len:Nat):Int) == 53 && n51 == 3)=true) (ld T.a38 (Addr.add a53 4)) (sI .u8) (u1 λ(n54:Int) =>
.lt (.bool) (n16 == 0 && n17 == 0 && n28 == 1 && n29 == 0 && n40 == 2 && n41 == 0 && ((l42.len:Nat):Int) == 2 && n48 == 2 && ((l43.len:Nat):Int) == 53 && n51 == 3 && n54 == 83) λb55 =>
.done 0 [.bool b55]))))))))))))))))))))
theorem z9c  {w:World} {R:List Value->World->Prop} (h:(z83 ).wp P (λ_=>True) w λe vs w'=>e=0/\R vs w'):Ret P F.a99 #[] w R:=dS (n:=108) (rv:=[.tmp 0]) { cnd:=[],blk:=[],reg:=[],lps:=[] } [] Go.Proofs.Tryz.func17 (by kernel_rfl) (by kernel_rfl) (by kernel_rfl) (by kernel_rfl) h
def zwh (b_0 b_1 b_2 b_3 b_4 b_5:Int) (b_6:Sl):Prog :=
.act (Instr.box T.a1 (.agg #[.int .i64 b_0,.int .i64 b_1,.int .i64 b_2,.int .i64 b_3,.int .i64 b_4,.int .i64 b_5,b_6.v])) sA (u1 λa0 =>
.act (new T.a1) sA (u1 λa1 =>
.read True (ld T.a1 a0) (sG [.int .i64,.int .i64,.int .i64,.int .i64,.int .i64,.int .i64,.slc]) (u7 λ(n2 n3 n4 n5 n6 n7:Int) l8 =>
.act (new T.a1) sA (u1 λa9 =>
.actU (st T.a1 a9 (.agg #[.int .i64 n2,.int .i64 n3,.int .i64 n4,.int .i64 n5,.int .i64 n6,.int .i64 n7,l8.v])) <|
.actU (st T.a19 (Addr.add a9 6) (.slice none 0 0)) <|
.read True (ld T.a19 (Addr.add a0 6)) sL (u1 λl10 =>
.bind 1 [] (
.loop 2 [.one (.int .i64)] (0,()) (u1 λ(n11:Int) =>
.ite (decide (n11<((l10.len:Nat):Int))) (
.ex [.adr] (c1 λa12=>0<=n11/\n11<((l10.len:Nat):Int)/\l10.a=some a12) (u1 λa13 =>
.read True (ld T.a3 (Addr.add a13 (Int.toNat n11*4))) (sG [.str,.str,.bool,.int .i64]) (u4 λs14 s15 b16 (n17:Int) =>
.act (new T.a3) sA (u1 λa18 =>
.lt (.int .i64) (n11) λ(n19:Int) =>
.actU (st T.a3 a18 (.agg #[.string s14,.string s15,.bool b16,.int .i64 n17])) <|
.ite (decide (n19>=6)) (
.done 1 []) (
.read True (ld T.a32 (Addr.add a18 0)) sS (u1 λs20 =>
.bind 3 [] (
.ite (decide (((ByteArray.size s20:Nat):Int)>30)) (
.read True (ld T.a32 (Addr.add a18 0)) sS (u1 λs21 =>
.must ((0:Int)<=30/\30<=((ByteArray.size s21:Nat):Int)) <|
.actU (st T.a32 (Addr.add a18 0) (.string (ByteArray.extract s21 0 30))) <|
.done 3 [])) (
.done 3 [])) (u0 <|
.read True (ld T.a32 (Addr.add a18 1)) sS (u1 λs22 =>
.bind 3 [] (
.ite (decide (((ByteArray.size s22:Nat):Int)>30)) (
.read True (ld T.a32 (Addr.add a18 1)) sS (u1 λs23 =>
.must ((0:Int)<=30/\30<=((ByteArray.size s23:Nat):Int)) <|
.actU (st T.a32 (Addr.add a18 1) (.string (ByteArray.extract s23 0 30))) <|
.done 3 [])) (
.done 3 [])) (u0 <|
.read True (ld T.a19 (Addr.add a9 6)) sL (u1 λl24 =>
.read True (ld T.a3 a18) (sG [.str,.str,.bool,.int .i64]) (u4 λs25 s26 b27 (n28:Int) =>
.act (Instr.buildSlice T.a19 1 #[(0,.agg #[.string s25,.string s26,.bool b27,.int .i64 n28])]) sL (u1 λl29 =>
.act (app T.a19 T.a19 T.a19 l24.v l29.v) sL (u1 λl30 =>
.actU (st T.a19 (Addr.add a9 6) l30.v) <|
.done 2 [.int .i64 (IntKind.wrap .i64 (n11+1))]))))))))))))) (
.done 1 []))) (u0 <|
.read True (ld T.a1 a9) (sG [.int .i64,.int .i64,.int .i64,.int .i64,.int .i64,.int .i64,.slc]) (u7 λ(n31 n32 n33 n34 n35 n36:Int) l37 =>
.actU (st T.a1 a1 (.agg #[.int .i64 n31,.int .i64 n32,.int .i64 n33,.int .i64 n34,.int .i64 n35,.int .i64 n36,l37.v])) <|
.read True (ld T.a1 a1) (sG [.int .i64,.int .i64,.int .i64,.int .i64,.int .i64,.int .i64,.slc]) (u7 λ(n38 n39 n40 n41 n42 n43:Int) l44 =>
.done 0 [.agg #[.int .i64 n38,.int .i64 n39,.int .i64 n40,.int .i64 n41,.int .i64 n42,.int .i64 n43,l44.v]]))))))))
theorem znj (b_0 b_1 b_2 b_3 b_4 b_5:Int) (b_6:Sl) {w:World} {R:List Value->World->Prop} (h:(zwh b_0 b_1 b_2 b_3 b_4 b_5 b_6).wp P (λ_=>True) w λe vs w'=>e=0/\R vs w'):Ret P F.a98 #[.agg #[.int .i64 b_0,.int .i64 b_1,.int .i64 b_2,.int .i64 b_3,.int .i64 b_4,.int .i64 b_5,.slice b_6.a b_6.len b_6.cap]] w R:=dS (n:=42) (rv:=[.cell 2 38]) { cnd:=[(257698037781,[]),(65970697666589,[])],blk:=[(0,[])],reg:=[],lps:=[(0,[(11,.one (.int .i64))])] } [.val (.agg #[.int .i64 b_0,.int .i64 b_1,.int .i64 b_2,.int .i64 b_3,.int .i64 b_4,.int .i64 b_5,.slice b_6.a b_6.len b_6.cap])] Go.Proofs.Tryz.func26 (by kernel_rfl) (by kernel_rfl) (by kernel_rfl) (by kernel_rfl) h
def zxg (l:Option Addr) (bs:Sl):Prog :=
.ite (((bs.len:Nat):Int) == 0) (
.done 0 [.int .i64 0,.int .i64 3]) (
.call F.a139 [.pointer l,bs.v] (.tup [.one .slc,.one (.int .i64)]) (u2 λl0 (n1:Int) =>
.lt (.int .i64) (n1) λ(n2:Int) =>
.ite (n2 != 0) (
.lt (.int .i64) (n2) λ(n3:Int) =>
.done 0 [.int .i64 0,.int .i64 n3]) (
.bind 1 [.one (.int .i64)] (
.loop 2 [.one (.int .i64),.one (.int .i64)] (0,(0,())) (u2 λ(n4 n5:Int) =>
.ite (decide (n5<((l0.len:Nat):Int))) (
.ex [.adr] (c1 λa6=>0<=n5/\n5<((l0.len:Nat):Int)/\l0.a=some a6) (u1 λa7 =>
.read True (ld T.a1 (Addr.add a7 (Int.toNat n5*7))) (sG [.int .i64,.int .i64,.int .i64,.int .i64,.int .i64,.int .i64,.slc]) (u7 λ(n8 n9 n10 n11 n12 n13:Int) l14 =>
.act (new T.a1) sA (u1 λa15 =>
.actU (st T.a1 a15 (.agg #[.int .i64 n8,.int .i64 n9,.int .i64 n10,.int .i64 n11,.int .i64 n12,.int .i64 n13,l14.v])) <|
.read True (ld T.a1 a15) (sG [.int .i64,.int .i64,.int .i64,.int .i64,.int .i64,.int .i64,.slc]) (u7 λ(n16 n17 n18 n19 n20 n21:Int) l22 =>
.call F.a143 [.agg #[.int .i64 n16,.int .i64 n17,.int .i64 n18,.int .i64 n19,.int .i64 n20,.int .i64 n21,l22.v]] (sI .i64) (u1 λ(n23:Int) =>
.lt (.int .i64) (IntKind.wrap .i64 (n4+n23)) λ(n24:Int) =>
.done 2 [.int .i64 n24,.int .i64 (IntKind.wrap .i64 (n5+1))])))))) (
.done 1 [.int .i64 n4]))) (u1 λ(n25:Int) =>
.ex [.adr] (c1 λa26=>l=some a26) (u1 λa27 =>
.read True (ld T.a26 (Addr.add a27 2)) sL (u1 λl28 =>
.lt (.int .i64) (IntKind.wrap .i64 (((l28.len:Nat):Int)-1)) λ(n29:Int) =>
.bind 1 [.one .bool] (
.tick <|
.ex [.adr] (c1 λa30=>decide (n29<0)=false->l=some a30) (u1 λa31 =>
.read (decide (n29<0)=false) (ld T.a26 (Addr.add a31 2)) sL (u1 λl32 =>
.ex [.adr] (c1 λa33=>decide (n29<0)=false->0<=n29/\n29<((l32.len:Nat):Int)/\l32.a=some a33) (u1 λa34 =>
.read (decide (n29<0)=false) (ld T.a18 (Addr.add (Addr.add a34 (Int.toNat n29*3)) 2)) sL (u1 λl35 =>
.ex [.adr] (c1 λa36=>decide (n29<0)=false/\decide (((l35.len:Nat):Int)>0)=true->l=some a36) (u1 λa37 =>
.read (decide (n29<0)=false/\decide (((l35.len:Nat):Int)>0)=true) (ld T.a26 (Addr.add a37 2)) sL (u1 λl38 =>
.ex [.adr] (c1 λa39=>decide (n29<0)=false/\decide (((l35.len:Nat):Int)>0)=true->0<=n29/\n29<((l38.len:Nat):Int)/\l38.a=some a39) (u1 λa40 =>
.read (decide (n29<0)=false/\decide (((l35.len:Nat):Int)>0)=true) (ld T.a37 (Addr.add a40 (Int.toNat n29*3))) (sG [.int .i64,.int .i64,.slc]) (u3 λ(n41 n42:Int) l43 =>
.ex [.adr] (c1 λa44=>decide (n29<0)=false/\decide (((l35.len:Nat):Int)>0)=true->l=some a44) (u1 λa45 =>
.hold (decide (n29<0)=false/\decide (((l35.len:Nat):Int)>0)=true) (ld T.a10 (Addr.add a45 0)) (sI .i64) (u1 λ(n46:Int) =>
.ite (decide (n29<0)) (
.untick <|
.done 1 [.bool true]) (
.ite (decide (((l35.len:Nat):Int)>0)) (
.call F.a142 [.agg #[.int .i64 n41,.int .i64 n42,l43.v]] (sI .i64) (u1 λ(n47:Int) =>
.untick <|
.done 1 [.bool (decide (IntKind.wrap .i64 (n47+n25)>n46))])) (
.untick <|
.done 1 [.bool false]))))))))))))) (u1 λb48 =>
.bind 1 [.one (.int .i64)] (
.ite (b48) (
.ex [.adr] (c1 λa49=>l=some a49) (u1 λa50 =>
.read True (ld T.a26 (Addr.add a50 2)) sL (u1 λl51 =>
.act (app T.a26 T.a26 T.a26 (.slice none 0 0) l51.v) sL (u1 λl52 =>
.call F.a138 [.pointer l] (sI .i64) (u1 λ(n53:Int) =>
.act (Instr.buildSlice T.a26 1 #[(0,.agg #[.int .i64 n53,.int .i64 0,.slice none 0 0])]) sL (u1 λl54 =>
.act (app T.a26 T.a26 T.a26 l52.v l54.v) sL (u1 λl55 =>
.ex [.adr] (c1 λa56=>l=some a56) (u1 λa57 =>
.actU (st T.a26 (Addr.add a57 2) l55.v) <|
.lt (.int .i64) (IntKind.wrap .i64 (n29+1)) λ(n58:Int) =>
.done 1 [.int .i64 n58])))))))) (
.done 1 [.int .i64 n29])) (u1 λ(n59:Int) =>
.ex [.adr] (c1 λa60=>l=some a60) (u1 λa61 =>
.read True (ld T.a26 (Addr.add a61 2)) sL (u1 λl62 =>
.ex [.adr] (c1 λa63=>0<=n59/\n59<((l62.len:Nat):Int)/\l62.a=some a63) (u1 λa64 =>
.read True (ld T.a18 (Addr.add (Addr.add a64 (Int.toNat n59*3)) 2)) sL (u1 λl65 =>
.act (app T.a18 T.a18 T.a18 (.slice none 0 0) l65.v) sL (u1 λl66 =>
.bind 1 [] (
.tick <|
.ex [.adr] (c1 λa67=>l=some a67) (u1 λa68 =>
.hold True (ld T.a26 (Addr.add a68 2)) sL (u1 λl69 =>
.act (app T.a18 T.a18 T.a18 l66.v l0.v) sL (u1 λl70 =>
.ex [.adr] (c1 λa71=>0<=n59/\n59<((l69.len:Nat):Int)/\l69.a=some a71) (u1 λa72 =>
.untick <|
.actU (st T.a18 (Addr.add (Addr.add a72 (Int.toNat n59*3)) 2) l70.v) <|
.untick <|
.done 1 []))))) (u0 <|
.ex [.adr] (c1 λa73=>(0:Int)<=0/\0<((l0.len:Nat):Int)/\l0.a=some a73) (u1 λa74 =>
.read True (ld T.a11 (Addr.add (Addr.add a74 0) 0)) (sI .i64) (u1 λ(n75:Int) =>
.lt (.int .i64) (n75) λ(n76:Int) =>
.done 0 [.int .i64 n76,.int .i64 0]))))))))))))))))
theorem zml (l:Option Addr) (bs:Sl) {w:World} {R:List Value->World->Prop} (h:(zxg l bs).wp P (λ_=>True) w λe vs w'=>e=0/\R vs w'):Ret P F.a136 #[.pointer l,.slice bs.a bs.len bs.cap] w R:=dS (n:=115) (rv:=[.tmp 4,.tmp 5]) { cnd:=[(10141127430573379875706469613641,[(11,.one (.int .i64))])],blk:=[(0,[(8,.one (.int .i64))])],reg:=[(13,[(73,.one .bool)]),(20,[])],lps:=[(0,[(8,.one (.int .i64)),(28,.one (.int .i64))])] } [.val (.pointer l),.val (.slice bs.a bs.len bs.cap)] Go.Proofs.Tryz.func27 (by kernel_rfl) (by kernel_rfl) (by kernel_rfl) (by kernel_rfl) h
def zxa (l:Option Addr) (r:Option Addr):Prog :=
.bind 1 [.one .bool] (
.ite (Option.isNone l) (
.done 1 [.bool true]) (
.call F.a52 [.pointer l] (sI .i64) (u1 λ(n0:Int) =>
.call F.a137 [.pointer r] (sI .i64) (u1 λ(n1:Int) =>
.ite (n0 != n1) (
.done 1 [.bool true]) (
.call F.a53 [.pointer l] (sI .i64) (u1 λ(n2:Int) =>
.call F.a138 [.pointer r] (sI .i64) (u1 λ(n3:Int) =>
.ite (n2 != n3) (
.done 1 [.bool true]) (
.call F.a50 [.pointer l] sL (u1 λl4 =>
.call F.a135 [.pointer r] sL (u1 λl5 =>
.call F.a127 [l4.v,l5.v] sB (u1 λb6 =>
.done 1 [.bool (not b6)]))))))))))) (u1 λb7 =>
.ite (b7) (
.done 0 [.bool false]) (
.call F.a57 [.pointer l] sL (u1 λl8 =>
.ex [.adr] (c1 λa9=>r=some a9) (u1 λa10 =>
.read True (ld T.a26 (Addr.add a10 2)) sL (u1 λl11 =>
.ite (((l8.len:Nat):Int) != ((l11.len:Nat):Int)) (
.done 0 [.bool false]) (
.bind 1 [] (
.loop 2 [.one (.int .i64)] (0,()) (u1 λ(n12:Int) =>
.ite (decide (n12<((l8.len:Nat):Int))) (
.lt (.int .i64) (n12) λ(n13:Int) =>
.tick <|
.ex [.adr] (c1 λa14=>0<=n13/\n13<((l8.len:Nat):Int)/\l8.a=some a14) (u1 λa15 =>
.read True (ld T.a11 (Addr.add a15 (Int.toNat n13*1))) (sI .i64) (u1 λ(n16:Int) =>
.ex [.adr] (c1 λa17=>r=some a17) (u1 λa18 =>
.read True (ld T.a26 (Addr.add a18 2)) sL (u1 λl19 =>
.ex [.adr] (c1 λa20=>0<=n13/\n13<((l19.len:Nat):Int)/\l19.a=some a20) (u1 λa21 =>
.read True (ld T.a11 (Addr.add (Addr.add a21 (Int.toNat n13*3)) 0)) (sI .i64) (u1 λ(n22:Int) =>
.untick <|
.ite (n16 != n22) (
.done 0 [.bool false]) (
.done 2 [.int .i64 (IntKind.wrap .i64 (n12+1))])))))))) (
.done 1 []))) (u0 <|
.done 0 [.bool true])))))))
theorem zmi (l r:Option Addr) {w:World} {R:List Value->World->Prop} (h:(zxa l r).wp P (λ_=>True) w λe vs w'=>e=0/\R vs w'):Ret P F.a105 #[.pointer l,.pointer r] w R:=dS (n:=60) (rv:=[.tmp 4]) { cnd:=[],blk:=[(0,[])],reg:=[(1,[(30,.one .bool)])],lps:=[(0,[(43,.one (.int .i64))])] } [.val (.pointer l),.val (.pointer r)] Go.Proofs.Tryz.func28 (by kernel_rfl) (by kernel_rfl) (by kernel_rfl) (by kernel_rfl) h
def zx3 (d:Option Addr) (files:Sl):Prog :=
.bind 1 [.one .slc] (
.loop 2 [.one .slc,.one (.int .i64)] (⟨none,0,0⟩,(0,())) (u2 λl0 (n1:Int) =>
.ite (decide (n1<((files.len:Nat):Int))) (
.bind 3 [.one .slc] (
.ex [.adr] (c1 λa2=>0<=n1/\n1<((files.len:Nat):Int)/\files.a=some a2) (u1 λa3 =>
.read True (ld T.a33 (Addr.add a3 (Int.toNat n1*6))) (sG [.int .i64,.bool,.int .i64,.int .i64,.slc,.slc]) (u6 λ(n4:Int) b5 (n6 n7:Int) l8 l9 =>
.act (new T.a33) sA (u1 λa10 =>
.lt (.int .i64) (n1) λ(n11:Int) =>
.actU (st T.a33 a10 (.agg #[.int .i64 n4,.bool b5,.int .i64 n6,.int .i64 n7,l8.v,l9.v])) <|
.ite (decide (n11>=6)) (
.done 1 [l0.v]) (
.read True (ld T.a11 (Addr.add a10 0)) (sI .i64) (u1 λ(n12:Int) =>
.lt (.int .i64) (Int.tmod n12 17592186044416) λ(n13:Int) =>
.bind 4 [.one (.int .i64)] (
.ite (decide (n13<0)) (
.lt (.int .i64) (IntKind.wrap .i64 (0-n13)) λ(n14:Int) =>
.done 4 [.int .i64 n14]) (
.done 4 [.int .i64 n13])) (u1 λ(n15:Int) =>
.read True (ld T.a4 (Addr.add a10 1)) sB (u1 λb16 =>
.bind 4 [.one .slc] (
.ite (b16) (
.read True (ld T.a11 (Addr.add a10 2)) (sI .i64) (u1 λ(n17:Int) =>
.read True (ld T.a11 (Addr.add a10 3)) (sI .i64) (u1 λ(n18:Int) =>
.call F.a134 [.int .i64 n17,.int .i64 n18] sL (u1 λl19 =>
.read True (ld T.a18 (Addr.add a10 4)) sL (u1 λl20 =>
.call F.a101 [l20.v] sL (u1 λl21 =>
.bind 5 [.one .slc] (
.loop 6 [.one .slc,.one (.int .i64)] ({ a:=l19.a,len:=l19.len,cap:=l19.cap },(0,())) (u2 λl22 (n23:Int) =>
.ite (decide (n23<((l21.len:Nat):Int))) (
.ex [.adr] (c1 λa24=>0<=n23/\n23<((l21.len:Nat):Int)/\l21.a=some a24) (u1 λa25 =>
.read True (ld T.a1 (Addr.add a25 (Int.toNat n23*7))) (sG [.int .i64,.int .i64,.int .i64,.int .i64,.int .i64,.int .i64,.slc]) (u7 λ(n26 n27 n28 n29 n30 n31:Int) l32 =>
.act (new T.a1) sA (u1 λa33 =>
.actU (st T.a1 a33 (.agg #[.int .i64 n26,.int .i64 n27,.int .i64 n28,.int .i64 n29,.int .i64 n30,.int .i64 n31,l32.v])) <|
.read True (ld T.a1 a33) (sG [.int .i64,.int .i64,.int .i64,.int .i64,.int .i64,.int .i64,.slc]) (u7 λ(n34 n35 n36 n37 n38 n39:Int) l40 =>
.call F.a124 [.agg #[.int .i64 n34,.int .i64 n35,.int .i64 n36,.int .i64 n37,.int .i64 n38,.int .i64 n39,l40.v]] (.tup [.one .slc,.one (.int .i64)]) (u2 λl41 (n42:Int) =>
.lt (.int .i64) (n42) λ(n43:Int) =>
.bind 7 [.one .slc] (
.ite (n43 == 0) (
.call F.a120 [l41.v] sL (u1 λl44 =>
.act (app T.a27 T.a27 T.a27 l22.v l44.v) sL (u1 λl45 =>
.done 7 [l45.v]))) (
.done 7 [l22.v])) (u1 λl46 =>
.done 6 [l46.v,.int .i64 (IntKind.wrap .i64 (n23+1))]))))))) (
.done 5 [l22.v]))) (u1 λl47 =>
.done 4 [l47.v]))))))) (
.done 4 [.slice none 0 0])) (u1 λl48 =>
.read True (ld T.a27 (Addr.add a10 5)) sL (u1 λl49 =>
.bind 4 [.one .slc] (
.ite (decide (((l49.len:Nat):Int)>60)) (
.must ((0:Int)<=60/\60<=((l49.cap:Nat):Int)) <|
.done 4 [.slice l49.a 60 l49.cap]) (
.done 4 [l49.v])) (u1 λl50 =>
.act (app T.a27 T.a27 T.a27 l48.v l50.v) sL (u1 λl51 =>
.bind 4 [.one .bool] (
.loop 5 [.one .bool,.one (.int .i64)] (false,(0,())) (u2 λb52 (n53:Int) =>
.ite (decide (n53<((l0.len:Nat):Int))) (
.ex [.adr] (c1 λa54=>0<=n53/\n53<((l0.len:Nat):Int)/\l0.a=some a54) (u1 λa55 =>
.read True (ld T.a36 (Addr.add a55 (Int.toNat n53*2))) (sG [.int .i64,.slc]) (u2 λ(n56:Int) l57 =>
.act (new T.a36) sA (u1 λa58 =>
.actU (st T.a36 a58 (.agg #[.int .i64 n56,l57.v])) <|
.read (b52=false) (ld T.a11 (Addr.add a58 0)) (sI .i64) (u1 λ(n59:Int) =>
.lt (.bool) (b52 || n59 == n15) λb60 =>
.done 5 [.bool b60,.int .i64 (IntKind.wrap .i64 (n53+1))]))))) (
.done 4 [.bool b52]))) (u1 λb61 =>
.bind 4 [.one .bool] (
.ite (b61) (
.done 4 [.bool true]) (
.call F.a102 [.int .i64 n15] sS (u1 λs62 =>
.must (((2+ByteArray.size s62:Nat):Int)<=9223372036854775807) <|
.must (((ByteArray.size ((ByteArray.mk #[113,45])++s62)+4:Nat):Int)<=9223372036854775807) <|
.act (Instr.buildSlice T.a23 1 #[(0,l51.v)]) sL (u1 λl63 =>
.call F.a3 [.pointer d,.string ((ByteArray.mk #[113,45])++s62++(ByteArray.mk #[46,108,111,103])),l63.v] (sI .i64) (u1 λ(n64:Int) =>
.done 4 [.bool (n64 != 0)]))))) (u1 λb65 =>
.ite (b65) (
.done 3 [l0.v]) (
.bind 4 [.one .slc,.one .bool] (
.loop 5 [.one .slc,.one .bool,.one (.int .i64)] (⟨none,0,0⟩,(false,(0,()))) (u3 λl66 b67 (n68:Int) =>
.ite (decide (n68<((l0.len:Nat):Int))) (
.ex [.adr] (c1 λa69=>0<=n68/\n68<((l0.len:Nat):Int)/\l0.a=some a69) (u1 λa70 =>
.read True (ld T.a36 (Addr.add a70 (Int.toNat n68*2))) (sG [.int .i64,.slc]) (u2 λ(n71:Int) l72 =>
.act (new T.a36) sA (u1 λa73 =>
.actU (st T.a36 a73 (.agg #[.int .i64 n71,l72.v])) <|
.read (not b67=true) (ld T.a11 (Addr.add a73 0)) (sI .i64) (u1 λ(n74:Int) =>
.bind 6 [.one .slc,.one .bool] (
.ite (not b67 && decide (n74>n15)) (
.act (Instr.buildSlice T.a25 1 #[(0,.agg #[.int .i64 n15,l51.v])]) sL (u1 λl75 =>
.act (app T.a25 T.a25 T.a25 l66.v l75.v) sL (u1 λl76 =>
.done 6 [l76.v,.bool true]))) (
.done 6 [l66.v,.bool b67])) (u2 λl77 b78 =>
.read True (ld T.a36 a73) (sG [.int .i64,.slc]) (u2 λ(n79:Int) l80 =>
.act (Instr.buildSlice T.a25 1 #[(0,.agg #[.int .i64 n79,l80.v])]) sL (u1 λl81 =>
.act (app T.a25 T.a25 T.a25 l77.v l81.v) sL (u1 λl82 =>
.done 5 [l82.v,.bool b78,.int .i64 (IntKind.wrap .i64 (n68+1))]))))))))) (
.done 4 [l66.v,.bool b67]))) (u2 λl83 b84 =>
.bind 4 [.one .slc] (
.ite (not b84) (
.act (Instr.buildSlice T.a25 1 #[(0,.agg #[.int .i64 n15,l51.v])]) sL (u1 λl85 =>
.act (app T.a25 T.a25 T.a25 l83.v l85.v) sL (u1 λl86 =>
.done 4 [l86.v]))) (
.done 4 [l83.v])) (u1 λl87 =>
.done 3 [l87.v]))))))))))))))))) (u1 λl88 =>
.done 2 [l88.v,.int .i64 (IntKind.wrap .i64 (n1+1))])) (
.done 1 [l0.v]))) (u1 λl89 =>
.done 0 [l89.v])
theorem znb (d:Option Addr) (files:Sl) {w:World} {R:List Value->World->Prop} (h:(zx3 d files).wp P (λ_=>True) w λe vs w'=>e=0/\R vs w'):Ret P F.a103 #[.pointer d,.slice files.a files.len files.cap] w R:=dS (n:=137) (rv:=[.tmp 4]) { cnd:=[(844424931180579,[(8,.one (.int .i64))]),(70835497243044680302651,[(9,.one .slc)]),(151115722948229080285223,[(9,.one .slc)]),(14507109835375550163583045,[(14,.one .slc)]),(10718894558009561599096300134103919886450,[(18,.one .slc),(19,.one .bool)]),(87809184219214328619796890698552924503539839,[(18,.one .slc)])],blk:=[(0,[(5,.one .slc)]),(1,[(5,.one .slc)]),(2,[(9,.one .slc)]),(4,[(15,.one .bool)]),(6,[(18,.one .slc),(19,.one .bool)])],reg:=[(29,[(100,.one .bool)])],lps:=[(0,[(5,.one .slc),(24,.one (.int .i64))]),(2,[(9,.one .slc),(49,.one (.int .i64))]),(4,[(15,.one .bool),(77,.one (.int .i64))]),(6,[(18,.one .slc),(19,.one .bool),(103,.one (.int .i64))])] } [.val (.pointer d),.val (.slice files.a files.len files.cap)] Go.Proofs.Tryz.func29 (by kernel_rfl) (by kernel_rfl) (by kernel_rfl) (by kernel_rfl) h
def zf4 (d:Option Addr) (name:ByteArray) (parts:Sl):Prog :=
.call F.a14 [.pointer d] (sI .i64) (u1 λ(n0:Int) =>
.lt (.int .i64) (n0) λ(n1:Int) =>
.ite (n1 != 0) (
.lt (.int .i64) (n1) λ(n2:Int) =>
.done 0 [.int .i64 n2]) (
.call F.a15 [.string name] sB (u1 λb3 =>
.ite (not b3) (
.done 0 [.int .i64 2]) (
.bind 1 [.one (.int .i64)] (
.loop 2 [.one (.int .i64),.one (.int .i64)] (0,(0,())) (u2 λ(n4 n5:Int) =>
.ite (decide (n5<((parts.len:Nat):Int))) (
.ex [.adr] (c1 λa6=>0<=n5/\n5<((parts.len:Nat):Int)/\parts.a=some a6) (u1 λa7 =>
.read True (ld T.a27 (Addr.add a7 (Int.toNat n5*1))) sL (u1 λl8 =>
.call F.a5 [.pointer d] (sI .i64) (u1 λ(n9:Int) =>
.ite (decide (((l8.len:Nat):Int)>IntKind.wrap .i64 (n9-n4))) (
.done 0 [.int .i64 5]) (
.lt (.int .i64) (IntKind.wrap .i64 (n4+((l8.len:Nat):Int))) λ(n10:Int) =>
.done 2 [.int .i64 n10,.int .i64 (IntKind.wrap .i64 (n5+1))]))))) (
.done 1 [.int .i64 n4]))) (u1 λ(n11:Int) =>
.ex [.adr] (c1 λa12=>d=some a12) (u1 λa13 =>
.read True (ld T.a12 (Addr.add a13 4)) sM (u1 λm14 =>
.read True (Instr.lookup T.a12 (.map m14) (.string name) true) (.tup [.one .ptr,.one .bool]) (u2 λp15 b16 =>
.lt (.bool) (b16) λb17 =>
.bind 1 [.one .ptr] (
.ite (not b17) (
.ex [.adr] (c1 λa18=>d=some a18) (u1 λa19 =>
.read True (ld T.a12 (Addr.add a19 4)) sM (u1 λm20 =>
.read True (Builtin.len_ #[T.a12] T.a10 #[.map m20]) (sI .i64) (u1 λ(n21:Int) =>
.ite (decide (n21>=128)) (
.done 0 [.int .i64 5]) (
.act (Instr.box T.a6 (.agg #[.slice none 0 0,.int .i64 0])) sA (u1 λa22 =>
.ex [.adr] (c1 λa23=>d=some a23) (u1 λa24 =>
.read True (ld T.a12 (Addr.add a24 4)) sM (u1 λm25 =>
.actU (Instr.mapUpdate T.a12 (.map m25) (.string name) (.pointer (some a22))) <|
.done 1 [.pointer (some a22)])))))))) (
.done 1 [.pointer p15])) (u1 λp26 =>
.bind 1 [] (
.loop 2 [.one (.int .i64)] (0,()) (u1 λ(n27:Int) =>
.ite (decide (n27<((parts.len:Nat):Int))) (
.ex [.adr] (c1 λa28=>0<=n27/\n27<((parts.len:Nat):Int)/\parts.a=some a28) (u1 λa29 =>
.read True (ld T.a27 (Addr.add a29 (Int.toNat n27*1))) sL (u1 λl30 =>
.ex [.adr] (c1 λa31=>p26=some a31) (u1 λa32 =>
.read True (ld T.a27 (Addr.add a32 0)) sL (u1 λl33 =>
.act (app T.a27 T.a27 T.a27 l33.v l30.v) sL (u1 λl34 =>
.ex [.adr] (c1 λa35=>p26=some a35) (u1 λa36 =>
.actU (st T.a27 (Addr.add a36 0) l34.v) <|
.done 2 [.int .i64 (IntKind.wrap .i64 (n27+1))]))))))) (
.done 1 []))) (u0 <|
.ex [.adr] (c1 λa37=>d=some a37) (u1 λa38 =>
.read True (ld T.a10 (Addr.add a38 3)) (sI .i64) (u1 λ(n39:Int) =>
.ex [.adr] (c1 λa40=>d=some a40) (u1 λa41 =>
.actU (st T.a10 (Addr.add a41 3) (.int .i64 (IntKind.wrap .i64 (n39+n11)))) <|
.ex [.adr] (c1 λa42=>d=some a42) (u1 λa43 =>
.call F.a17 [.pointer (some (Addr.add a43 0))] (.tup []) (u0 <|
.done 0 [.int .i64 0])))))))))))))))
theorem ztt (d:Option Addr) (name:ByteArray) (parts:Sl) {w:World} {R:List Value->World->Prop} (h:(zf4 d name parts).wp P (λ_=>True) w λe vs w'=>e=0/\R vs w'):Ret P F.a3 #[.pointer d,.string name,.slice parts.a parts.len parts.cap] w R:=dS (n:=96) (rv:=[.tmp 6]) { cnd:=[(604426016319167176900660,[(11,.one .ptr)])],blk:=[(0,[(8,.one (.int .i64))]),(2,[])],reg:=[],lps:=[(0,[(8,.one (.int .i64)),(26,.one (.int .i64))]),(2,[(69,.one (.int .i64))])] } [.val (.pointer d),.val (.string name),.val (.slice parts.a parts.len parts.cap)] Go.Proofs.Tryz.func30 (by kernel_rfl) (by kernel_rfl) (by kernel_rfl) (by kernel_rfl) h
def zxt (seg gap:Int) (files:Sl):Prog :=
.act (Instr.box T.a35 (.agg #[.int .i64 seg,.int .i64 gap,.slice none 0 0])) sA (u1 λa0 =>
.bind 1 [] (
.loop 2 [.one (.int .i64)] (0,()) (u1 λ(n1:Int) =>
.ite (decide (n1<((files.len:Nat):Int))) (
.bind 3 [] (
.ex [.adr] (c1 λa2=>0<=n1/\n1<((files.len:Nat):Int)/\files.a=some a2) (u1 λa3 =>
.read True (ld T.a36 (Addr.add a3 (Int.toNat n1*2))) (sG [.int .i64,.slc]) (u2 λ(n4:Int) l5 =>
.act (new T.a36) sA (u1 λa6 =>
.actU (st T.a36 a6 (.agg #[.int .i64 n4,l5.v])) <|
.tick <|
.hold True (ld T.a11 (Addr.add a6 0)) (sI .i64) (u1 λ(n7:Int) =>
.call F.a138 [.pointer (some a0)] (sI .i64) (u1 λ(n8:Int) =>
.untick <|
.ite (decide (n7<n8)) (
.done 3 []) (
.read True (ld T.a27 (Addr.add a6 1)) sL (u1 λl9 =>
.call F.a119 [l9.v] (.tup [.one .slc,.one (.int .i64)]) (u2 λl10 (n11:Int) =>
.lt (.int .i64) (n11) λ(n12:Int) =>
.ite (n12 == 0) (
.done 0 [.pointer (some a0)]) (
.read True (ld T.a11 (Addr.add a6 0)) (sI .i64) (u1 λ(n13:Int) =>
.call F.a144 [l10.v,.int .i64 n13] (.tup [.one (.int .i64),.one .bool]) (u2 λ(n14:Int) b15 =>
.lt (.int .i64) (n14) λ(n16:Int) =>
.lt (.bool) (b15) λb17 =>
.ite (not b17) (
.done 0 [.pointer (some a0)]) (
.read True (ld T.a11 (Addr.add a6 0)) (sI .i64) (u1 λ(n18:Int) =>
.act (new T.a37) sA (u1 λa19 =>
.actU (st T.a37 a19 (.agg #[.int .i64 n18,.int .i64 n16,.slice none 0 0])) <|
.read True (ld T.a11 (Addr.add a6 0)) (sI .i64) (u1 λ(n20:Int) =>
.lt (.int .i64) (n20) λ(n21:Int) =>
.bind 4 [.one (.int .i64)] (
.loop 5 [.one (.int .i64),.one (.int .i64)] (n12,(n21,())) (u2 λ(n22 n23:Int) =>
.read True (ld T.a27 (Addr.add a6 1)) sL (u1 λl24 =>
.must (0<=n22/\n22<=((l24.len:Nat):Int)) <|
.call F.a119 [.slice (z1g l24.a 1 (Int.toNat n22) l24.cap) (l24.len-Int.toNat n22) (l24.cap-Int.toNat n22)] (.tup [.one .slc,.one (.int .i64)]) (u2 λl25 (n26:Int) =>
.lt (.int .i64) (n26) λ(n27:Int) =>
.call F.a123 [l25.v] (.tup [.agg [.int .i64,.int .i64,.int .i64,.int .i64,.int .i64,.int .i64,.slc],.one (.int .i64)]) (u8 λ(n28 n29 n30 n31 n32 n33:Int) l34 (n35:Int) =>
.act (new T.a1) sA (u1 λa36 =>
.actU (st T.a1 a36 (.agg #[.int .i64 n28,.int .i64 n29,.int .i64 n30,.int .i64 n31,.int .i64 n32,.int .i64 n33,l34.v])) <|
.lt (.int .i64) (n35) λ(n37:Int) =>
.read ((n27 == 0 || n37 != 0)=false) (ld T.a11 (Addr.add a36 0)) (sI .i64) (u1 λ(n38:Int) =>
.ite (n27 == 0 || n37 != 0 || decide (n38<n23)) (
.done 4 [.int .i64 n22]) (
.read True (ld T.a18 (Addr.add a19 2)) sL (u1 λl39 =>
.read True (ld T.a1 a36) (sG [.int .i64,.int .i64,.int .i64,.int .i64,.int .i64,.int .i64,.slc]) (u7 λ(n40 n41 n42 n43 n44 n45:Int) l46 =>
.act (Instr.buildSlice T.a18 1 #[(0,.agg #[.int .i64 n40,.int .i64 n41,.int .i64 n42,.int .i64 n43,.int .i64 n44,.int .i64 n45,l46.v])]) sL (u1 λl47 =>
.act (app T.a18 T.a18 T.a18 l39.v l47.v) sL (u1 λl48 =>
.actU (st T.a18 (Addr.add a19 2) l48.v) <|
.tick <|
.hold True (ld T.a11 (Addr.add a36 0)) (sI .i64) (u1 λ(n49:Int) =>
.read True (ld T.a1 a36) (sG [.int .i64,.int .i64,.int .i64,.int .i64,.int .i64,.int .i64,.slc]) (u7 λ(n50 n51 n52 n53 n54 n55:Int) l56 =>
.call F.a128 [.agg #[.int .i64 n50,.int .i64 n51,.int .i64 n52,.int .i64 n53,.int .i64 n54,.int .i64 n55,l56.v]] (sI .i64) (u1 λ(n57:Int) =>
.lt (.int .i64) (IntKind.wrap .i64 (n49+n57)) λ(n58:Int) =>
.untick <|
.lt (.int .i64) (IntKind.wrap .i64 (n22+n27)) λ(n59:Int) =>
.done 5 [.int .i64 n59,.int .i64 n58]))))))))))))))) (u1 λ(n60:Int) =>
.read True (ld T.a26 (Addr.add a0 2)) sL (u1 λl61 =>
.act (app T.a26 T.a26 T.a26 (.slice none 0 0) l61.v) sL (u1 λl62 =>
.read True (ld T.a37 a19) (sG [.int .i64,.int .i64,.slc]) (u3 λ(n63 n64:Int) l65 =>
.act (Instr.buildSlice T.a26 1 #[(0,.agg #[.int .i64 n63,.int .i64 n64,l65.v])]) sL (u1 λl66 =>
.act (app T.a26 T.a26 T.a26 l62.v l66.v) sL (u1 λl67 =>
.actU (st T.a26 (Addr.add a0 2) l67.v) <|
.read True (ld T.a27 (Addr.add a6 1)) sL (u1 λl68 =>
.ite (decide (n60<((l68.len:Nat):Int))) (
.done 0 [.pointer (some a0)]) (
.done 3 [])))))))))))))))))))))))) (u0 <|
.done 2 [.int .i64 (IntKind.wrap .i64 (n1+1))])) (
.done 1 []))) (u0 <|
.done 0 [.pointer (some a0)]))
theorem zlm (seg gap:Int) (files:Sl) {w:World} {R:List Value->World->Prop} (h:(zxt seg gap files).wp P (λ_=>True) w λe vs w'=>e=0/\R vs w'):Ret P F.a133 #[.int .i64 seg,.int .i64 gap,.slice files.a files.len files.cap] w R:=dS (n:=121) (rv:=[.tmp 6]) { cnd:=[],blk:=[(0,[]),(1,[]),(2,[(11,.one (.int .i64))])],reg:=[],lps:=[(0,[(27,.one (.int .i64))]),(2,[(11,.one (.int .i64)),(15,.one (.int .i64))])] } [.val (.int .i64 seg),.val (.int .i64 gap),.val (.slice files.a files.len files.cap)] Go.Proofs.Tryz.func31 (by kernel_rfl) (by kernel_rfl) (by kernel_rfl) (by kernel_rfl) h
def z00z (d:Option Addr) (name:ByteArray):Prog :=
.call F.a12 [.pointer d,.string name] (sG [.slc,.int .i64]) (u2 λl0 (n1:Int) =>
.lt (.int .i64) (((l0.len:Nat):Int)) λ(n2:Int) =>
.done 0 [.int .i64 n2])
theorem zpj (d:Option Addr) (name:ByteArray) {w:World} {R:List Value->World->Prop} (h:(z00z d name).wp P (λ_=>True) w λe vs w'=>e=0/\R vs w'):Ret P F.a10 #[.pointer d,.string name] w R:=dS (n:=10) (rv:=[.tmp 4]) { cnd:=[],blk:=[],reg:=[],lps:=[] } [.val (.pointer d),.val (.string name)] Go.Proofs.Tryz.func32 (by kernel_rfl) (by kernel_rfl) (by kernel_rfl) (by kernel_rfl) h
def zf8 (d:Option Addr) (name:ByteArray):Prog :=
.ite (Option.isNone d) (
.done 0 [.slice none 0 0,.int .i64 1]) (
.ex [.adr] (c1 λa0=>d=some a0) (u1 λa1 =>
.read True (ld T.a12 (Addr.add a1 4)) sM (u1 λm2 =>
.read True (Instr.lookup T.a12 (.map m2) (.string name) false) sP (u1 λp3 =>
.ite (Option.isNone p3) (
.done 0 [.slice none 0 0,.int .i64 3]) (
.ex [.adr] (c1 λa4=>p3=some a4) (u1 λa5 =>
.read True (ld T.a27 (Addr.add a5 0)) sL (u1 λl6 =>
.call F.a0 [l6.v] sL (u1 λl7 =>
.done 0 [l7.v,.int .i64 0]))))))))
theorem zta (d:Option Addr) (name:ByteArray) {w:World} {R:List Value->World->Prop} (h:(zf8 d name).wp P (λ_=>True) w λe vs w'=>e=0/\R vs w'):Ret P F.a8 #[.pointer d,.string name] w R:=dS (n:=22) (rv:=[.tmp 4,.tmp 5]) { cnd:=[],blk:=[],reg:=[],lps:=[] } [.val (.pointer d),.val (.string name)] Go.Proofs.Tryz.func34 (by kernel_rfl) (by kernel_rfl) (by kernel_rfl) (by kernel_rfl) h
def zx9 (n:Int):Prog :=
.bind 1 [.one .str] (
.loop 2 [.one (.int .i64),.one .str,.one (.int .i64)] (n,((ByteArray.mk #[]),(0,()))) (u3 λ(n0:Int) s1 (n2:Int) =>
.ite (decide (n2<11)) (
.must (0<=Int.tmod n0 16/\Int.tmod n0 16<=IntKind.wrap .i64 (Int.tmod n0 16+1)/\IntKind.wrap .i64 (Int.tmod n0 16+1)<=16) <|
.must (((ByteArray.size (ByteArray.extract (ByteArray.mk #[48,49,50,51,52,53,54,55,56,57,97,98,99,100,101,102]) (Int.toNat (Int.tmod n0 16)) (Int.toNat (IntKind.wrap .i64 (Int.tmod n0 16+1))))+ByteArray.size s1:Nat):Int)<=9223372036854775807) <|
.lt (.str) (ByteArray.extract (ByteArray.mk #[48,49,50,51,52,53,54,55,56,57,97,98,99,100,101,102]) (Int.toNat (Int.tmod n0 16)) (Int.toNat (IntKind.wrap .i64 (Int.tmod n0 16+1)))++s1) λs3 =>
.lt (.int .i64) (IntKind.wrap .i64 (Int.tdiv n0 16)) λ(n4:Int) =>
.lt (.int .i64) (IntKind.wrap .i64 (n2+1)) λ(n5:Int) =>
.done 2 [.int .i64 n4,.string s3,.int .i64 n5]) (
.done 1 [.string s1]))) (u1 λs6 =>
.lt (.str) (s6) λs7 =>
.done 0 [.string s7])
theorem zmd (n:Int) {w:World} {R:List Value->World->Prop} (h:(zx9 n).wp P (λ_=>True) w λe vs w'=>e=0/\R vs w'):Ret P F.a102 #[.int .i64 n] w R:=dS (n:=20) (rv:=[.tmp 2]) { cnd:=[],blk:=[(0,[(3,.one .str)])],reg:=[],lps:=[(0,[(0,.one (.int .i64)),(3,.one .str),(4,.one (.int .i64))])] } [.val (.int .i64 n)] Go.Proofs.Tryz.func35 (by kernel_rfl) (by kernel_rfl) (by kernel_rfl) (by kernel_rfl) h
def zwo (s_0 s_1:Int) (s_2:Sl):Prog :=
.act (Instr.box T.a37 (.agg #[.int .i64 s_0,.int .i64 s_1,s_2.v])) sA (u1 λa0 =>
.read True (ld T.a11 (Addr.add a0 0)) (sI .i64) (u1 λ(n1:Int) =>
.read True (ld T.a11 (Addr.add a0 1)) (sI .i64) (u1 λ(n2:Int) =>
.call F.a134 [.int .i64 n1,.int .i64 n2] sL (u1 λl3 =>
.read True (ld T.a18 (Addr.add a0 2)) sL (u1 λl4 =>
.bind 1 [.one .slc] (
.loop 2 [.one .slc,.one (.int .i64)] ({ a:=l3.a,len:=l3.len,cap:=l3.cap },(0,())) (u2 λl5 (n6:Int) =>
.ite (decide (n6<((l4.len:Nat):Int))) (
.ex [.adr] (c1 λa7=>0<=n6/\n6<((l4.len:Nat):Int)/\l4.a=some a7) (u1 λa8 =>
.read True (ld T.a1 (Addr.add a8 (Int.toNat n6*7))) (sG [.int .i64,.int .i64,.int .i64,.int .i64,.int .i64,.int .i64,.slc]) (u7 λ(n9 n10 n11 n12 n13 n14:Int) l15 =>
.act (new T.a1) sA (u1 λa16 =>
.actU (st T.a1 a16 (.agg #[.int .i64 n9,.int .i64 n10,.int .i64 n11,.int .i64 n12,.int .i64 n13,.int .i64 n14,l15.v])) <|
.read True (ld T.a1 a16) (sG [.int .i64,.int .i64,.int .i64,.int .i64,.int .i64,.int .i64,.slc]) (u7 λ(n17 n18 n19 n20 n21 n22:Int) l23 =>
.call F.a124 [.agg #[.int .i64 n17,.int .i64 n18,.int .i64 n19,.int .i64 n20,.int .i64 n21,.int .i64 n22,l23.v]] (.tup [.one .slc,.one (.int .i64)]) (u2 λl24 (n25:Int) =>
.lt (.int .i64) (n25) λ(n26:Int) =>
.call F.a120 [l24.v] sL (u1 λl27 =>
.act (app T.a27 T.a27 T.a27 l5.v l27.v) sL (u1 λl28 =>
.done 2 [l28.v,.int .i64 (IntKind.wrap .i64 (n6+1))])))))))) (
.done 1 [l5.v]))) (u1 λl29 =>
.done 0 [l29.v]))))))
theorem zmg (s_0 s_1:Int) (s_2:Sl) {w:World} {R:List Value->World->Prop} (h:(zwo s_0 s_1 s_2).wp P (λ_=>True) w λe vs w'=>e=0/\R vs w'):Ret P F.a140 #[.agg #[.int .i64 s_0,.int .i64 s_1,.slice s_2.a s_2.len s_2.cap]] w R:=dS (n:=31) (rv:=[.tmp 2]) { cnd:=[],blk:=[(0,[(3,.one .slc)])],reg:=[],lps:=[(0,[(3,.one .slc),(16,.one (.int .i64))])] } [.val (.agg #[.int .i64 s_0,.int .i64 s_1,.slice s_2.a s_2.len s_2.cap])] Go.Proofs.Tryz.func36 (by kernel_rfl) (by kernel_rfl) (by kernel_rfl) (by kernel_rfl) h
def zwj (key:ByteArray) (value:ByteArray):Prog :=
.act (new T.a1) sA (u1 λa0 =>
.act (Instr.buildSlice T.a19 1 #[(0,.agg #[.string key,.string value,.bool false,.int .i64 0])]) sL (u1 λl1 =>
.actU (st T.a1 a0 (.agg #[.int .i64 0,.int .i64 0,.int .i64 0,.int .i64 0,.int .i64 0,.int .i64 0,l1.v])) <|
.read True (ld T.a1 a0) (sG [.int .i64,.int .i64,.int .i64,.int .i64,.int .i64,.int .i64,.slc]) (u7 λ(n2 n3 n4 n5 n6 n7:Int) l8 =>
.done 0 [.agg #[.int .i64 n2,.int .i64 n3,.int .i64 n4,.int .i64 n5,.int .i64 n6,.int .i64 n7,l8.v]])))
theorem zm4 (key value:ByteArray) {w:World} {R:List Value->World->Prop} (h:(zwj key value).wp P (λ_=>True) w λe vs w'=>e=0/\R vs w'):Ret P F.a104 #[.string key,.string value] w R:=dS (n:=10) (rv:=[.cell 4 38]) { cnd:=[],blk:=[],reg:=[],lps:=[] } [.val (.string key),.val (.string value)] Go.Proofs.Tryz.func37 (by kernel_rfl) (by kernel_rfl) (by kernel_rfl) (by kernel_rfl) h
def zy1 (l:Option Addr) (bs:Sl):Prog :=
.call F.a138 [.pointer l] (sI .i64) (u1 λ(n0:Int) =>
.lt (.int .i64) (n0) λ(n1:Int) =>
.bind 1 [.one .slc] (
.loop 2 [.one (.int .i64),.one .slc,.one (.int .i64)] (n1,(⟨none,0,0⟩,(0,()))) (u3 λ(n2:Int) l3 (n4:Int) =>
.ite (decide (n4<((bs.len:Nat):Int))) (
.ex [.adr] (c1 λa5=>0<=n4/\n4<((bs.len:Nat):Int)/\bs.a=some a5) (u1 λa6 =>
.read True (ld T.a1 (Addr.add a6 (Int.toNat n4*7))) (sG [.int .i64,.int .i64,.int .i64,.int .i64,.int .i64,.int .i64,.slc]) (u7 λ(n7 n8 n9 n10 n11 n12:Int) l13 =>
.act (new T.a1) sA (u1 λa14 =>
.actU (st T.a1 a14 (.agg #[.int .i64 n7,.int .i64 n8,.int .i64 n9,.int .i64 n10,.int .i64 n11,.int .i64 n12,l13.v])) <|
.actU (st T.a11 (Addr.add a14 0) (.int .i64 n2)) <|
.read True (ld T.a1 a14) (sG [.int .i64,.int .i64,.int .i64,.int .i64,.int .i64,.int .i64,.slc]) (u7 λ(n15 n16 n17 n18 n19 n20:Int) l21 =>
.call F.a129 [.agg #[.int .i64 n15,.int .i64 n16,.int .i64 n17,.int .i64 n18,.int .i64 n19,.int .i64 n20,l21.v]] (sI .i64) (u1 λ(n22:Int) =>
.lt (.int .i64) (n22) λ(n23:Int) =>
.ite (n23 != 0) (
.lt (.int .i64) (n23) λ(n24:Int) =>
.done 0 [.slice none 0 0,.int .i64 n24]) (
.read True (ld T.a1 a14) (sG [.int .i64,.int .i64,.int .i64,.int .i64,.int .i64,.int .i64,.slc]) (u7 λ(n25 n26 n27 n28 n29 n30:Int) l31 =>
.act (Instr.buildSlice T.a18 1 #[(0,.agg #[.int .i64 n25,.int .i64 n26,.int .i64 n27,.int .i64 n28,.int .i64 n29,.int .i64 n30,l31.v])]) sL (u1 λl32 =>
.act (app T.a18 T.a18 T.a18 l3.v l32.v) sL (u1 λl33 =>
.read True (ld T.a1 a14) (sG [.int .i64,.int .i64,.int .i64,.int .i64,.int .i64,.int .i64,.slc]) (u7 λ(n34 n35 n36 n37 n38 n39:Int) l40 =>
.call F.a128 [.agg #[.int .i64 n34,.int .i64 n35,.int .i64 n36,.int .i64 n37,.int .i64 n38,.int .i64 n39,l40.v]] (sI .i64) (u1 λ(n41:Int) =>
.lt (.int .i64) (IntKind.wrap .i64 (n2+n41)) λ(n42:Int) =>
.done 2 [.int .i64 n42,l33.v,.int .i64 (IntKind.wrap .i64 (n4+1))])))))))))))) (
.done 1 [l3.v]))) (u1 λl43 =>
.done 0 [l43.v,.int .i64 0]))
theorem znk (l:Option Addr) (bs:Sl) {w:World} {R:List Value->World->Prop} (h:(zy1 l bs).wp P (λ_=>True) w λe vs w'=>e=0/\R vs w'):Ret P F.a139 #[.pointer l,.slice bs.a bs.len bs.cap] w R:=dS (n:=36) (rv:=[.tmp 4,.tmp 5]) { cnd:=[],blk:=[(0,[(7,.one .slc)])],reg:=[],lps:=[(0,[(6,.one (.int .i64)),(7,.one .slc),(15,.one (.int .i64))])] } [.val (.pointer l),.val (.slice bs.a bs.len bs.cap)] Go.Proofs.Tryz.func39 (by kernel_rfl) (by kernel_rfl) (by kernel_rfl) (by kernel_rfl) h
def zy0 (b_0 b_1 b_2 b_3 b_4 b_5:Int) (b_6:Sl):Prog :=
.act (Instr.box T.a1 (.agg #[.int .i64 b_0,.int .i64 b_1,.int .i64 b_2,.int .i64 b_3,.int .i64 b_4,.int .i64 b_5,b_6.v])) sA (u1 λa0 =>
.read True (ld T.a1 a0) (sG [.int .i64,.int .i64,.int .i64,.int .i64,.int .i64,.int .i64,.slc]) (u7 λ(n1 n2 n3 n4 n5 n6:Int) l7 =>
.call F.a124 [.agg #[.int .i64 n1,.int .i64 n2,.int .i64 n3,.int .i64 n4,.int .i64 n5,.int .i64 n6,l7.v]] (.tup [.one .slc,.one (.int .i64)]) (u2 λl8 (n9:Int) =>
.lt (.int .i64) (n9) λ(n10:Int) =>
.lt (.int .i64) (IntKind.wrap .i64 (((l8.len:Nat):Int)+8)) λ(n11:Int) =>
.done 0 [.int .i64 n11])))
theorem zne (b_0 b_1 b_2 b_3 b_4 b_5:Int) (b_6:Sl) {w:World} {R:List Value->World->Prop} (h:(zy0 b_0 b_1 b_2 b_3 b_4 b_5 b_6).wp P (λ_=>True) w λe vs w'=>e=0/\R vs w'):Ret P F.a143 #[.agg #[.int .i64 b_0,.int .i64 b_1,.int .i64 b_2,.int .i64 b_3,.int .i64 b_4,.int .i64 b_5,.slice b_6.a b_6.len b_6.cap]] w R:=dS (n:=13) (rv:=[.tmp 2]) { cnd:=[],blk:=[],reg:=[],lps:=[] } [.val (.agg #[.int .i64 b_0,.int .i64 b_1,.int .i64 b_2,.int .i64 b_3,.int .i64 b_4,.int .i64 b_5,.slice b_6.a b_6.len b_6.cap])] Go.Proofs.Tryz.func40 (by kernel_rfl) (by kernel_rfl) (by kernel_rfl) (by kernel_rfl) h
def zrs (base:Int) (end_:Int):Prog :=
.act (Instr.buildSlice T.a27 1 #[(0,.int .u8 83)]) sL (u1 λl0 =>
.call F.a117 [.int .u64 (IntKind.wrap .u64 base)] sL (u1 λl1 =>
.act (app T.a27 T.a27 T.a27 l0.v l1.v) sL (u1 λl2 =>
.call F.a117 [.int .u64 (IntKind.wrap .u64 end_)] sL (u1 λl3 =>
.act (app T.a27 T.a27 T.a27 l2.v l3.v) sL (u1 λl4 =>
.call F.a120 [l4.v] sL (u1 λl5 =>
.done 0 [l5.v]))))))
theorem ze3 (base end_:Int) {w:World} {R:List Value->World->Prop} (h:(zrs base end_).wp P (λ_=>True) w λe vs w'=>e=0/\R vs w'):Ret P F.a134 #[.int .i64 base,.int .i64 end_] w R:=dS (n:=19) (rv:=[.tmp 4]) { cnd:=[],blk:=[],reg:=[],lps:=[] } [.val (.int .i64 base),.val (.int .i64 end_)] Go.Proofs.Tryz.func41 (by kernel_rfl) (by kernel_rfl) (by kernel_rfl) (by kernel_rfl) h
def zs0 (l:Option Addr):Prog :=
.ex [.adr] (c1 λa0=>l=some a0) (u1 λa1 =>
.read True (ld T.a26 (Addr.add a1 2)) sL (u1 λl2 =>
.ite (((l2.len:Nat):Int) == 0) (
.done 0 [.int .i64 0]) (
.tick <|
.ex [.adr] (c1 λa3=>l=some a3) (u1 λa4 =>
.read True (ld T.a26 (Addr.add a4 2)) sL (u1 λl5 =>
.ex [.adr] (c1 λa6=>l=some a6) (u1 λa7 =>
.read True (ld T.a26 (Addr.add a7 2)) sL (u1 λl8 =>
.ex [.adr] (c1 λa9=>0<=IntKind.wrap .i64 (((l8.len:Nat):Int)-1)/\IntKind.wrap .i64 (((l8.len:Nat):Int)-1)<((l5.len:Nat):Int)/\l5.a=some a9) (u1 λa10 =>
.read True (ld T.a37 (Addr.add a10 (Int.toNat (IntKind.wrap .i64 (((l8.len:Nat):Int)-1))*3))) (sG [.int .i64,.int .i64,.slc]) (u3 λ(n11 n12:Int) l13 =>
.call F.a141 [.agg #[.int .i64 n11,.int .i64 n12,l13.v]] (sI .i64) (u1 λ(n14:Int) =>
.lt (.int .i64) (n14) λ(n15:Int) =>
.untick <|
.done 0 [.int .i64 n15]))))))))))
theorem ze6 (l:Option Addr) {w:World} {R:List Value->World->Prop} (h:(zs0 l).wp P (λ_=>True) w λe vs w'=>e=0/\R vs w'):Ret P F.a138 #[.pointer l] w R:=dS (n:=22) (rv:=[.tmp 2]) { cnd:=[],blk:=[],reg:=[],lps:=[] } [.val (.pointer l)] Go.Proofs.Tryz.func42 (by kernel_rfl) (by kernel_rfl) (by kernel_rfl) (by kernel_rfl) h
def zf7 (d:Option Addr):Prog :=
.ex [.adr] (c1 λa0=>Option.isNone d=false->d=some a0) (u1 λa1 =>
.read (Option.isNone d=false) (ld T.a4 (Addr.add (Addr.add a1 0) 1)) sB (u1 λb2 =>
.lt (.bool) (Option.isNone d || b2) λb3 =>
.done 0 [.bool b3]))
theorem zsj (d:Option Addr) {w:World} {R:List Value->World->Prop} (h:(zf7 d).wp P (λ_=>True) w λe vs w'=>e=0/\R vs w'):Ret P F.a6 #[.pointer d] w R:=dS (n:=12) (rv:=[.tmp 2]) { cnd:=[],blk:=[],reg:=[],lps:=[] } [.val (.pointer d)] Go.Proofs.Tryz.func48 (by kernel_rfl) (by kernel_rfl) (by kernel_rfl) (by kernel_rfl) h
def zxq (l:Option Addr):Prog :=
.ex [.adr] (c1 λa0=>l=some a0) (u1 λa1 =>
.read True (ld T.a26 (Addr.add a1 2)) sL (u1 λl2 =>
.bind 1 [.one .slc] (
.loop 2 [.one .slc,.one (.int .i64)] (⟨none,0,0⟩,(0,())) (u2 λl3 (n4:Int) =>
.ite (decide (n4<((l2.len:Nat):Int))) (
.ex [.adr] (c1 λa5=>0<=n4/\n4<((l2.len:Nat):Int)/\l2.a=some a5) (u1 λa6 =>
.read True (ld T.a37 (Addr.add a6 (Int.toNat n4*3))) (sG [.int .i64,.int .i64,.slc]) (u3 λ(n7 n8:Int) l9 =>
.act (new T.a37) sA (u1 λa10 =>
.actU (st T.a37 a10 (.agg #[.int .i64 n7,.int .i64 n8,l9.v])) <|
.read True (ld T.a18 (Addr.add a10 2)) sL (u1 λl11 =>
.act (app T.a18 T.a18 T.a18 l3.v l11.v) sL (u1 λl12 =>
.done 2 [l12.v,.int .i64 (IntKind.wrap .i64 (n4+1))])))))) (
.done 1 [l3.v]))) (u1 λl13 =>
.done 0 [l13.v])))
theorem zmj (l:Option Addr) {w:World} {R:List Value->World->Prop} (h:(zxq l).wp P (λ_=>True) w λe vs w'=>e=0/\R vs w'):Ret P F.a135 #[.pointer l] w R:=dS (n:=21) (rv:=[.tmp 2]) { cnd:=[],blk:=[(0,[(3,.one .slc)])],reg:=[],lps:=[(0,[(3,.one .slc),(11,.one (.int .i64))])] } [.val (.pointer l)] Go.Proofs.Tryz.func58 (by kernel_rfl) (by kernel_rfl) (by kernel_rfl) (by kernel_rfl) h
def zx8 (n:Int) (f:Value):Prog :=
.lt (.int .i64) (n) λ(n0:Int) =>
.bind 1 [.one (.int .i64)] (
.loop 2 [.one (.int .i64),.one (.int .i64)] (0,(n0,())) (u2 λ(n1 n2:Int) =>
.ite (decide (n1<n2)) (
.lt (.int .i64) (IntKind.wrap .i64 (Int.fdiv (IntKind.wrap .u64 (IntKind.wrap .i64 (n1+n2))) 2)) λ(n3:Int) =>
.callv (f) [.int .i64 n3] sB (u1 λb4 =>
.bind 3 [.one (.int .i64),.one (.int .i64)] (
.ite (not b4) (
.lt (.int .i64) (IntKind.wrap .i64 (n3+1)) λ(n5:Int) =>
.done 3 [.int .i64 n5,.int .i64 n2]) (
.lt (.int .i64) (n3) λ(n6:Int) =>
.done 3 [.int .i64 n1,.int .i64 n6])) (u2 λ(n7 n8:Int) =>
.done 2 [.int .i64 n7,.int .i64 n8]))) (
.done 1 [.int .i64 n1]))) (u1 λ(n9:Int) =>
.lt (.int .i64) (n9) λ(n10:Int) =>
.done 0 [.int .i64 n10])
theorem zlo (n:Int) (f:Value) {w:World} {R:List Value->World->Prop} (h:(zx8 n f).wp P (λ_=>True) w λe vs w'=>e=0/\R vs w'):Ret P F.a95 #[.int .i64 n,f] w R:=dS (n:=26) (rv:=[.tmp 4]) { cnd:=[(120259477525,[(5,.one (.int .i64)),(6,.one (.int .i64))])],blk:=[(0,[(5,.one (.int .i64))])],reg:=[],lps:=[(0,[(5,.one (.int .i64)),(6,.one (.int .i64))])] } [.val (.int .i64 n),.any f] Go.Proofs.Tryz.func65 (by kernel_rfl) (by kernel_rfl) (by kernel_rfl) (by kernel_rfl) h
def zf9 (d:Option Addr) (name:ByteArray):Prog :=
.call F.a14 [.pointer d] (sI .i64) (u1 λ(n0:Int) =>
.lt (.int .i64) (n0) λ(n1:Int) =>
.ite (n1 != 0) (
.lt (.int .i64) (n1) λ(n2:Int) =>
.done 0 [.int .i64 n2]) (
.ex [.adr] (c1 λa3=>d=some a3) (u1 λa4 =>
.read True (ld T.a12 (Addr.add a4 4)) sM (u1 λm5 =>
.read True (Instr.lookup T.a12 (.map m5) (.string name) false) sP (u1 λp6 =>
.ite (Option.isNone p6) (
.done 0 [.int .i64 3]) (
.call F.a13 [.pointer d,.string name] (.tup []) (u0 <|
.ex [.adr] (c1 λa7=>d=some a7) (u1 λa8 =>
.call F.a17 [.pointer (some (Addr.add a8 0))] (.tup []) (u0 <|
.done 0 [.int .i64 0])))))))))
theorem zsg (d:Option Addr) (name:ByteArray) {w:World} {R:List Value->World->Prop} (h:(zf9 d name).wp P (λ_=>True) w λe vs w'=>e=0/\R vs w'):Ret P F.a9 #[.pointer d,.string name] w R:=dS (n:=25) (rv:=[.tmp 4]) { cnd:=[],blk:=[],reg:=[],lps:=[] } [.val (.pointer d),.val (.string name)] Go.Proofs.Tryz.func74 (by kernel_rfl) (by kernel_rfl) (by kernel_rfl) (by kernel_rfl) h
def zxk (s_0 s_1:Int) (s_2:Sl):Prog :=
.act (Instr.box T.a37 (.agg #[.int .i64 s_0,.int .i64 s_1,s_2.v])) sA (u1 λa0 =>
.read True (ld T.a11 (Addr.add a0 0)) (sI .i64) (u1 λ(n1:Int) =>
.read True (ld T.a11 (Addr.add a0 1)) (sI .i64) (u1 λ(n2:Int) =>
.call F.a134 [.int .i64 n1,.int .i64 n2] sL (u1 λl3 =>
.lt (.int .i64) (((l3.len:Nat):Int)) λ(n4:Int) =>
.read True (ld T.a18 (Addr.add a0 2)) sL (u1 λl5 =>
.bind 1 [.one (.int .i64)] (
.loop 2 [.one (.int .i64),.one (.int .i64)] (n4,(0,())) (u2 λ(n6 n7:Int) =>
.ite (decide (n7<((l5.len:Nat):Int))) (
.ex [.adr] (c1 λa8=>0<=n7/\n7<((l5.len:Nat):Int)/\l5.a=some a8) (u1 λa9 =>
.read True (ld T.a1 (Addr.add a9 (Int.toNat n7*7))) (sG [.int .i64,.int .i64,.int .i64,.int .i64,.int .i64,.int .i64,.slc]) (u7 λ(n10 n11 n12 n13 n14 n15:Int) l16 =>
.act (new T.a1) sA (u1 λa17 =>
.actU (st T.a1 a17 (.agg #[.int .i64 n10,.int .i64 n11,.int .i64 n12,.int .i64 n13,.int .i64 n14,.int .i64 n15,l16.v])) <|
.read True (ld T.a1 a17) (sG [.int .i64,.int .i64,.int .i64,.int .i64,.int .i64,.int .i64,.slc]) (u7 λ(n18 n19 n20 n21 n22 n23:Int) l24 =>
.call F.a143 [.agg #[.int .i64 n18,.int .i64 n19,.int .i64 n20,.int .i64 n21,.int .i64 n22,.int .i64 n23,l24.v]] (sI .i64) (u1 λ(n25:Int) =>
.lt (.int .i64) (IntKind.wrap .i64 (n6+n25)) λ(n26:Int) =>
.done 2 [.int .i64 n26,.int .i64 (IntKind.wrap .i64 (n7+1))])))))) (
.done 1 [.int .i64 n6]))) (u1 λ(n27:Int) =>
.lt (.int .i64) (n27) λ(n28:Int) =>
.done 0 [.int .i64 n28]))))))
theorem zmc (s_0 s_1:Int) (s_2:Sl) {w:World} {R:List Value->World->Prop} (h:(zxk s_0 s_1 s_2).wp P (λ_=>True) w λe vs w'=>e=0/\R vs w'):Ret P F.a142 #[.agg #[.int .i64 s_0,.int .i64 s_1,.slice s_2.a s_2.len s_2.cap]] w R:=dS (n:=25) (rv:=[.tmp 2]) { cnd:=[],blk:=[(0,[(3,.one (.int .i64))])],reg:=[],lps:=[(0,[(3,.one (.int .i64)),(15,.one (.int .i64))])] } [.val (.agg #[.int .i64 s_0,.int .i64 s_1,.slice s_2.a s_2.len s_2.cap])] Go.Proofs.Tryz.func84 (by kernel_rfl) (by kernel_rfl) (by kernel_rfl) (by kernel_rfl) h
def zxj (l:Option Addr):Prog :=
.ex [.adr] (c1 λa0=>l=some a0) (u1 λa1 =>
.read True (ld T.a26 (Addr.add a1 2)) sL (u1 λl2 =>
.ite (((l2.len:Nat):Int) == 0) (
.done 0 [.int .i64 0]) (
.ex [.adr] (c1 λa3=>l=some a3) (u1 λa4 =>
.read True (ld T.a26 (Addr.add a4 2)) sL (u1 λl5 =>
.ex [.adr] (c1 λa6=>(0:Int)<=0/\0<((l5.len:Nat):Int)/\l5.a=some a6) (u1 λa7 =>
.read True (ld T.a11 (Addr.add (Addr.add a7 0) 0)) (sI .i64) (u1 λ(n8:Int) =>
.lt (.int .i64) (n8) λ(n9:Int) =>
.done 0 [.int .i64 n9])))))))
theorem zn5 (l:Option Addr) {w:World} {R:List Value->World->Prop} (h:(zxj l).wp P (λ_=>True) w λe vs w'=>e=0/\R vs w'):Ret P F.a137 #[.pointer l] w R:=dS (n:=16) (rv:=[.tmp 2]) { cnd:=[],blk:=[],reg:=[],lps:=[] } [.val (.pointer l)] Go.Proofs.Tryz.func85 (by kernel_rfl) (by kernel_rfl) (by kernel_rfl) (by kernel_rfl) h
def zwi (l:Sl):Prog :=
.bind 1 [.one .slc] (
.loop 2 [.one .slc,.one (.int .i64)] (⟨none,0,0⟩,(0,())) (u2 λl0 (n1:Int) =>
.ite (decide (n1<((l.len:Nat):Int))) (
.ex [.adr] (c1 λa2=>0<=n1/\n1<((l.len:Nat):Int)/\l.a=some a2) (u1 λa3 =>
.read True (ld T.a1 (Addr.add a3 (Int.toNat n1*7))) (sG [.int .i64,.int .i64,.int .i64,.int .i64,.int .i64,.int .i64,.slc]) (u7 λ(n4 n5 n6 n7 n8 n9:Int) l10 =>
.act (new T.a1) sA (u1 λa11 =>
.lt (.int .i64) (n1) λ(n12:Int) =>
.actU (st T.a1 a11 (.agg #[.int .i64 n4,.int .i64 n5,.int .i64 n6,.int .i64 n7,.int .i64 n8,.int .i64 n9,l10.v])) <|
.ite (decide (n12>=3)) (
.done 1 [l0.v]) (
.read True (ld T.a1 a11) (sG [.int .i64,.int .i64,.int .i64,.int .i64,.int .i64,.int .i64,.slc]) (u7 λ(n13 n14 n15 n16 n17 n18:Int) l19 =>
.call F.a98 [.agg #[.int .i64 n13,.int .i64 n14,.int .i64 n15,.int .i64 n16,.int .i64 n17,.int .i64 n18,l19.v]] (sG [.int .i64,.int .i64,.int .i64,.int .i64,.int .i64,.int .i64,.slc]) (u7 λ(n20 n21 n22 n23 n24 n25:Int) l26 =>
.act (Instr.buildSlice T.a18 1 #[(0,.agg #[.int .i64 n20,.int .i64 n21,.int .i64 n22,.int .i64 n23,.int .i64 n24,.int .i64 n25,l26.v])]) sL (u1 λl27 =>
.act (app T.a18 T.a18 T.a18 l0.v l27.v) sL (u1 λl28 =>
.done 2 [l28.v,.int .i64 (IntKind.wrap .i64 (n1+1))]))))))))) (
.done 1 [l0.v]))) (u1 λl29 =>
.done 0 [l29.v])
theorem zmk (l:Sl) {w:World} {R:List Value->World->Prop} (h:(zwi l).wp P (λ_=>True) w λe vs w'=>e=0/\R vs w'):Ret P F.a101 #[.slice l.a l.len l.cap] w R:=dS (n:=22) (rv:=[.tmp 2]) { cnd:=[],blk:=[(0,[(3,.one .slc)])],reg:=[],lps:=[(0,[(3,.one .slc),(8,.one (.int .i64))])] } [.val (.slice l.a l.len l.cap)] Go.Proofs.Tryz.func86 (by kernel_rfl) (by kernel_rfl) (by kernel_rfl) (by kernel_rfl) h
def z025 (d:Option Addr):Prog :=
.lt (.bool) (Option.isNone d) λb0 =>
.ite (b0) (
.done 0 [.int .i64 1]) (
.ex [.adr] (c1 λa1=>d=some a1) (u1 λa2 =>
.read True (ld T.a4 (Addr.add (Addr.add a2 0) 1)) sB (u1 λb3 =>
.lt (.bool) (b3) λb4 =>
.ite (b4) (
.done 0 [.int .i64 9]) (
.done 0 [.int .i64 0]))))
theorem zqn (d:Option Addr) {w:World} {R:List Value->World->Prop} (h:(z025 d).wp P (λ_=>True) w λe vs w'=>e=0/\R vs w'):Ret P F.a14 #[.pointer d] w R:=dS (n:=12) (rv:=[.tmp 2]) { cnd:=[],blk:=[],reg:=[],lps:=[] } [.val (.pointer d)] Go.Proofs.Tryz.func89 (by kernel_rfl) (by kernel_rfl) (by kernel_rfl) (by kernel_rfl) h
def z01u (s:ByteArray):Prog :=
.ite (decide (((ByteArray.size s:Nat):Int)<1) || decide (((ByteArray.size s:Nat):Int)>24)) (
.done 0 [.bool false]) (
.act (convert T.a32 T.a27 (.string s)) sL (u1 λl0 =>
.bind 1 [] (
.loop 2 [.one (.int .i64)] (0,()) (u1 λ(n1:Int) =>
.ite (decide (n1<((l0.len:Nat):Int))) (
.ex [.adr] (c1 λa2=>0<=n1/\n1<((l0.len:Nat):Int)/\l0.a=some a2) (u1 λa3 =>
.read True (ld T.a38 (Addr.add a3 (Int.toNat n1*1))) (sI .u8) (u1 λ(n4:Int) =>
.lt (.int .u8) (n4) λ(n5:Int) =>
.lt (.bool) (decide (n5>=97) && decide (n5<=122)) λb6 =>
.lt (.bool) (decide (n5>=48) && decide (n5<=57)) λb7 =>
.ite (not b6 && not b7 && n5 != 46 && n5 != 45) (
.done 0 [.bool false]) (
.done 2 [.int .i64 (IntKind.wrap .i64 (n1+1))])))) (
.done 1 []))) (u0 <|
.done 0 [.bool true])))
theorem zr0 (s:ByteArray) {w:World} {R:List Value->World->Prop} (h:(z01u s).wp P (λ_=>True) w λe vs w'=>e=0/\R vs w'):Ret P F.a15 #[.string s] w R:=dS (n:=49) (rv:=[.tmp 2]) { cnd:=[],blk:=[(0,[])],reg:=[],lps:=[(0,[(18,.one (.int .i64))])] } [.val (.string s)] Go.Proofs.Tryz.func90 (by kernel_rfl) (by kernel_rfl) (by kernel_rfl) (by kernel_rfl) h
def zf6 (d:Option Addr):Prog :=
.ite (Option.isNone d) (
.done 0 [.int .i64 0]) (
.tick <|
.ex [.adr] (c1 λa0=>d=some a0) (u1 λa1 =>
.read True (ld T.a10 (Addr.add a1 2)) (sI .i64) (u1 λ(n2:Int) =>
.ex [.adr] (c1 λa3=>d=some a3) (u1 λa4 =>
.read True (ld T.a10 (Addr.add a4 3)) (sI .i64) (u1 λ(n5:Int) =>
.lt (.int .i64) (if 0>IntKind.wrap .i64 (n2-n5) then 0 else IntKind.wrap .i64 (n2-n5)) λ(n6:Int) =>
.untick <|
.done 0 [.int .i64 n6])))))
theorem ztl (d:Option Addr) {w:World} {R:List Value->World->Prop} (h:(zf6 d).wp P (λ_=>True) w λe vs w'=>e=0/\R vs w'):Ret P F.a5 #[.pointer d] w R:=dS (n:=15) (rv:=[.tmp 2]) { cnd:=[],blk:=[],reg:=[],lps:=[] } [.val (.pointer d)] Go.Proofs.Tryz.func91 (by kernel_rfl) (by kernel_rfl) (by kernel_rfl) (by kernel_rfl) h
def z00g (p:Option Addr):Prog :=
.ex [.adr] (c1 λa0=>p=some a0) (u1 λa1 =>
.read True (ld T.a10 (Addr.add a1 0)) (sI .i64) (u1 λ(n2:Int) =>
.bind 1 [] (
.ite (decide (n2>0)) (
.ex [.adr] (c1 λa3=>p=some a3) (u1 λa4 =>
.read True (ld T.a10 (Addr.add a4 0)) (sI .i64) (u1 λ(n5:Int) =>
.ex [.adr] (c1 λa6=>p=some a6) (u1 λa7 =>
.actU (st T.a10 (Addr.add a7 0) (.int .i64 (IntKind.wrap .i64 (n5-1)))) <|
.ex [.adr] (c1 λa8=>p=some a8) (u1 λa9 =>
.read True (ld T.a10 (Addr.add a9 0)) (sI .i64) (u1 λ(n10:Int) =>
.ex [.adr] (c1 λa11=>p=some a11) (u1 λa12 =>
.actU (st T.a4 (Addr.add a12 1) (.bool (n10 == 0))) <|
.done 1 []))))))) (
.done 1 [])) (u0 <|
.done 0 [])))
theorem zqv (p:Option Addr) {w:World} {R:List Value->World->Prop} (h:(z00g p).wp P (λ_=>True) w λe vs w'=>e=0/\R vs w'):Ret P F.a17 #[.pointer p] w R:=dS (n:=22) (rv:=[]) { cnd:=[(17179344902,[])],blk:=[],reg:=[],lps:=[] } [.val (.pointer p)] Go.Proofs.Tryz.func92 (by kernel_rfl) (by kernel_rfl) (by kernel_rfl) (by kernel_rfl) h
def zwe (b:Sl) (base:Int):Prog :=
.act (Instr.box T.a34 (.agg #[b.v,.int .i64 0,.int .i64 0])) sA (u1 λa0 =>
.bind 1 [.one .bool] (
.call F.a108 [.pointer (some a0)] (sI .i64) (u1 λ(n1:Int) =>
.ite (n1 != 83) (
.done 1 [.bool true]) (
.call F.a114 [.pointer (some a0)] (sI .u64) (u1 λ(n2:Int) =>
.done 1 [.bool (n2 != IntKind.wrap .u64 base)])))) (u1 λb3 =>
.ite (b3) (
.done 0 [.int .i64 0,.bool false]) (
.call F.a114 [.pointer (some a0)] (sI .u64) (u1 λ(n4:Int) =>
.lt (.int .u64) (n4) λ(n5:Int) =>
.call F.a110 [.pointer (some a0)] (sI .i64) (u1 λ(n6:Int) =>
.ite (n6 != 0 || decide (base>1099511627776) || decide (n5>1099511627776) || decide (n5>0) && decide (n5<=IntKind.wrap .u64 base)) (
.done 0 [.int .i64 0,.bool false]) (
.lt (.int .i64) (IntKind.wrap .i64 n5) λ(n7:Int) =>
.done 0 [.int .i64 n7,.bool true]))))))
theorem zmu (b:Sl) (base:Int) {w:World} {R:List Value->World->Prop} (h:(zwe b base).wp P (λ_=>True) w λe vs w'=>e=0/\R vs w'):Ret P F.a144 #[.slice b.a b.len b.cap,.int .i64 base] w R:=dS (n:=46) (rv:=[.tmp 4,.tmp 5]) { cnd:=[],blk:=[],reg:=[(2,[(20,.one .bool)])],lps:=[] } [.val (.slice b.a b.len b.cap),.val (.int .i64 base)] Go.Proofs.Tryz.func94 (by kernel_rfl) (by kernel_rfl) (by kernel_rfl) (by kernel_rfl) h
def z023 (d:Option Addr) (name:ByteArray):Prog :=
.act (new T.a6) sA (u1 λa0 =>
.ex [.adr] (c1 λa1=>Option.isNone d=false->d=some a1) (u1 λa2 =>
.read (Option.isNone d=false) (ld T.a12 (Addr.add a2 4)) sM (u1 λm3 =>
.read (Option.isNone d=false) (Instr.lookup T.a12 (.map m3) (.string name) false) sP (u1 λp4 =>
.ite (Option.isNone d || Option.isNone p4) (
.actU (st T.a6 a0 (.agg #[.slice none 0 0,.int .i64 0])) <|
.read True (ld T.a6 a0) (sG [.slc,.int .i64]) (u2 λl5 (n6:Int) =>
.done 0 [.agg #[l5.v,.int .i64 n6]])) (
.ex [.adr] (c1 λa7=>d=some a7) (u1 λa8 =>
.read True (ld T.a12 (Addr.add a8 4)) sM (u1 λm9 =>
.read True (Instr.lookup T.a12 (.map m9) (.string name) false) sP (u1 λp10 =>
.ex [.adr] (c1 λa11=>p10=some a11) (u1 λa12 =>
.read True (ld T.a6 a12) (sG [.slc,.int .i64]) (u2 λl13 (n14:Int) =>
.actU (st T.a6 a0 (.agg #[l13.v,.int .i64 n14])) <|
.read True (ld T.a6 a0) (sG [.slc,.int .i64]) (u2 λl15 (n16:Int) =>
.done 0 [.agg #[l15.v,.int .i64 n16]])))))))))))
theorem zr2 (d:Option Addr) (name:ByteArray) {w:World} {R:List Value->World->Prop} (h:(z023 d name).wp P (λ_=>True) w λe vs w'=>e=0/\R vs w'):Ret P F.a12 #[.pointer d,.string name] w R:=dS (n:=25) (rv:=[.cell 4 160]) { cnd:=[],blk:=[],reg:=[],lps:=[] } [.val (.pointer d),.val (.string name)] Go.Proofs.Tryz.func96 (by kernel_rfl) (by kernel_rfl) (by kernel_rfl) (by kernel_rfl) h
def zf36 (m:Option Nat):Prog :=
.act (Instr.box T.a12 (.map m)) sA (u1 λa0 =>
.done 0 [.func (Fn.func 143) #[] #[.pointer (some a0)]])
theorem zf36_calls (m:Option Nat) {w:World} {R:List Value->World->Prop} (h:(zf36 m).wp P (λ_=>True) w λe vs w'=>e=0/\R vs w'):Ret P F.a31 #[.map m] w R:=dS (n:=4) (rv:=[.tmp 2]) { cnd:=[],blk:=[],reg:=[],lps:=[] } [.val (.map m)] Go.Proofs.Tryz.func97 (by kernel_rfl) (by kernel_rfl) (by kernel_rfl) (by kernel_rfl) h
def zf106 (s:ByteArray) (prefix_:ByteArray):Prog :=
.call F.a30 [.string s,.string prefix_] sB (u1 λb0 =>
.lt (.bool) (b0) λb1 =>
.done 0 [.bool b1])
theorem zf106_calls (s prefix_:ByteArray) {w:World} {R:List Value->World->Prop} (h:(zf106 s prefix_).wp P (λ_=>True) w λe vs w'=>e=0/\R vs w'):Ret P F.a96 #[.string s,.string prefix_] w R:=dS (n:=8) (rv:=[.tmp 4]) { cnd:=[],blk:=[],reg:=[],lps:=[] } [.val (.string s),.val (.string prefix_)] Go.Proofs.Tryz.func98 (by kernel_rfl) (by kernel_rfl) (by kernel_rfl) (by kernel_rfl) h
def z04m (x:Sl):Prog :=
.lt (.int .i64) (((x.len:Nat):Int)) λ(n0:Int) =>
.call F.a32 [.int .u64 (IntKind.wrap .u64 n0)] (sI .i64) (u1 λ(n1:Int) =>
.call F.a91 [x.v,.int .i64 0,.int .i64 n0,.int .i64 n1] (.tup []) (u0 <|
.done 0 []))
def zwg (s_0 s_1:Int) (s_2:Sl):Prog :=
.act (Instr.box T.a37 (.agg #[.int .i64 s_0,.int .i64 s_1,s_2.v])) sA (u1 λa0 =>
.read True (ld T.a11 (Addr.add a0 0)) (sI .i64) (u1 λ(n1:Int) =>
.lt (.int .i64) (n1) λ(n2:Int) =>
.read True (ld T.a11 (Addr.add a0 1)) (sI .i64) (u1 λ(n3:Int) =>
.bind 1 [.one (.int .i64)] (
.ite (decide (n3>n2)) (
.read True (ld T.a11 (Addr.add a0 1)) (sI .i64) (u1 λ(n4:Int) =>
.lt (.int .i64) (n4) λ(n5:Int) =>
.done 1 [.int .i64 n5])) (
.done 1 [.int .i64 n2])) (u1 λ(n6:Int) =>
.read True (ld T.a18 (Addr.add a0 2)) sL (u1 λl7 =>
.bind 1 [.one (.int .i64)] (
.ite (decide (((l7.len:Nat):Int)>0)) (
.read True (ld T.a18 (Addr.add a0 2)) sL (u1 λl8 =>
.read True (ld T.a18 (Addr.add a0 2)) sL (u1 λl9 =>
.ex [.adr] (c1 λa10=>0<=IntKind.wrap .i64 (((l9.len:Nat):Int)-1)/\IntKind.wrap .i64 (((l9.len:Nat):Int)-1)<((l8.len:Nat):Int)/\l8.a=some a10) (u1 λa11 =>
.read True (ld T.a1 (Addr.add a11 (Int.toNat (IntKind.wrap .i64 (((l9.len:Nat):Int)-1))*7))) (sG [.int .i64,.int .i64,.int .i64,.int .i64,.int .i64,.int .i64,.slc]) (u7 λ(n12 n13 n14 n15 n16 n17:Int) l18 =>
.act (new T.a1) sA (u1 λa19 =>
.actU (st T.a1 a19 (.agg #[.int .i64 n12,.int .i64 n13,.int .i64 n14,.int .i64 n15,.int .i64 n16,.int .i64 n17,l18.v])) <|
.tick <|
.hold True (ld T.a11 (Addr.add a19 0)) (sI .i64) (u1 λ(n20:Int) =>
.read True (ld T.a1 a19) (sG [.int .i64,.int .i64,.int .i64,.int .i64,.int .i64,.int .i64,.slc]) (u7 λ(n21 n22 n23 n24 n25 n26:Int) l27 =>
.call F.a128 [.agg #[.int .i64 n21,.int .i64 n22,.int .i64 n23,.int .i64 n24,.int .i64 n25,.int .i64 n26,l27.v]] (sI .i64) (u1 λ(n28:Int) =>
.untick <|
.bind 2 [.one (.int .i64)] (
.ite (decide (IntKind.wrap .i64 (n20+n28)>n6)) (
.tick <|
.hold True (ld T.a11 (Addr.add a19 0)) (sI .i64) (u1 λ(n29:Int) =>
.read True (ld T.a1 a19) (sG [.int .i64,.int .i64,.int .i64,.int .i64,.int .i64,.int .i64,.slc]) (u7 λ(n30 n31 n32 n33 n34 n35:Int) l36 =>
.call F.a128 [.agg #[.int .i64 n30,.int .i64 n31,.int .i64 n32,.int .i64 n33,.int .i64 n34,.int .i64 n35,l36.v]] (sI .i64) (u1 λ(n37:Int) =>
.lt (.int .i64) (IntKind.wrap .i64 (n29+n37)) λ(n38:Int) =>
.untick <|
.done 2 [.int .i64 n38])))) (
.done 2 [.int .i64 n6])) (u1 λ(n39:Int) =>
.done 1 [.int .i64 n39])))))))))) (
.done 1 [.int .i64 n6])) (u1 λ(n40:Int) =>
.lt (.int .i64) (n40) λ(n41:Int) =>
.done 0 [.int .i64 n41]))))))
theorem zmn (s_0 s_1:Int) (s_2:Sl) {w:World} {R:List Value->World->Prop} (h:(zwg s_0 s_1 s_2).wp P (λ_=>True) w λe vs w'=>e=0/\R vs w'):Ret P F.a141 #[.agg #[.int .i64 s_0,.int .i64 s_1,.slice s_2.a s_2.len s_2.cap]] w R:=dS (n:=38) (rv:=[.tmp 2]) { cnd:=[(25198602,[(3,.one (.int .i64))]),(545357767409695,[(3,.one (.int .i64))]),(562949416648720,[(3,.one (.int .i64))])],blk:=[],reg:=[],lps:=[] } [.val (.agg #[.int .i64 s_0,.int .i64 s_1,.slice s_2.a s_2.len s_2.cap])] Go.Proofs.Tryz.func102 (by kernel_rfl) (by kernel_rfl) (by kernel_rfl) (by kernel_rfl) h
def z008 (d:Option Addr) (names:Sl):Prog :=
.call F.a14 [.pointer d] (sI .i64) (u1 λ(n0:Int) =>
.lt (.int .i64) (n0) λ(n1:Int) =>
.ite (n1 != 0) (
.lt (.int .i64) (n1) λ(n2:Int) =>
.done 0 [.int .i64 n2]) (
.bind 1 [] (
.loop 2 [.one (.int .i64)] (0,()) (u1 λ(n3:Int) =>
.ite (decide (n3<((names.len:Nat):Int))) (
.ex [.adr] (c1 λa4=>0<=n3/\n3<((names.len:Nat):Int)/\names.a=some a4) (u1 λa5 =>
.read True (ld T.a32 (Addr.add a5 (Int.toNat n3*1))) sS (u1 λs6 =>
.lt (.str) (s6) λs7 =>
.ex [.adr] (c1 λa8=>d=some a8) (u1 λa9 =>
.read True (ld T.a12 (Addr.add a9 4)) sM (u1 λm10 =>
.read True (Instr.lookup T.a12 (.map m10) (.string s7) false) sP (u1 λp11 =>
.ite (Option.isNone p11) (
.done 0 [.int .i64 3]) (
.done 2 [.int .i64 (IntKind.wrap .i64 (n3+1))]))))))) (
.done 1 []))) (u0 <|
.bind 1 [.one .slc] (
.ite (((names.len:Nat):Int) == 0) (
.call F.a7 [.pointer d,.string (ByteArray.mk #[])] sL (u1 λl12 =>
.done 1 [l12.v])) (
.done 1 [names.v])) (u1 λl13 =>
.bind 1 [] (
.loop 2 [.one (.int .i64)] (0,()) (u1 λ(n14:Int) =>
.ite (decide (n14<((l13.len:Nat):Int))) (
.ex [.adr] (c1 λa15=>0<=n14/\n14<((l13.len:Nat):Int)/\l13.a=some a15) (u1 λa16 =>
.read True (ld T.a32 (Addr.add a16 (Int.toNat n14*1))) sS (u1 λs17 =>
.lt (.str) (s17) λs18 =>
.ex [.adr] (c1 λa19=>d=some a19) (u1 λa20 =>
.read True (ld T.a12 (Addr.add a20 4)) sM (u1 λm21 =>
.read True (Instr.lookup T.a12 (.map m21) (.string s18) false) sP (u1 λp22 =>
.ex [.adr] (c1 λa23=>p22=some a23) (u1 λa24 =>
.read True (ld T.a27 (Addr.add a24 0)) sL (u1 λl25 =>
.ex [.adr] (c1 λa26=>p22=some a26) (u1 λa27 =>
.actU (st T.a10 (Addr.add a27 1) (.int .i64 (((l25.len:Nat):Int)))) <|
.done 2 [.int .i64 (IntKind.wrap .i64 (n14+1))]))))))))) (
.done 1 []))) (u0 <|
.ex [.adr] (c1 λa28=>d=some a28) (u1 λa29 =>
.call F.a17 [.pointer (some (Addr.add a29 0))] (.tup []) (u0 <|
.done 0 [.int .i64 0])))))))
theorem zp4 (d:Option Addr) (names:Sl) {w:World} {R:List Value->World->Prop} (h:(z008 d names).wp P (λ_=>True) w λe vs w'=>e=0/\R vs w'):Ret P F.a11 #[.pointer d,.slice names.a names.len names.cap] w R:=dS (n:=60) (rv:=[.tmp 4]) { cnd:=[(105553116274720,[(1,.one .slc)])],blk:=[(0,[]),(2,[])],reg:=[],lps:=[(0,[(18,.one (.int .i64))]),(2,[(37,.one (.int .i64))])] } [.val (.pointer d),.val (.slice names.a names.len names.cap)] Go.Proofs.Tryz.func103 (by kernel_rfl) (by kernel_rfl) (by kernel_rfl) (by kernel_rfl) h
def z028 (d:Option Addr) (name:ByteArray):Prog :=
.ex [.adr] (c1 λa0=>d=some a0) (u1 λa1 =>
.read True (ld T.a12 (Addr.add a1 4)) sM (u1 λm2 =>
.read True (Instr.lookup T.a12 (.map m2) (.string name) false) sP (u1 λp3 =>
.bind 1 [] (
.ite (not (Option.isNone p3)) (
.tick <|
.ex [.adr] (c1 λa4=>d=some a4) (u1 λa5 =>
.read True (ld T.a10 (Addr.add a5 3)) (sI .i64) (u1 λ(n6:Int) =>
.ex [.adr] (c1 λa7=>p3=some a7) (u1 λa8 =>
.read True (ld T.a27 (Addr.add a8 0)) sL (u1 λl9 =>
.ex [.adr] (c1 λa10=>d=some a10) (u1 λa11 =>
.actU (st T.a10 (Addr.add a11 3) (.int .i64 (IntKind.wrap .i64 (n6-((l9.len:Nat):Int))))) <|
.untick <|
.ex [.adr] (c1 λa12=>d=some a12) (u1 λa13 =>
.read True (ld T.a12 (Addr.add a13 4)) sM (u1 λm14 =>
.act (Builtin.delete_ #[T.a12,T.a32] T.a39 #[.map m14,.string name]) (.tup []) (u0 <|
.done 1 []))))))))) (
.done 1 [])) (u0 <|
.done 0 []))))
theorem zq4 (d:Option Addr) (name:ByteArray) {w:World} {R:List Value->World->Prop} (h:(z028 d name).wp P (λ_=>True) w λe vs w'=>e=0/\R vs w'):Ret P F.a13 #[.pointer d,.string name] w R:=dS (n:=30) (rv:=[]) { cnd:=[(4398012956684,[])],blk:=[],reg:=[],lps:=[] } [.val (.pointer d),.val (.string name)] Go.Proofs.Tryz.func124 (by kernel_rfl) (by kernel_rfl) (by kernel_rfl) (by kernel_rfl) h
def zf5 (d:Option Addr) (name:ByteArray) (n:Int):Prog :=
.call F.a14 [.pointer d] (sI .i64) (u1 λ(n0:Int) =>
.lt (.int .i64) (n0) λ(n1:Int) =>
.ite (n1 != 0) (
.lt (.int .i64) (n1) λ(n2:Int) =>
.done 0 [.int .i64 n2]) (
.ex [.adr] (c1 λa3=>d=some a3) (u1 λa4 =>
.read True (ld T.a12 (Addr.add a4 4)) sM (u1 λm5 =>
.read True (Instr.lookup T.a12 (.map m5) (.string name) false) sP (u1 λp6 =>
.lt (.bool) (Option.isNone p6) λb7 =>
.ite (b7) (
.done 0 [.int .i64 3]) (
.ex [.adr] (c1 λa8=>decide (n<0)=false->p6=some a8) (u1 λa9 =>
.read (decide (n<0)=false) (ld T.a27 (Addr.add a9 0)) sL (u1 λl10 =>
.lt (.bool) (decide (n<0) || decide (n>((l10.len:Nat):Int))) λb11 =>
.ite (b11) (
.done 0 [.int .i64 2]) (
.tick <|
.ex [.adr] (c1 λa12=>d=some a12) (u1 λa13 =>
.read True (ld T.a10 (Addr.add a13 3)) (sI .i64) (u1 λ(n14:Int) =>
.ex [.adr] (c1 λa15=>p6=some a15) (u1 λa16 =>
.read True (ld T.a27 (Addr.add a16 0)) sL (u1 λl17 =>
.ex [.adr] (c1 λa18=>d=some a18) (u1 λa19 =>
.actU (st T.a10 (Addr.add a19 3) (.int .i64 (IntKind.wrap .i64 (n14-IntKind.wrap .i64 (((l17.len:Nat):Int)-n))))) <|
.untick <|
.ex [.adr] (c1 λa20=>p6=some a20) (u1 λa21 =>
.read True (ld T.a27 (Addr.add a21 0)) sL (u1 λl22 =>
.must (0<=n/\n<=n/\n<=((l22.cap:Nat):Int)) <|
.ex [.adr] (c1 λa23=>p6=some a23) (u1 λa24 =>
.actU (st T.a27 (Addr.add a24 0) (.slice l22.a (Int.toNat n) (Int.toNat n))) <|
.ex [.adr] (c1 λa25=>p6=some a25) (u1 λa26 =>
.read True (ld T.a10 (Addr.add a26 1)) (sI .i64) (u1 λ(n27:Int) =>
.ex [.adr] (c1 λa28=>p6=some a28) (u1 λa29 =>
.actU (st T.a10 (Addr.add a29 1) (.int .i64 (if n<n27 then n else n27))) <|
.ex [.adr] (c1 λa30=>d=some a30) (u1 λa31 =>
.call F.a17 [.pointer (some (Addr.add a31 0))] (.tup []) (u0 <|
.done 0 [.int .i64 0]))))))))))))))))))))))
theorem zss (d:Option Addr) (name:ByteArray) (n:Int) {w:World} {R:List Value->World->Prop} (h:(zf5 d name n).wp P (λ_=>True) w λe vs w'=>e=0/\R vs w'):Ret P F.a4 #[.pointer d,.string name,.int .i64 n] w R:=dS (n:=72) (rv:=[.tmp 6]) { cnd:=[],blk:=[],reg:=[],lps:=[] } [.val (.pointer d),.val (.string name),.val (.int .i64 n)] Go.Proofs.Tryz.func126 (by kernel_rfl) (by kernel_rfl) (by kernel_rfl) (by kernel_rfl) h
def zf32 (s:ByteArray) (prefix_:ByteArray):Prog :=
.must (decide (((ByteArray.size s:Nat):Int)>=((ByteArray.size prefix_:Nat):Int))=true->0<=((ByteArray.size prefix_:Nat):Int)/\((ByteArray.size prefix_:Nat):Int)<=((ByteArray.size s:Nat):Int)) <|
.lt (.bool) (decide (((ByteArray.size s:Nat):Int)>=((ByteArray.size prefix_:Nat):Int)) && ByteArray.toList (ByteArray.extract s 0 (Int.toNat (((ByteArray.size prefix_:Nat):Int)))) == ByteArray.toList prefix_) λb0 =>
.done 0 [.bool b0]
theorem zf32_calls (s prefix_:ByteArray) {w:World} {R:List Value->World->Prop} (h:(zf32 s prefix_).wp P (λ_=>True) w λe vs w'=>e=0/\R vs w'):Ret P F.a30 #[.string s,.string prefix_] w R:=dS (n:=18) (rv:=[.tmp 4]) { cnd:=[],blk:=[],reg:=[],lps:=[] } [.val (.string s),.val (.string prefix_)] Go.Proofs.Tryz.func144 (by kernel_rfl) (by kernel_rfl) (by kernel_rfl) (by kernel_rfl) h
def z04j (data:Sl) (a b:Int) (limit:Int):Prog :=
.loop 1 [.one (.int .i64),.one (.int .i64),.one (.int .i64),.one .bool,.one .bool] (a,(b,(limit,(true,(true,()))))) (u5 λ(n0 n1 n2:Int) b3 b4 =>
.bind 2 [.one (.int .i64),.one (.int .i64),.one (.int .i64),.one .bool,.one .bool] (
.lt (.int .i64) (IntKind.wrap .i64 (n1-n0)) λ(n5:Int) =>
.ite (decide (n5<=12)) (
.call F.a83 [data.v,.int .i64 n0,.int .i64 n1] (.tup []) (u0 <|
.done 0 [])) (
.ite (n2 == 0) (
.call F.a82 [data.v,.int .i64 n0,.int .i64 n1] (.tup []) (u0 <|
.done 0 [])) (
.bind 3 [.one (.int .i64)] (
.ite (not b3) (
.call F.a80 [data.v,.int .i64 n0,.int .i64 n1] (.tup []) (u0 <|
.lt (.int .i64) (IntKind.wrap .i64 (n2-1)) λ(n6:Int) =>
.done 3 [.int .i64 n6])) (
.done 3 [.int .i64 n2])) (u1 λ(n7:Int) =>
.call F.a81 [data.v,.int .i64 n0,.int .i64 n1] (.tup [.one (.int .i64),.one (.int .i64)]) (u2 λ(n8 n9:Int) =>
.lt (.int .i64) (n8) λ(n10:Int) =>
.lt (.int .i64) (n9) λ(n11:Int) =>
.bind 3 [.one (.int .i64),.one (.int .i64)] (
.ite (n11 == 2) (
.call F.a92 [data.v,.int .i64 n0,.int .i64 n1] (.tup []) (u0 <|
.lt (.int .i64) (IntKind.wrap .i64 (IntKind.wrap .i64 (n1-1)-IntKind.wrap .i64 (n10-n0))) λ(n12:Int) =>
.done 3 [.int .i64 n12,.int .i64 1])) (
.done 3 [.int .i64 n10,.int .i64 n11])) (u2 λ(n13 n14:Int) =>
.bind 3 [] (
.ite (b3 && b4 && n14 == 1) (
.call F.a88 [data.v,.int .i64 n0,.int .i64 n1] sB (u1 λb15 =>
.ite (b15) (
.done 0 []) (
.done 3 []))) (
.done 3 [])) (u0 <|
.bind 3 [.one .bool] (
.tick <|
.ex [.adr] (c1 λa16=>decide (n0>0)=true->0<=IntKind.wrap .i64 (n0-1)/\IntKind.wrap .i64 (n0-1)<((data.len:Nat):Int)/\data.a=some a16) (u1 λa17 =>
.read (decide (n0>0)=true) (ld T.a32 (Addr.add a17 (Int.toNat (IntKind.wrap .i64 (n0-1))*1))) sS (u1 λs18 =>
.ex [.adr] (c1 λa19=>decide (n0>0)=true->0<=n13/\n13<((data.len:Nat):Int)/\data.a=some a19) (u1 λa20 =>
.read (decide (n0>0)=true) (ld T.a32 (Addr.add a20 (Int.toNat n13*1))) sS (u1 λs21 =>
.ite (decide (n0>0)) (
.call F.a1 [.string s18,.string s21] sB (u1 λb22 =>
.untick <|
.done 3 [.bool (not b22)])) (
.untick <|
.done 3 [.bool false])))))) (u1 λb23 =>
.ite (b23) (
.call F.a89 [data.v,.int .i64 n0,.int .i64 n1,.int .i64 n13] (sI .i64) (u1 λ(n24:Int) =>
.lt (.int .i64) (n24) λ(n25:Int) =>
.lt (.int .i64) (n25) λ(n26:Int) =>
.done 2 [.int .i64 n26,.int .i64 n1,.int .i64 n7,.bool b3,.bool b4])) (
.call F.a90 [data.v,.int .i64 n0,.int .i64 n1,.int .i64 n13] (.tup [.one (.int .i64),.one .bool]) (u2 λ(n27:Int) b28 =>
.lt (.int .i64) (n27) λ(n29:Int) =>
.lt (.bool) (b28) λb30 =>
.lt (.bool) (b30) λb31 =>
.lt (.int .i64) (IntKind.wrap .i64 (n29-n0)) λ(n32:Int) =>
.lt (.int .i64) (IntKind.wrap .i64 (n1-n29)) λ(n33:Int) =>
.lt (.int .i64) (IntKind.wrap .i64 (Int.tdiv n5 8)) λ(n34:Int) =>
.bind 3 [.one (.int .i64),.one (.int .i64),.one .bool] (
.ite (decide (n32<n33)) (
.lt (.bool) (decide (n32>=n34)) λb35 =>
.call F.a91 [data.v,.int .i64 n0,.int .i64 n29,.int .i64 n7] (.tup []) (u0 <|
.lt (.int .i64) (IntKind.wrap .i64 (n29+1)) λ(n36:Int) =>
.done 3 [.int .i64 n36,.int .i64 n1,.bool b35])) (
.lt (.bool) (decide (n33>=n34)) λb37 =>
.call F.a91 [data.v,.int .i64 (IntKind.wrap .i64 (n29+1)),.int .i64 n1,.int .i64 n7] (.tup []) (u0 <|
.lt (.int .i64) (n29) λ(n38:Int) =>
.done 3 [.int .i64 n0,.int .i64 n38,.bool b37]))) (u3 λ(n39 n40:Int) b41 =>
.done 2 [.int .i64 n39,.int .i64 n40,.int .i64 n7,.bool b41,.bool b31]))))))))))) (u5 λ(n42 n43 n44:Int) b45 b46 =>
.done 1 [.int .i64 n42,.int .i64 n43,.int .i64 n44,.bool b45,.bool b46]))
def z04p (x:Int):Prog :=
.call F.a33 [.int .u64 x] (sI .i64) (u1 λ(n0:Int) =>
.lt (.int .i64) (n0) λ(n1:Int) =>
.done 0 [.int .i64 n1])
def z04w (data:Sl) (a:Int) (b:Int):Prog :=
.lt (.int .i64) (IntKind.wrap .i64 (a+1)) λ(n0:Int) =>
.bind 1 [] (
.loop 2 [.one (.int .i64)] (n0,()) (u1 λ(n1:Int) =>
.ite (decide (n1<b)) (
.bind 3 [] (
.lt (.int .i64) (n1) λ(n2:Int) =>
.bind 4 [] (
.loop 5 [.one (.int .i64)] (n2,()) (u1 λ(n3:Int) =>
.bind 6 [.one .bool] (
.tick <|
.ex [.adr] (c1 λa4=>decide (n3>a)=true->0<=n3/\n3<((data.len:Nat):Int)/\data.a=some a4) (u1 λa5 =>
.read (decide (n3>a)=true) (ld T.a32 (Addr.add a5 (Int.toNat n3*1))) sS (u1 λs6 =>
.ex [.adr] (c1 λa7=>decide (n3>a)=true->0<=IntKind.wrap .i64 (n3-1)/\IntKind.wrap .i64 (n3-1)<((data.len:Nat):Int)/\data.a=some a7) (u1 λa8 =>
.read (decide (n3>a)=true) (ld T.a32 (Addr.add a8 (Int.toNat (IntKind.wrap .i64 (n3-1))*1))) sS (u1 λs9 =>
.ite (decide (n3>a)) (
.call F.a1 [.string s6,.string s9] sB (u1 λb10 =>
.untick <|
.done 6 [.bool b10])) (
.untick <|
.done 6 [.bool false])))))) (u1 λb11 =>
.ite (b11) (
.bind 6 [] (
.tick <|
.ex [.adr] (c1 λa12=>0<=IntKind.wrap .i64 (n3-1)/\IntKind.wrap .i64 (n3-1)<((data.len:Nat):Int)/\data.a=some a12) (u1 λa13 =>
.read True (ld T.a32 (Addr.add a13 (Int.toNat (IntKind.wrap .i64 (n3-1))*1))) sS (u1 λs14 =>
.ex [.adr] (c1 λa15=>0<=n3/\n3<((data.len:Nat):Int)/\data.a=some a15) (u1 λa16 =>
.read True (ld T.a32 (Addr.add a16 (Int.toNat n3*1))) sS (u1 λs17 =>
.ex [.adr] (c1 λa18=>0<=n3/\n3<((data.len:Nat):Int)/\data.a=some a18) (u1 λa19 =>
.actU (st T.a32 (Addr.add a19 (Int.toNat n3*1)) (.string s14)) <|
.ex [.adr] (c1 λa20=>0<=IntKind.wrap .i64 (n3-1)/\IntKind.wrap .i64 (n3-1)<((data.len:Nat):Int)/\data.a=some a20) (u1 λa21 =>
.actU (st T.a32 (Addr.add a21 (Int.toNat (IntKind.wrap .i64 (n3-1))*1)) (.string s17)) <|
.untick <|
.done 6 []))))))) (u0 <|
.lt (.int .i64) (IntKind.wrap .i64 (n3-1)) λ(n22:Int) =>
.done 5 [.int .i64 n22])) (
.done 4 [])))) (u0 <|
.done 3 [])) (u0 <|
.lt (.int .i64) (IntKind.wrap .i64 (n1+1)) λ(n23:Int) =>
.done 2 [.int .i64 n23])) (
.done 1 []))) (u0 <|
.done 0 [])
def z04u (data:Sl) (a:Int) (b:Int):Prog :=
.lt (.int .i64) (a) λ(n0:Int) =>
.lt (.int .i64) (IntKind.wrap .i64 (b-a)) λ(n1:Int) =>
.lt (.int .i64) (IntKind.wrap .i64 (Int.tdiv (IntKind.wrap .i64 (n1-1)) 2)) λ(n2:Int) =>
.bind 1 [] (
.loop 2 [.one (.int .i64)] (n2,()) (u1 λ(n3:Int) =>
.ite (decide (n3>=0)) (
.call F.a93 [data.v,.int .i64 n3,.int .i64 n1,.int .i64 n0] (.tup []) (u0 <|
.lt (.int .i64) (IntKind.wrap .i64 (n3-1)) λ(n4:Int) =>
.done 2 [.int .i64 n4])) (
.done 1 []))) (u0 <|
.lt (.int .i64) (IntKind.wrap .i64 (n1-1)) λ(n5:Int) =>
.bind 1 [] (
.loop 2 [.one (.int .i64)] (n5,()) (u1 λ(n6:Int) =>
.ite (decide (n6>=0)) (
.bind 3 [] (
.tick <|
.ex [.adr] (c1 λa7=>0<=IntKind.wrap .i64 (n0+n6)/\IntKind.wrap .i64 (n0+n6)<((data.len:Nat):Int)/\data.a=some a7) (u1 λa8 =>
.read True (ld T.a32 (Addr.add a8 (Int.toNat (IntKind.wrap .i64 (n0+n6))*1))) sS (u1 λs9 =>
.ex [.adr] (c1 λa10=>0<=n0/\n0<((data.len:Nat):Int)/\data.a=some a10) (u1 λa11 =>
.read True (ld T.a32 (Addr.add a11 (Int.toNat n0*1))) sS (u1 λs12 =>
.ex [.adr] (c1 λa13=>0<=n0/\n0<((data.len:Nat):Int)/\data.a=some a13) (u1 λa14 =>
.actU (st T.a32 (Addr.add a14 (Int.toNat n0*1)) (.string s9)) <|
.ex [.adr] (c1 λa15=>0<=IntKind.wrap .i64 (n0+n6)/\IntKind.wrap .i64 (n0+n6)<((data.len:Nat):Int)/\data.a=some a15) (u1 λa16 =>
.actU (st T.a32 (Addr.add a16 (Int.toNat (IntKind.wrap .i64 (n0+n6))*1)) (.string s12)) <|
.untick <|
.done 3 []))))))) (u0 <|
.call F.a93 [data.v,.int .i64 0,.int .i64 n6,.int .i64 n0] (.tup []) (u0 <|
.lt (.int .i64) (IntKind.wrap .i64 (n6-1)) λ(n17:Int) =>
.done 2 [.int .i64 n17]))) (
.done 1 []))) (u0 <|
.done 0 []))
def z04n (data:Sl) (a:Int) (b:Int):Prog :=
.lt (.int .i64) (IntKind.wrap .i64 (b-a)) λ(n0:Int) =>
.bind 1 [] (
.ite (decide (n0>=8)) (
.act (new T.a31) sA (u1 λa1 =>
.actU (st T.a31 a1 (.int .u64 (IntKind.wrap .u64 n0))) <|
.call F.a86 [.int .i64 n0] (sI .u64) (u1 λ(n2:Int) =>
.lt (.int .u64) (n2) λ(n3:Int) =>
.lt (.int .i64) (IntKind.wrap .i64 (IntKind.wrap .i64 (a+IntKind.wrap .i64 (IntKind.wrap .i64 (Int.tdiv n0 4)*2))-1)) λ(n4:Int) =>
.bind 2 [] (
.loop 3 [.one (.int .i64)] (n4,()) (u1 λ(n5:Int) =>
.ite (decide (n5<=IntKind.wrap .i64 (IntKind.wrap .i64 (a+IntKind.wrap .i64 (IntKind.wrap .i64 (Int.tdiv n0 4)*2))+1))) (
.call F.a94 [.pointer (some a1)] (sI .u64) (u1 λ(n6:Int) =>
.lt (.int .i64) (IntKind.wrap .i64 (IntKind.wrap .u64 (((BitVec.toNat (BitVec.ofInt 64 n6 &&& BitVec.ofInt 64 (IntKind.wrap .u64 (n3-1))):Nat):Int)))) λ(n7:Int) =>
.bind 4 [.one (.int .i64)] (
.ite (decide (n7>=n0)) (
.lt (.int .i64) (IntKind.wrap .i64 (n7-n0)) λ(n8:Int) =>
.done 4 [.int .i64 n8]) (
.done 4 [.int .i64 n7])) (u1 λ(n9:Int) =>
.bind 4 [] (
.tick <|
.ex [.adr] (c1 λa10=>0<=IntKind.wrap .i64 (a+n9)/\IntKind.wrap .i64 (a+n9)<((data.len:Nat):Int)/\data.a=some a10) (u1 λa11 =>
.read True (ld T.a32 (Addr.add a11 (Int.toNat (IntKind.wrap .i64 (a+n9))*1))) sS (u1 λs12 =>
.ex [.adr] (c1 λa13=>0<=n5/\n5<((data.len:Nat):Int)/\data.a=some a13) (u1 λa14 =>
.read True (ld T.a32 (Addr.add a14 (Int.toNat n5*1))) sS (u1 λs15 =>
.ex [.adr] (c1 λa16=>0<=n5/\n5<((data.len:Nat):Int)/\data.a=some a16) (u1 λa17 =>
.actU (st T.a32 (Addr.add a17 (Int.toNat n5*1)) (.string s12)) <|
.ex [.adr] (c1 λa18=>0<=IntKind.wrap .i64 (a+n9)/\IntKind.wrap .i64 (a+n9)<((data.len:Nat):Int)/\data.a=some a18) (u1 λa19 =>
.actU (st T.a32 (Addr.add a19 (Int.toNat (IntKind.wrap .i64 (a+n9))*1)) (.string s15)) <|
.untick <|
.done 4 []))))))) (u0 <|
.lt (.int .i64) (IntKind.wrap .i64 (n5+1)) λ(n20:Int) =>
.done 3 [.int .i64 n20])))) (
.done 2 []))) (u0 <|
.done 1 [])))) (
.done 1 [])) (u0 <|
.done 0 [])
def z04q (data:Sl) (a:Int) (b:Int):Prog :=
.lt (.int .i64) (IntKind.wrap .i64 (b-a)) λ(n0:Int) =>
.act (new T.a10) sA (u1 λa1 =>
.lt (.int .i64) (IntKind.wrap .i64 (a+IntKind.wrap .i64 (IntKind.wrap .i64 (Int.tdiv n0 4)*1))) λ(n2:Int) =>
.lt (.int .i64) (IntKind.wrap .i64 (a+IntKind.wrap .i64 (IntKind.wrap .i64 (Int.tdiv n0 4)*2))) λ(n3:Int) =>
.lt (.int .i64) (IntKind.wrap .i64 (a+IntKind.wrap .i64 (IntKind.wrap .i64 (Int.tdiv n0 4)*3))) λ(n4:Int) =>
.bind 1 [.one (.int .i64)] (
.ite (decide (n0>=8)) (
.bind 2 [.one (.int .i64),.one (.int .i64),.one (.int .i64)] (
.ite (decide (n0>=50)) (
.call F.a84 [data.v,.int .i64 n2,.pointer (some a1)] (sI .i64) (u1 λ(n5:Int) =>
.lt (.int .i64) (n5) λ(n6:Int) =>
.call F.a84 [data.v,.int .i64 n3,.pointer (some a1)] (sI .i64) (u1 λ(n7:Int) =>
.lt (.int .i64) (n7) λ(n8:Int) =>
.call F.a84 [data.v,.int .i64 n4,.pointer (some a1)] (sI .i64) (u1 λ(n9:Int) =>
.lt (.int .i64) (n9) λ(n10:Int) =>
.done 2 [.int .i64 n6,.int .i64 n8,.int .i64 n10])))) (
.done 2 [.int .i64 n2,.int .i64 n3,.int .i64 n4])) (u3 λ(n11 n12 n13:Int) =>
.call F.a85 [data.v,.int .i64 n11,.int .i64 n12,.int .i64 n13,.pointer (some a1)] (sI .i64) (u1 λ(n14:Int) =>
.lt (.int .i64) (n14) λ(n15:Int) =>
.done 1 [.int .i64 n15]))) (
.done 1 [.int .i64 n3])) (u1 λ(n16:Int) =>
.read True (ld T.a10 a1) (sI .i64) (u1 λ(n17:Int) =>
.lt (.bool) (n17 == 0) λb18 =>
.ite (b18) (
.lt (.int .i64) (n16) λ(n19:Int) =>
.done 0 [.int .i64 n19,.int .i64 1]) (
.lt (.bool) (n17 == 12) λb20 =>
.ite (b20) (
.lt (.int .i64) (n16) λ(n21:Int) =>
.done 0 [.int .i64 n21,.int .i64 2]) (
.lt (.int .i64) (n16) λ(n22:Int) =>
.done 0 [.int .i64 n22,.int .i64 0])))))
def z04i (data:Sl) (a:Int) (b:Int):Prog :=
.lt (.int .i64) (a) λ(n0:Int) =>
.lt (.int .i64) (IntKind.wrap .i64 (b-1)) λ(n1:Int) =>
.bind 1 [] (
.loop 2 [.one (.int .i64),.one (.int .i64)] (n0,(n1,())) (u2 λ(n2 n3:Int) =>
.ite (decide (n2<n3)) (
.bind 3 [] (
.tick <|
.ex [.adr] (c1 λa4=>0<=n3/\n3<((data.len:Nat):Int)/\data.a=some a4) (u1 λa5 =>
.read True (ld T.a32 (Addr.add a5 (Int.toNat n3*1))) sS (u1 λs6 =>
.ex [.adr] (c1 λa7=>0<=n2/\n2<((data.len:Nat):Int)/\data.a=some a7) (u1 λa8 =>
.read True (ld T.a32 (Addr.add a8 (Int.toNat n2*1))) sS (u1 λs9 =>
.ex [.adr] (c1 λa10=>0<=n2/\n2<((data.len:Nat):Int)/\data.a=some a10) (u1 λa11 =>
.actU (st T.a32 (Addr.add a11 (Int.toNat n2*1)) (.string s6)) <|
.ex [.adr] (c1 λa12=>0<=n3/\n3<((data.len:Nat):Int)/\data.a=some a12) (u1 λa13 =>
.actU (st T.a32 (Addr.add a13 (Int.toNat n3*1)) (.string s9)) <|
.untick <|
.done 3 []))))))) (u0 <|
.lt (.int .i64) (IntKind.wrap .i64 (n2+1)) λ(n14:Int) =>
.lt (.int .i64) (IntKind.wrap .i64 (n3-1)) λ(n15:Int) =>
.done 2 [.int .i64 n14,.int .i64 n15])) (
.done 1 []))) (u0 <|
.done 0 [])
def z04o (data:Sl) (a:Int) (b:Int):Prog :=
.lt (.int .i64) (IntKind.wrap .i64 (a+1)) λ(n0:Int) =>
.bind 1 [] (
.loop 2 [.one (.int .i64),.one (.int .i64)] (n0,(0,())) (u2 λ(n1 n2:Int) =>
.ite (decide (n2<5)) (
.bind 3 [.one (.int .i64)] (
.bind 4 [.one (.int .i64)] (
.loop 5 [.one (.int .i64)] (n1,()) (u1 λ(n3:Int) =>
.bind 6 [.one .bool] (
.tick <|
.ex [.adr] (c1 λa4=>decide (n3<b)=true->0<=n3/\n3<((data.len:Nat):Int)/\data.a=some a4) (u1 λa5 =>
.read (decide (n3<b)=true) (ld T.a32 (Addr.add a5 (Int.toNat n3*1))) sS (u1 λs6 =>
.ex [.adr] (c1 λa7=>decide (n3<b)=true->0<=IntKind.wrap .i64 (n3-1)/\IntKind.wrap .i64 (n3-1)<((data.len:Nat):Int)/\data.a=some a7) (u1 λa8 =>
.read (decide (n3<b)=true) (ld T.a32 (Addr.add a8 (Int.toNat (IntKind.wrap .i64 (n3-1))*1))) sS (u1 λs9 =>
.ite (decide (n3<b)) (
.call F.a1 [.string s6,.string s9] sB (u1 λb10 =>
.untick <|
.done 6 [.bool (not b10)])) (
.untick <|
.done 6 [.bool false])))))) (u1 λb11 =>
.ite (b11) (
.lt (.int .i64) (IntKind.wrap .i64 (n3+1)) λ(n12:Int) =>
.done 5 [.int .i64 n12]) (
.done 4 [.int .i64 n3])))) (u1 λ(n13:Int) =>
.ite (n13 == b) (
.done 0 [.bool true]) (
.ite (decide (IntKind.wrap .i64 (b-a)<50)) (
.done 0 [.bool false]) (
.bind 4 [] (
.tick <|
.ex [.adr] (c1 λa14=>0<=IntKind.wrap .i64 (n13-1)/\IntKind.wrap .i64 (n13-1)<((data.len:Nat):Int)/\data.a=some a14) (u1 λa15 =>
.read True (ld T.a32 (Addr.add a15 (Int.toNat (IntKind.wrap .i64 (n13-1))*1))) sS (u1 λs16 =>
.ex [.adr] (c1 λa17=>0<=n13/\n13<((data.len:Nat):Int)/\data.a=some a17) (u1 λa18 =>
.read True (ld T.a32 (Addr.add a18 (Int.toNat n13*1))) sS (u1 λs19 =>
.ex [.adr] (c1 λa20=>0<=n13/\n13<((data.len:Nat):Int)/\data.a=some a20) (u1 λa21 =>
.actU (st T.a32 (Addr.add a21 (Int.toNat n13*1)) (.string s16)) <|
.ex [.adr] (c1 λa22=>0<=IntKind.wrap .i64 (n13-1)/\IntKind.wrap .i64 (n13-1)<((data.len:Nat):Int)/\data.a=some a22) (u1 λa23 =>
.actU (st T.a32 (Addr.add a23 (Int.toNat (IntKind.wrap .i64 (n13-1))*1)) (.string s19)) <|
.untick <|
.done 4 []))))))) (u0 <|
.bind 4 [] (
.ite (decide (IntKind.wrap .i64 (n13-a)>=2)) (
.lt (.int .i64) (IntKind.wrap .i64 (n13-1)) λ(n24:Int) =>
.bind 5 [] (
.loop 6 [.one (.int .i64)] (n24,()) (u1 λ(n25:Int) =>
.ite (decide (n25>=1)) (
.tick <|
.ex [.adr] (c1 λa26=>0<=n25/\n25<((data.len:Nat):Int)/\data.a=some a26) (u1 λa27 =>
.read True (ld T.a32 (Addr.add a27 (Int.toNat n25*1))) sS (u1 λs28 =>
.ex [.adr] (c1 λa29=>0<=IntKind.wrap .i64 (n25-1)/\IntKind.wrap .i64 (n25-1)<((data.len:Nat):Int)/\data.a=some a29) (u1 λa30 =>
.read True (ld T.a32 (Addr.add a30 (Int.toNat (IntKind.wrap .i64 (n25-1))*1))) sS (u1 λs31 =>
.call F.a1 [.string s28,.string s31] sB (u1 λb32 =>
.untick <|
.ite (not b32) (
.done 5 []) (
.bind 7 [] (
.tick <|
.ex [.adr] (c1 λa33=>0<=IntKind.wrap .i64 (n25-1)/\IntKind.wrap .i64 (n25-1)<((data.len:Nat):Int)/\data.a=some a33) (u1 λa34 =>
.read True (ld T.a32 (Addr.add a34 (Int.toNat (IntKind.wrap .i64 (n25-1))*1))) sS (u1 λs35 =>
.ex [.adr] (c1 λa36=>0<=n25/\n25<((data.len:Nat):Int)/\data.a=some a36) (u1 λa37 =>
.read True (ld T.a32 (Addr.add a37 (Int.toNat n25*1))) sS (u1 λs38 =>
.ex [.adr] (c1 λa39=>0<=n25/\n25<((data.len:Nat):Int)/\data.a=some a39) (u1 λa40 =>
.actU (st T.a32 (Addr.add a40 (Int.toNat n25*1)) (.string s35)) <|
.ex [.adr] (c1 λa41=>0<=IntKind.wrap .i64 (n25-1)/\IntKind.wrap .i64 (n25-1)<((data.len:Nat):Int)/\data.a=some a41) (u1 λa42 =>
.actU (st T.a32 (Addr.add a42 (Int.toNat (IntKind.wrap .i64 (n25-1))*1)) (.string s38)) <|
.untick <|
.done 7 []))))))) (u0 <|
.lt (.int .i64) (IntKind.wrap .i64 (n25-1)) λ(n43:Int) =>
.done 6 [.int .i64 n43])))))))) (
.done 5 []))) (u0 <|
.done 4 [])) (
.done 4 [])) (u0 <|
.bind 4 [] (
.ite (decide (IntKind.wrap .i64 (b-n13)>=2)) (
.lt (.int .i64) (IntKind.wrap .i64 (n13+1)) λ(n44:Int) =>
.bind 5 [] (
.loop 6 [.one (.int .i64)] (n44,()) (u1 λ(n45:Int) =>
.ite (decide (n45<b)) (
.tick <|
.ex [.adr] (c1 λa46=>0<=n45/\n45<((data.len:Nat):Int)/\data.a=some a46) (u1 λa47 =>
.read True (ld T.a32 (Addr.add a47 (Int.toNat n45*1))) sS (u1 λs48 =>
.ex [.adr] (c1 λa49=>0<=IntKind.wrap .i64 (n45-1)/\IntKind.wrap .i64 (n45-1)<((data.len:Nat):Int)/\data.a=some a49) (u1 λa50 =>
.read True (ld T.a32 (Addr.add a50 (Int.toNat (IntKind.wrap .i64 (n45-1))*1))) sS (u1 λs51 =>
.call F.a1 [.string s48,.string s51] sB (u1 λb52 =>
.untick <|
.ite (not b52) (
.done 5 []) (
.bind 7 [] (
.tick <|
.ex [.adr] (c1 λa53=>0<=IntKind.wrap .i64 (n45-1)/\IntKind.wrap .i64 (n45-1)<((data.len:Nat):Int)/\data.a=some a53) (u1 λa54 =>
.read True (ld T.a32 (Addr.add a54 (Int.toNat (IntKind.wrap .i64 (n45-1))*1))) sS (u1 λs55 =>
.ex [.adr] (c1 λa56=>0<=n45/\n45<((data.len:Nat):Int)/\data.a=some a56) (u1 λa57 =>
.read True (ld T.a32 (Addr.add a57 (Int.toNat n45*1))) sS (u1 λs58 =>
.ex [.adr] (c1 λa59=>0<=n45/\n45<((data.len:Nat):Int)/\data.a=some a59) (u1 λa60 =>
.actU (st T.a32 (Addr.add a60 (Int.toNat n45*1)) (.string s55)) <|
.ex [.adr] (c1 λa61=>0<=IntKind.wrap .i64 (n45-1)/\IntKind.wrap .i64 (n45-1)<((data.len:Nat):Int)/\data.a=some a61) (u1 λa62 =>
.actU (st T.a32 (Addr.add a62 (Int.toNat (IntKind.wrap .i64 (n45-1))*1)) (.string s58)) <|
.untick <|
.done 7 []))))))) (u0 <|
.lt (.int .i64) (IntKind.wrap .i64 (n45+1)) λ(n63:Int) =>
.done 6 [.int .i64 n63])))))))) (
.done 5 []))) (u0 <|
.done 4 [])) (
.done 4 [])) (u0 <|
.done 3 [.int .i64 n13]))))))) (u1 λ(n64:Int) =>
.lt (.int .i64) (IntKind.wrap .i64 (n2+1)) λ(n65:Int) =>
.done 2 [.int .i64 n64,.int .i64 n65])) (
.done 1 []))) (u0 <|
.done 0 [.bool false])
def zf1 (x:ByteArray) (y:ByteArray):Prog :=
.bind 1 [.one .bool] (
.call F.a2 [.string x] sB (u1 λb0 =>
.ite (b0) (
.call F.a2 [.string y] sB (u1 λb1 =>
.lt (.bool) (not b1 || Op.bytesLess (ByteArray.toList x) (ByteArray.toList y)) λb2 =>
.done 1 [.bool b2])) (
.lt (.bool) (Op.bytesLess (ByteArray.toList x) (ByteArray.toList y)) λb3 =>
.done 1 [.bool b3]))) (u1 λb4 =>
.done 0 [.bool b4])
def z04k (data:Sl) (a b:Int) (pivot:Int):Prog :=
.bind 1 [] (
.tick <|
.ex [.adr] (c1 λa0=>0<=pivot/\pivot<((data.len:Nat):Int)/\data.a=some a0) (u1 λa1 =>
.read True (ld T.a32 (Addr.add a1 (Int.toNat pivot*1))) sS (u1 λs2 =>
.ex [.adr] (c1 λa3=>0<=a/\a<((data.len:Nat):Int)/\data.a=some a3) (u1 λa4 =>
.read True (ld T.a32 (Addr.add a4 (Int.toNat a*1))) sS (u1 λs5 =>
.ex [.adr] (c1 λa6=>0<=a/\a<((data.len:Nat):Int)/\data.a=some a6) (u1 λa7 =>
.actU (st T.a32 (Addr.add a7 (Int.toNat a*1)) (.string s2)) <|
.ex [.adr] (c1 λa8=>0<=pivot/\pivot<((data.len:Nat):Int)/\data.a=some a8) (u1 λa9 =>
.actU (st T.a32 (Addr.add a9 (Int.toNat pivot*1)) (.string s5)) <|
.untick <|
.done 1 []))))))) (u0 <|
.lt (.int .i64) (IntKind.wrap .i64 (a+1)) λ(n10:Int) =>
.lt (.int .i64) (IntKind.wrap .i64 (b-1)) λ(n11:Int) =>
.bind 1 [.one (.int .i64)] (
.loop 2 [.one (.int .i64),.one (.int .i64)] (n10,(n11,())) (u2 λ(n12 n13:Int) =>
.bind 3 [.one (.int .i64),.one (.int .i64)] (
.bind 4 [.one (.int .i64)] (
.loop 5 [.one (.int .i64)] (n12,()) (u1 λ(n14:Int) =>
.bind 6 [.one .bool] (
.tick <|
.ex [.adr] (c1 λa15=>decide (n14<=n13)=true->0<=a/\a<((data.len:Nat):Int)/\data.a=some a15) (u1 λa16 =>
.read (decide (n14<=n13)=true) (ld T.a32 (Addr.add a16 (Int.toNat a*1))) sS (u1 λs17 =>
.ex [.adr] (c1 λa18=>decide (n14<=n13)=true->0<=n14/\n14<((data.len:Nat):Int)/\data.a=some a18) (u1 λa19 =>
.read (decide (n14<=n13)=true) (ld T.a32 (Addr.add a19 (Int.toNat n14*1))) sS (u1 λs20 =>
.ite (decide (n14<=n13)) (
.call F.a1 [.string s17,.string s20] sB (u1 λb21 =>
.untick <|
.done 6 [.bool (not b21)])) (
.untick <|
.done 6 [.bool false])))))) (u1 λb22 =>
.ite (b22) (
.lt (.int .i64) (IntKind.wrap .i64 (n14+1)) λ(n23:Int) =>
.done 5 [.int .i64 n23]) (
.done 4 [.int .i64 n14])))) (u1 λ(n24:Int) =>
.bind 4 [.one (.int .i64)] (
.loop 5 [.one (.int .i64)] (n13,()) (u1 λ(n25:Int) =>
.bind 6 [.one .bool] (
.tick <|
.ex [.adr] (c1 λa26=>decide (n24<=n25)=true->0<=a/\a<((data.len:Nat):Int)/\data.a=some a26) (u1 λa27 =>
.read (decide (n24<=n25)=true) (ld T.a32 (Addr.add a27 (Int.toNat a*1))) sS (u1 λs28 =>
.ex [.adr] (c1 λa29=>decide (n24<=n25)=true->0<=n25/\n25<((data.len:Nat):Int)/\data.a=some a29) (u1 λa30 =>
.read (decide (n24<=n25)=true) (ld T.a32 (Addr.add a30 (Int.toNat n25*1))) sS (u1 λs31 =>
.ite (decide (n24<=n25)) (
.call F.a1 [.string s28,.string s31] sB (u1 λb32 =>
.untick <|
.done 6 [.bool b32])) (
.untick <|
.done 6 [.bool false])))))) (u1 λb33 =>
.ite (b33) (
.lt (.int .i64) (IntKind.wrap .i64 (n25-1)) λ(n34:Int) =>
.done 5 [.int .i64 n34]) (
.done 4 [.int .i64 n25])))) (u1 λ(n35:Int) =>
.ite (decide (n24>n35)) (
.done 1 [.int .i64 n24]) (
.bind 4 [] (
.tick <|
.ex [.adr] (c1 λa36=>0<=n35/\n35<((data.len:Nat):Int)/\data.a=some a36) (u1 λa37 =>
.read True (ld T.a32 (Addr.add a37 (Int.toNat n35*1))) sS (u1 λs38 =>
.ex [.adr] (c1 λa39=>0<=n24/\n24<((data.len:Nat):Int)/\data.a=some a39) (u1 λa40 =>
.read True (ld T.a32 (Addr.add a40 (Int.toNat n24*1))) sS (u1 λs41 =>
.ex [.adr] (c1 λa42=>0<=n24/\n24<((data.len:Nat):Int)/\data.a=some a42) (u1 λa43 =>
.actU (st T.a32 (Addr.add a43 (Int.toNat n24*1)) (.string s38)) <|
.ex [.adr] (c1 λa44=>0<=n35/\n35<((data.len:Nat):Int)/\data.a=some a44) (u1 λa45 =>
.actU (st T.a32 (Addr.add a45 (Int.toNat n35*1)) (.string s41)) <|
.untick <|
.done 4 []))))))) (u0 <|
.lt (.int .i64) (IntKind.wrap .i64 (n24+1)) λ(n46:Int) =>
.lt (.int .i64) (IntKind.wrap .i64 (n35-1)) λ(n47:Int) =>
.done 3 [.int .i64 n46,.int .i64 n47]))))) (u2 λ(n48 n49:Int) =>
.done 2 [.int .i64 n48,.int .i64 n49]))) (u1 λ(n50:Int) =>
.lt (.int .i64) (n50) λ(n51:Int) =>
.done 0 [.int .i64 n51]))
def z04v (data:Sl) (a b:Int) (pivot:Int):Prog :=
.bind 1 [] (
.tick <|
.ex [.adr] (c1 λa0=>0<=pivot/\pivot<((data.len:Nat):Int)/\data.a=some a0) (u1 λa1 =>
.read True (ld T.a32 (Addr.add a1 (Int.toNat pivot*1))) sS (u1 λs2 =>
.ex [.adr] (c1 λa3=>0<=a/\a<((data.len:Nat):Int)/\data.a=some a3) (u1 λa4 =>
.read True (ld T.a32 (Addr.add a4 (Int.toNat a*1))) sS (u1 λs5 =>
.ex [.adr] (c1 λa6=>0<=a/\a<((data.len:Nat):Int)/\data.a=some a6) (u1 λa7 =>
.actU (st T.a32 (Addr.add a7 (Int.toNat a*1)) (.string s2)) <|
.ex [.adr] (c1 λa8=>0<=pivot/\pivot<((data.len:Nat):Int)/\data.a=some a8) (u1 λa9 =>
.actU (st T.a32 (Addr.add a9 (Int.toNat pivot*1)) (.string s5)) <|
.untick <|
.done 1 []))))))) (u0 <|
.lt (.int .i64) (IntKind.wrap .i64 (a+1)) λ(n10:Int) =>
.lt (.int .i64) (IntKind.wrap .i64 (b-1)) λ(n11:Int) =>
.bind 1 [.one (.int .i64)] (
.loop 2 [.one (.int .i64)] (n10,()) (u1 λ(n12:Int) =>
.bind 3 [.one .bool] (
.tick <|
.ex [.adr] (c1 λa13=>decide (n12<=n11)=true->0<=n12/\n12<((data.len:Nat):Int)/\data.a=some a13) (u1 λa14 =>
.read (decide (n12<=n11)=true) (ld T.a32 (Addr.add a14 (Int.toNat n12*1))) sS (u1 λs15 =>
.ex [.adr] (c1 λa16=>decide (n12<=n11)=true->0<=a/\a<((data.len:Nat):Int)/\data.a=some a16) (u1 λa17 =>
.read (decide (n12<=n11)=true) (ld T.a32 (Addr.add a17 (Int.toNat a*1))) sS (u1 λs18 =>
.ite (decide (n12<=n11)) (
.call F.a1 [.string s15,.string s18] sB (u1 λb19 =>
.untick <|
.done 3 [.bool b19])) (
.untick <|
.done 3 [.bool false])))))) (u1 λb20 =>
.ite (b20) (
.lt (.int .i64) (IntKind.wrap .i64 (n12+1)) λ(n21:Int) =>
.done 2 [.int .i64 n21]) (
.done 1 [.int .i64 n12])))) (u1 λ(n22:Int) =>
.bind 1 [.one (.int .i64)] (
.loop 2 [.one (.int .i64)] (n11,()) (u1 λ(n23:Int) =>
.bind 3 [.one .bool] (
.tick <|
.ex [.adr] (c1 λa24=>decide (n22<=n23)=true->0<=n23/\n23<((data.len:Nat):Int)/\data.a=some a24) (u1 λa25 =>
.read (decide (n22<=n23)=true) (ld T.a32 (Addr.add a25 (Int.toNat n23*1))) sS (u1 λs26 =>
.ex [.adr] (c1 λa27=>decide (n22<=n23)=true->0<=a/\a<((data.len:Nat):Int)/\data.a=some a27) (u1 λa28 =>
.read (decide (n22<=n23)=true) (ld T.a32 (Addr.add a28 (Int.toNat a*1))) sS (u1 λs29 =>
.ite (decide (n22<=n23)) (
.call F.a1 [.string s26,.string s29] sB (u1 λb30 =>
.untick <|
.done 3 [.bool (not b30)])) (
.untick <|
.done 3 [.bool false])))))) (u1 λb31 =>
.ite (b31) (
.lt (.int .i64) (IntKind.wrap .i64 (n23-1)) λ(n32:Int) =>
.done 2 [.int .i64 n32]) (
.done 1 [.int .i64 n23])))) (u1 λ(n33:Int) =>
.ite (decide (n22>n33)) (
.bind 1 [] (
.tick <|
.ex [.adr] (c1 λa34=>0<=a/\a<((data.len:Nat):Int)/\data.a=some a34) (u1 λa35 =>
.read True (ld T.a32 (Addr.add a35 (Int.toNat a*1))) sS (u1 λs36 =>
.ex [.adr] (c1 λa37=>0<=n33/\n33<((data.len:Nat):Int)/\data.a=some a37) (u1 λa38 =>
.read True (ld T.a32 (Addr.add a38 (Int.toNat n33*1))) sS (u1 λs39 =>
.ex [.adr] (c1 λa40=>0<=n33/\n33<((data.len:Nat):Int)/\data.a=some a40) (u1 λa41 =>
.actU (st T.a32 (Addr.add a41 (Int.toNat n33*1)) (.string s36)) <|
.ex [.adr] (c1 λa42=>0<=a/\a<((data.len:Nat):Int)/\data.a=some a42) (u1 λa43 =>
.actU (st T.a32 (Addr.add a43 (Int.toNat a*1)) (.string s39)) <|
.untick <|
.done 1 []))))))) (u0 <|
.lt (.int .i64) (n33) λ(n44:Int) =>
.done 0 [.int .i64 n44,.bool true])) (
.bind 1 [] (
.tick <|
.ex [.adr] (c1 λa45=>0<=n33/\n33<((data.len:Nat):Int)/\data.a=some a45) (u1 λa46 =>
.read True (ld T.a32 (Addr.add a46 (Int.toNat n33*1))) sS (u1 λs47 =>
.ex [.adr] (c1 λa48=>0<=n22/\n22<((data.len:Nat):Int)/\data.a=some a48) (u1 λa49 =>
.read True (ld T.a32 (Addr.add a49 (Int.toNat n22*1))) sS (u1 λs50 =>
.ex [.adr] (c1 λa51=>0<=n22/\n22<((data.len:Nat):Int)/\data.a=some a51) (u1 λa52 =>
.actU (st T.a32 (Addr.add a52 (Int.toNat n22*1)) (.string s47)) <|
.ex [.adr] (c1 λa53=>0<=n33/\n33<((data.len:Nat):Int)/\data.a=some a53) (u1 λa54 =>
.actU (st T.a32 (Addr.add a54 (Int.toNat n33*1)) (.string s50)) <|
.untick <|
.done 1 []))))))) (u0 <|
.lt (.int .i64) (IntKind.wrap .i64 (n22+1)) λ(n55:Int) =>
.lt (.int .i64) (IntKind.wrap .i64 (n33-1)) λ(n56:Int) =>
.bind 1 [.one (.int .i64)] (
.loop 2 [.one (.int .i64),.one (.int .i64)] (n55,(n56,())) (u2 λ(n57 n58:Int) =>
.bind 3 [.one (.int .i64),.one (.int .i64)] (
.bind 4 [.one (.int .i64)] (
.loop 5 [.one (.int .i64)] (n57,()) (u1 λ(n59:Int) =>
.bind 6 [.one .bool] (
.tick <|
.ex [.adr] (c1 λa60=>decide (n59<=n58)=true->0<=n59/\n59<((data.len:Nat):Int)/\data.a=some a60) (u1 λa61 =>
.read (decide (n59<=n58)=true) (ld T.a32 (Addr.add a61 (Int.toNat n59*1))) sS (u1 λs62 =>
.ex [.adr] (c1 λa63=>decide (n59<=n58)=true->0<=a/\a<((data.len:Nat):Int)/\data.a=some a63) (u1 λa64 =>
.read (decide (n59<=n58)=true) (ld T.a32 (Addr.add a64 (Int.toNat a*1))) sS (u1 λs65 =>
.ite (decide (n59<=n58)) (
.call F.a1 [.string s62,.string s65] sB (u1 λb66 =>
.untick <|
.done 6 [.bool b66])) (
.untick <|
.done 6 [.bool false])))))) (u1 λb67 =>
.ite (b67) (
.lt (.int .i64) (IntKind.wrap .i64 (n59+1)) λ(n68:Int) =>
.done 5 [.int .i64 n68]) (
.done 4 [.int .i64 n59])))) (u1 λ(n69:Int) =>
.bind 4 [.one (.int .i64)] (
.loop 5 [.one (.int .i64)] (n58,()) (u1 λ(n70:Int) =>
.bind 6 [.one .bool] (
.tick <|
.ex [.adr] (c1 λa71=>decide (n69<=n70)=true->0<=n70/\n70<((data.len:Nat):Int)/\data.a=some a71) (u1 λa72 =>
.read (decide (n69<=n70)=true) (ld T.a32 (Addr.add a72 (Int.toNat n70*1))) sS (u1 λs73 =>
.ex [.adr] (c1 λa74=>decide (n69<=n70)=true->0<=a/\a<((data.len:Nat):Int)/\data.a=some a74) (u1 λa75 =>
.read (decide (n69<=n70)=true) (ld T.a32 (Addr.add a75 (Int.toNat a*1))) sS (u1 λs76 =>
.ite (decide (n69<=n70)) (
.call F.a1 [.string s73,.string s76] sB (u1 λb77 =>
.untick <|
.done 6 [.bool (not b77)])) (
.untick <|
.done 6 [.bool false])))))) (u1 λb78 =>
.ite (b78) (
.lt (.int .i64) (IntKind.wrap .i64 (n70-1)) λ(n79:Int) =>
.done 5 [.int .i64 n79]) (
.done 4 [.int .i64 n70])))) (u1 λ(n80:Int) =>
.ite (decide (n69>n80)) (
.done 1 [.int .i64 n80]) (
.bind 4 [] (
.tick <|
.ex [.adr] (c1 λa81=>0<=n80/\n80<((data.len:Nat):Int)/\data.a=some a81) (u1 λa82 =>
.read True (ld T.a32 (Addr.add a82 (Int.toNat n80*1))) sS (u1 λs83 =>
.ex [.adr] (c1 λa84=>0<=n69/\n69<((data.len:Nat):Int)/\data.a=some a84) (u1 λa85 =>
.read True (ld T.a32 (Addr.add a85 (Int.toNat n69*1))) sS (u1 λs86 =>
.ex [.adr] (c1 λa87=>0<=n69/\n69<((data.len:Nat):Int)/\data.a=some a87) (u1 λa88 =>
.actU (st T.a32 (Addr.add a88 (Int.toNat n69*1)) (.string s83)) <|
.ex [.adr] (c1 λa89=>0<=n80/\n80<((data.len:Nat):Int)/\data.a=some a89) (u1 λa90 =>
.actU (st T.a32 (Addr.add a90 (Int.toNat n80*1)) (.string s86)) <|
.untick <|
.done 4 []))))))) (u0 <|
.lt (.int .i64) (IntKind.wrap .i64 (n69+1)) λ(n91:Int) =>
.lt (.int .i64) (IntKind.wrap .i64 (n80-1)) λ(n92:Int) =>
.done 3 [.int .i64 n91,.int .i64 n92]))))) (u2 λ(n93 n94:Int) =>
.done 2 [.int .i64 n93,.int .i64 n94]))) (u1 λ(n95:Int) =>
.bind 1 [] (
.tick <|
.ex [.adr] (c1 λa96=>0<=a/\a<((data.len:Nat):Int)/\data.a=some a96) (u1 λa97 =>
.read True (ld T.a32 (Addr.add a97 (Int.toNat a*1))) sS (u1 λs98 =>
.ex [.adr] (c1 λa99=>0<=n95/\n95<((data.len:Nat):Int)/\data.a=some a99) (u1 λa100 =>
.read True (ld T.a32 (Addr.add a100 (Int.toNat n95*1))) sS (u1 λs101 =>
.ex [.adr] (c1 λa102=>0<=n95/\n95<((data.len:Nat):Int)/\data.a=some a102) (u1 λa103 =>
.actU (st T.a32 (Addr.add a103 (Int.toNat n95*1)) (.string s98)) <|
.ex [.adr] (c1 λa104=>0<=a/\a<((data.len:Nat):Int)/\data.a=some a104) (u1 λa105 =>
.actU (st T.a32 (Addr.add a105 (Int.toNat a*1)) (.string s101)) <|
.untick <|
.done 1 []))))))) (u0 <|
.lt (.int .i64) (n95) λ(n106:Int) =>
.done 0 [.int .i64 n106,.bool false])))))))
def z04t (x:Int):Prog :=
.bind 1 [.one (.int .u64),.one (.int .i64)] (
.ite (decide (x>=4294967296)) (
.lt (.int .u64) (Int.fdiv x 4294967296) λ(n0:Int) =>
.done 1 [.int .u64 n0,.int .i64 32]) (
.done 1 [.int .u64 x,.int .i64 0])) (u2 λ(n1 n2:Int) =>
.bind 1 [.one (.int .u64),.one (.int .i64)] (
.ite (decide (n1>=65536)) (
.lt (.int .u64) (Int.fdiv n1 65536) λ(n3:Int) =>
.lt (.int .i64) (IntKind.wrap .i64 (n2+16)) λ(n4:Int) =>
.done 1 [.int .u64 n3,.int .i64 n4]) (
.done 1 [.int .u64 n1,.int .i64 n2])) (u2 λ(n5 n6:Int) =>
.bind 1 [.one (.int .u64),.one (.int .i64)] (
.ite (decide (n5>=256)) (
.lt (.int .u64) (Int.fdiv n5 256) λ(n7:Int) =>
.lt (.int .i64) (IntKind.wrap .i64 (n6+8)) λ(n8:Int) =>
.done 1 [.int .u64 n7,.int .i64 n8]) (
.done 1 [.int .u64 n5,.int .i64 n6])) (u2 λ(n9 n10:Int) =>
.must (0<=IntKind.wrap .u8 n9/\IntKind.wrap .u8 n9<256) <|
.lt (.int .i64) (IntKind.wrap .i64 (n10+IntKind.wrap .i64 (bt (ByteArray.mk #[0,1,2,2,3,3,3,3,4,4,4,4,4,4,4,4,5,5,5,5,5,5,5,5,5,5,5,5,5,5,5,5,6,6,6,6,6,6,6,6,6,6,6,6,6,6,6,6,6,6,6,6,6,6,6,6,6,6,6,6,6,6,6,6,7,7,7,7,7,7,7,7,7,7,7,7,7,7,7,7,7,7,7,7,7,7,7,7,7,7,7,7,7,7,7,7,7,7,7,7,7,7,7,7,7,7,7,7,7,7,7,7,7,7,7,7,7,7,7,7,7,7,7,7,7,7,7,7,8,8,8,8,8,8,8,8,8,8,8,8,8,8,8,8,8,8,8,8,8,8,8,8,8,8,8,8,8,8,8,8,8,8,8,8,8,8,8,8,8,8,8,8,8,8,8,8,8,8,8,8,8,8,8,8,8,8,8,8,8,8,8,8,8,8,8,8,8,8,8,8,8,8,8,8,8,8,8,8,8,8,8,8,8,8,8,8,8,8,8,8,8,8,8,8,8,8,8,8,8,8,8,8,8,8,8,8,8,8,8,8,8,8,8,8,8,8,8,8,8,8,8,8,8,8,8,8]) (IntKind.wrap .u8 n9)))) λ(n11:Int) =>
.done 0 [.int .i64 n11])))
def z04h (data:Sl) (lo hi:Int) (first:Int):Prog :=
.lt (.int .i64) (lo) λ(n0:Int) =>
.bind 1 [] (
.loop 2 [.one (.int .i64)] (n0,()) (u1 λ(n1:Int) =>
.lt (.int .i64) (IntKind.wrap .i64 (IntKind.wrap .i64 (2*n1)+1)) λ(n2:Int) =>
.ite (decide (n2>=hi)) (
.done 1 []) (
.bind 3 [.one .bool] (
.tick <|
.ex [.adr] (c1 λa3=>decide (IntKind.wrap .i64 (n2+1)<hi)=true->0<=IntKind.wrap .i64 (first+n2)/\IntKind.wrap .i64 (first+n2)<((data.len:Nat):Int)/\data.a=some a3) (u1 λa4 =>
.read (decide (IntKind.wrap .i64 (n2+1)<hi)=true) (ld T.a32 (Addr.add a4 (Int.toNat (IntKind.wrap .i64 (first+n2))*1))) sS (u1 λs5 =>
.ex [.adr] (c1 λa6=>decide (IntKind.wrap .i64 (n2+1)<hi)=true->0<=IntKind.wrap .i64 (IntKind.wrap .i64 (first+n2)+1)/\IntKind.wrap .i64 (IntKind.wrap .i64 (first+n2)+1)<((data.len:Nat):Int)/\data.a=some a6) (u1 λa7 =>
.read (decide (IntKind.wrap .i64 (n2+1)<hi)=true) (ld T.a32 (Addr.add a7 (Int.toNat (IntKind.wrap .i64 (IntKind.wrap .i64 (first+n2)+1))*1))) sS (u1 λs8 =>
.ite (decide (IntKind.wrap .i64 (n2+1)<hi)) (
.call F.a1 [.string s5,.string s8] sB (u1 λb9 =>
.untick <|
.done 3 [.bool b9])) (
.untick <|
.done 3 [.bool false])))))) (u1 λb10 =>
.bind 3 [.one (.int .i64)] (
.ite (b10) (
.lt (.int .i64) (IntKind.wrap .i64 (n2+1)) λ(n11:Int) =>
.done 3 [.int .i64 n11]) (
.done 3 [.int .i64 n2])) (u1 λ(n12:Int) =>
.tick <|
.ex [.adr] (c1 λa13=>0<=IntKind.wrap .i64 (first+n1)/\IntKind.wrap .i64 (first+n1)<((data.len:Nat):Int)/\data.a=some a13) (u1 λa14 =>
.read True (ld T.a32 (Addr.add a14 (Int.toNat (IntKind.wrap .i64 (first+n1))*1))) sS (u1 λs15 =>
.ex [.adr] (c1 λa16=>0<=IntKind.wrap .i64 (first+n12)/\IntKind.wrap .i64 (first+n12)<((data.len:Nat):Int)/\data.a=some a16) (u1 λa17 =>
.read True (ld T.a32 (Addr.add a17 (Int.toNat (IntKind.wrap .i64 (first+n12))*1))) sS (u1 λs18 =>
.call F.a1 [.string s15,.string s18] sB (u1 λb19 =>
.untick <|
.ite (not b19) (
.done 0 []) (
.bind 3 [] (
.tick <|
.ex [.adr] (c1 λa20=>0<=IntKind.wrap .i64 (first+n12)/\IntKind.wrap .i64 (first+n12)<((data.len:Nat):Int)/\data.a=some a20) (u1 λa21 =>
.read True (ld T.a32 (Addr.add a21 (Int.toNat (IntKind.wrap .i64 (first+n12))*1))) sS (u1 λs22 =>
.ex [.adr] (c1 λa23=>0<=IntKind.wrap .i64 (first+n1)/\IntKind.wrap .i64 (first+n1)<((data.len:Nat):Int)/\data.a=some a23) (u1 λa24 =>
.read True (ld T.a32 (Addr.add a24 (Int.toNat (IntKind.wrap .i64 (first+n1))*1))) sS (u1 λs25 =>
.ex [.adr] (c1 λa26=>0<=IntKind.wrap .i64 (first+n1)/\IntKind.wrap .i64 (first+n1)<((data.len:Nat):Int)/\data.a=some a26) (u1 λa27 =>
.actU (st T.a32 (Addr.add a27 (Int.toNat (IntKind.wrap .i64 (first+n1))*1)) (.string s22)) <|
.ex [.adr] (c1 λa28=>0<=IntKind.wrap .i64 (first+n12)/\IntKind.wrap .i64 (first+n12)<((data.len:Nat):Int)/\data.a=some a28) (u1 λa29 =>
.actU (st T.a32 (Addr.add a29 (Int.toNat (IntKind.wrap .i64 (first+n12))*1)) (.string s25)) <|
.untick <|
.done 3 []))))))) (u0 <|
.lt (.int .i64) (n12) λ(n30:Int) =>
.done 2 [.int .i64 n30])))))))))))) (u0 <|
.done 0 [])
def z04l (length:Int):Prog :=
.call F.a32 [.int .u64 (IntKind.wrap .u64 length)] (sI .i64) (u1 λ(n0:Int) =>
.must (0<=n0) <|
.lt (.int .u64) (IntKind.wrap .u64 (1*2 ^ min (Int.toNat n0) 64)) λ(n1:Int) =>
.done 0 [.int .u64 n1])
def z04g (r:Option Addr):Prog :=
.tick <|
.ex [.adr] (c1 λa0=>r=some a0) (u1 λa1 =>
.read True (ld T.a31 a1) (sI .u64) (u1 λ(n2:Int) =>
.ex [.adr] (c1 λa3=>r=some a3) (u1 λa4 =>
.read True (ld T.a31 a4) (sI .u64) (u1 λ(n5:Int) =>
.ex [.adr] (c1 λa6=>r=some a6) (u1 λa7 =>
.actU (st T.a31 a7 (.int .u64 (IntKind.wrap .u64 (((BitVec.toNat (BitVec.ofInt 64 n2 ^^^ BitVec.ofInt 64 (IntKind.wrap .u64 (n5*8192))):Nat):Int))))) <|
.untick <|
.tick <|
.ex [.adr] (c1 λa8=>r=some a8) (u1 λa9 =>
.read True (ld T.a31 a9) (sI .u64) (u1 λ(n10:Int) =>
.ex [.adr] (c1 λa11=>r=some a11) (u1 λa12 =>
.read True (ld T.a31 a12) (sI .u64) (u1 λ(n13:Int) =>
.ex [.adr] (c1 λa14=>r=some a14) (u1 λa15 =>
.actU (st T.a31 a15 (.int .u64 (IntKind.wrap .u64 (((BitVec.toNat (BitVec.ofInt 64 n10 ^^^ BitVec.ofInt 64 (Int.fdiv n13 128)):Nat):Int))))) <|
.untick <|
.tick <|
.ex [.adr] (c1 λa16=>r=some a16) (u1 λa17 =>
.read True (ld T.a31 a17) (sI .u64) (u1 λ(n18:Int) =>
.ex [.adr] (c1 λa19=>r=some a19) (u1 λa20 =>
.read True (ld T.a31 a20) (sI .u64) (u1 λ(n21:Int) =>
.ex [.adr] (c1 λa22=>r=some a22) (u1 λa23 =>
.actU (st T.a31 a23 (.int .u64 (IntKind.wrap .u64 (((BitVec.toNat (BitVec.ofInt 64 n18 ^^^ BitVec.ofInt 64 (IntKind.wrap .u64 (n21*131072))):Nat):Int))))) <|
.untick <|
.ex [.adr] (c1 λa24=>r=some a24) (u1 λa25 =>
.read True (ld T.a31 a25) (sI .u64) (u1 λ(n26:Int) =>
.lt (.int .u64) (n26) λ(n27:Int) =>
.done 0 [.int .u64 n27])))))))))))))))))
def z04s (data:Sl) (a:Int) (swaps:Option Addr):Prog :=
.call F.a85 [data.v,.int .i64 (IntKind.wrap .i64 (a-1)),.int .i64 a,.int .i64 (IntKind.wrap .i64 (a+1)),.pointer swaps] (sI .i64) (u1 λ(n0:Int) =>
.lt (.int .i64) (n0) λ(n1:Int) =>
.done 0 [.int .i64 n1])
def z04x (data:Sl) (a b c:Int) (swaps:Option Addr):Prog :=
.call F.a87 [data.v,.int .i64 a,.int .i64 b,.pointer swaps] (.tup [.one (.int .i64),.one (.int .i64)]) (u2 λ(n0 n1:Int) =>
.lt (.int .i64) (n0) λ(n2:Int) =>
.lt (.int .i64) (n1) λ(n3:Int) =>
.call F.a87 [data.v,.int .i64 n3,.int .i64 c,.pointer swaps] (.tup [.one (.int .i64),.one (.int .i64)]) (u2 λ(n4 n5:Int) =>
.lt (.int .i64) (n4) λ(n6:Int) =>
.lt (.int .i64) (n5) λ(n7:Int) =>
.call F.a87 [data.v,.int .i64 n2,.int .i64 n6,.pointer swaps] (.tup [.one (.int .i64),.one (.int .i64)]) (u2 λ(n8 n9:Int) =>
.lt (.int .i64) (n8) λ(n10:Int) =>
.lt (.int .i64) (n9) λ(n11:Int) =>
.lt (.int .i64) (n11) λ(n12:Int) =>
.done 0 [.int .i64 n12])))
def zf2 (x:ByteArray):Prog :=
.lt (.bool) (not (ByteArray.toList x == ByteArray.toList x)) λb0 =>
.done 0 [.bool b0]
def z04r (data:Sl) (a b:Int) (swaps:Option Addr):Prog :=
.tick <|
.ex [.adr] (c1 λa0=>0<=b/\b<((data.len:Nat):Int)/\data.a=some a0) (u1 λa1 =>
.read True (ld T.a32 (Addr.add a1 (Int.toNat b*1))) sS (u1 λs2 =>
.ex [.adr] (c1 λa3=>0<=a/\a<((data.len:Nat):Int)/\data.a=some a3) (u1 λa4 =>
.read True (ld T.a32 (Addr.add a4 (Int.toNat a*1))) sS (u1 λs5 =>
.call F.a1 [.string s2,.string s5] sB (u1 λb6 =>
.untick <|
.ite (b6) (
.ex [.adr] (c1 λa7=>swaps=some a7) (u1 λa8 =>
.read True (ld T.a10 a8) (sI .i64) (u1 λ(n9:Int) =>
.ex [.adr] (c1 λa10=>swaps=some a10) (u1 λa11 =>
.actU (st T.a10 a11 (.int .i64 (IntKind.wrap .i64 (n9+1)))) <|
.lt (.int .i64) (b) λ(n12:Int) =>
.lt (.int .i64) (a) λ(n13:Int) =>
.done 0 [.int .i64 n12,.int .i64 n13])))) (
.lt (.int .i64) (a) λ(n14:Int) =>
.lt (.int .i64) (b) λ(n15:Int) =>
.done 0 [.int .i64 n14,.int .i64 n15]))))))
end Go.Dec
