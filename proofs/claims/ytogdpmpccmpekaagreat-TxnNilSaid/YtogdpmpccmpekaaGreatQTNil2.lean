/- What the claim of this folder leans on: our own texts, joined, without what it does not use. -/
import Derived.Test.YtogdpmpccmpekaaGreatQTNil1
set_option linter.unusedVariables false
set_option linter.unusedSimpArgs false
namespace Go.Dec
theorem z0a7 {W w':World} {l:List HP} (hs:Sat w' (whole W::l)) (may:MemPlace->Prop):W.keptBut w' may:=by
 obtain ⟨h,ho,hu,hz⟩:=hs.of_whole;refine ⟨ho,hu,λi hi=>?_⟩
 have hg:W.heap[i]? = some W.heap[i]:=by simp [hi]
 have hg':=h i _ hg;rw [hg,hg']
 cases W.heap[i] with
 | cells c t fr=>exact ⟨rfl,rfl,rfl,λ_ _=>rfl⟩
 | map es c=>exact .inr ⟨rfl,rfl⟩
 | _=>rfl
section
open Go.ChangeShapes
variable {H:Type} {enc:TypeId × Value->H} {P:Program}
theorem z0gq {f:Func} {s:ChangeSpec} {apart fresh handsOn again:Bool} {W W':World} {args:Array Value} {v:Value} {ds gs:List (DataW H)} {before pa pv:List MemPlace} {l:List HP}
  (hW:DataW.Whole enc P f.params.toList s.vars apart W args.toList ds gs before) (hs:Sat W' (whole W::l))
  (hres:∀ (b:Nat) (sp:Nat->Bool) (hd:Bool),DataW.TrodAll enc P W' b sp hd f.resultTypes.toList (v.resultList f.resultTypes.size) (s.fn H (ds++gs)).results [])
  (hargs:∀ sp:Nat->Bool,(∀ p ∈ before,sp p.block=true)->DataW.TrodAll enc P W' 0 sp true f.params.toList args.toList (s.fn H (ds++gs)).args pa)
  (hvars:∀ sp:Nat->Bool,(∀ p ∈ before,sp p.block=true)->DataW.TrodVars enc P W' sp s.vars (s.fn H (ds++gs)).vars pv)
  (hps:before=pa++pv)
  (hok:∀ (j:Nat) (t:TypeId) (r:Value),f.resultTypes[j]? = some t->(v.resultList f.resultTypes.size)[j]? = some r->Value.okWide P W' .any 0 t r) :
  s.post enc P f apart fresh handsOn again W args v W':=by
 have hlt:=hW.lt;have hz:=hs.of_whole.2.2.2;have hkeep:=z0a7 hs;refine ⟨ds,gs,before,[],pa,pv,hW,hres _ _ _,hargs _ λp hp=>decide_eq_true (hlt p hp),hvars _ λp hp=>decide_eq_true (hlt p hp),World.keptBut_mono (λp hp=>⟨hp,.inr (by rw [hps] at hp;exact List.mem_append.1 hp)⟩) (hkeep (· ∈ before)),λ_=>?_⟩;obtain ⟨_,_,_,_,_,hfz,hnd⟩:=hW;refine ⟨hok,_,_,([]++pa)++pv,⟨[]++pa,pv,trodAll_append (hargs _ λ_ _=>rfl) (hres _ _ _),hvars _ λ_ _=>rfl,rfl,λb off hp=>?_,λha=>?_⟩,λp hp _=>?_⟩
 ·have hmem:MemPlace.cell b off ∈ before:=by rw [hps];simpa using hp
  rw [hz _ (hlt _ hmem)];exact hfz b off hmem
 ·have:=hnd ha;rw [hps] at this;simpa using this
 ·rw [hps];simpa using hp
end
theorem z70 {α β:Type} {f g:α->Option β}:∀ {l:List α} {ys:List β},l.mapM f=some ys->(∀ a y,a ∈ l->y ∈ ys->f a=some y->g a=some y)->l.mapM g=some ys
 | [],ys,h,_=>by simpa using h
 | a::r,ys,h,hk=>by
  rw [List.mapM_cons] at h ⊢
  cases ha:f a with
  | none=>rw [ha] at h;cases h
  | some y =>
   rw [ha] at h
   cases hr:r.mapM f with
   | none=>rw [hr] at h;cases h
   | some zs =>
    rw [hr] at h
    obtain rfl:y::zs=ys:=by simpa using h
    rw [hk a y (List.mem_cons_self ..) (List.mem_cons_self ..) ha,z70 hr λb z hb hz hf=>hk b z (List.mem_cons_of_mem _ hb) (List.mem_cons_of_mem _ hz) hf];rfl
section
variable {H:Type} {enc:TypeId × Value->H} {P:Program} {W W':World} {base:Nat} {sp:Nat->Bool} {L:List TypeId}
theorem z006 (hb:∀ (b:Nat) (o:Obj),W.heap[b]? = some o->W'.heap[b]? = some o) {a:Addr} {v:Value} (h:W.cell? a=some v):W'.cell? a=some v:=by
 unfold World.cell? at h ⊢
 cases ho:W.heap[a.block]? with
 | none=>rw [ho] at h;cases h
 | some o=>rw [ho] at h;rw [hb _ _ ho];exact h
theorem zvl (hb:∀ (b:Nat) (o:Obj),W.heap[b]? = some o->W'.heap[b]? = some o) {a:Addr} {n:Nat} {cs:List Value} (h:W.cells? base a n=some cs):W'.cells? base a n=some cs:=by
 unfold World.cells? at h ⊢;split at h
 ·rename_i hc
  rw [if_pos hc];exact z70 h λi v _ _ hv=>z006 hb hv
 ·cases h
def ztr (P:Program) (L:List TypeId):Bool:=L.all λt=>match P.underlying t with
 | some (.pointer e)=>L.any (Nat.beq e)
 | some (.slice e)=>L.any (Nat.beq e) && Nat.blt 0 (P.cellsOf e)
 | some (.array _ e)=>L.any (Nat.beq e)
 | some (.struct fs)=>fs.toList.all λf=>L.any (Nat.beq f.type)
 | some (.map _ e)=>L.any (Nat.beq e)
 | _=>true
theorem zos {L:List TypeId} {e:TypeId} (h:L.any (Nat.beq e)=true):e ∈ L:=by
 obtain ⟨x,hx,he⟩:=List.any_eq_true.1 h
 rwa [Nat.eq_of_beq_eq_true he]
theorem zmt (hz:ztr P L=true) (hb:∀ (b:Nat) (o:Obj),W.heap[b]? = some o->W'.heap[b]? = some o):∀ (fuel:Nat) (t:TypeId) (cs:List Value) (x:DataW H × List MemPlace),t ∈ L ->
  DataW.trod enc P W base (λ_=>true) true fuel t cs=some x->(∀ p ∈ x.2,sp p.block=true)->DataW.trod enc P W' base sp true fuel t cs=some x
 | 0,t,cs,x,ht,h,hp=>by simp [DataW.trod] at h
 | fuel+1,t,cs,x,ht,h,hp=>by
  have ih:=zmt hz hb fuel;have hk:=List.all_eq_true.1 hz t ht;unfold DataW.trod at h ⊢
  have here:∀ {e:TypeId} {a:Addr} {n:Nat} {y:DataW H × List MemPlace},e ∈ L->(W.cells? base a n).bind (DataW.trod enc P W base (λ_=>true) true fuel e)=some y->(∀ p ∈ y.2,sp p.block=true) ->
    (W'.cells? base a n).bind (DataW.trod enc P W' base sp true fuel e)=some y:=λ{e a n y} he h hp=>by
   cases hc:W.cells? base a n with
   | none=>rw [hc] at h;cases h
   | some cs=>rw [hc] at h;rw [zvl hb hc];exact ih e cs y he h hp
  split at h
  all_goals first|exact h|skip
  case h_6 =>
   rename_i e a hu
   rw [hu] at hk;have he:e ∈ L:=zos hk
   cases hc:(W.cells? base a (P.cellsOf e)).bind (DataW.trod enc P W base (λ_=>true) true fuel e) with
   | none=>rw [hc] at h;cases h
   | some y =>
    rw [hc] at h;obtain rfl:=Option.some.inj h;rw [here he hc λp h=>hp p (List.mem_append_right _ h)];rfl
  case h_8 =>
   rename_i e a len cap hu
   rw [hu] at hk;have hk:(L.any (Nat.beq e) && Nat.blt 0 (P.cellsOf e))=true:=hk;rw [Bool.and_eq_true] at hk;have he:e ∈ L:=zos hk.1;dsimp only at h ⊢;split at h
   ·rename_i hc
    rw [if_pos rfl] at h
    cases h1:(List.range len).mapM (λi=>(W.cells? base (a.add (i*P.cellsOf e)) (P.cellsOf e)).bind (DataW.trod enc P W base (λ_=>true) true fuel e)) with
    | none=>rw [h1] at h;cases h
    | some elems =>
     rw [h1] at h;simp only [Option.bind_some] at h
     cases h2:(List.range (cap-len)).mapM (λj=>(W.cells? base (a.add ((len+j)*P.cellsOf e)) (P.cellsOf e)).bind (DataW.trod enc P W base (λ_=>true) true fuel e)) with
     | none=>rw [h2] at h;cases h
     | some rest =>
      rw [h2] at h;obtain rfl:=Option.some.inj h;have hin:∀ y,y ∈ elems++rest->∀ p ∈ y.2,sp p.block=true:=λy hy p hpy=>hp p (List.mem_append_right _ (List.mem_flatMap.2 ⟨y,hy,hpy⟩));rw [z70 h1 λi y _ hy hf=>here he hf (hin y (List.mem_append_left _ hy))];simp only [Option.bind_some]
      have hs:(if sp a.block=true then (List.range (cap-len)).mapM (λj=>(W'.cells? base (a.add ((len+j)*P.cellsOf e)) (P.cellsOf e)).bind (DataW.trod enc P W' base sp true fuel e)) else some [])=some rest:=by
       split
       ·exact z70 h2 λi y _ hy hf=>here he hf (hin y (List.mem_append_right _ hy))
       ·rename_i hsp
        cases hr:rest with
        | nil=>rfl
        | cons y r =>
         exfalso;have hpos:0<P.cellsOf e:=Nat.le_of_ble_eq_true hk.2;refine hsp (hp (.cell a.block (a.off+0)) (List.mem_append_left _ ?_));unfold MemPlace.row;refine List.mem_map.2 ⟨0,List.mem_range.2 ?_,rfl⟩;rw [hr];exact Nat.mul_pos (by rw [List.length_cons];omega) hpos
      rw [hs,if_pos hc];rfl
   ·cases h
  case h_9 =>
   rename_i fs hu
   rw [hu] at hk;have hk:=List.all_eq_true.1 hk;split at h
   ·rename_i hc
    rw [if_pos hc];obtain ⟨xs,h1,rfl⟩:=Option.map_eq_some_iff.1 h;rw [z70 h1 λf y hf' hy hf=>ih _ _ y (zos (hk f hf')) hf λp hpy=>hp p (List.mem_flatMap.2 ⟨y,hy,hpy⟩)];rfl
   ·cases h
  case h_10 =>
   rename_i n e hu
   rw [hu] at hk;split at h
   ·rename_i hc
    rw [if_pos hc];obtain ⟨xs,h1,rfl⟩:=Option.map_eq_some_iff.1 h;rw [z70 h1 λf y _ hy hf=>ih _ _ y (zos hk) hf λp hpy=>hp p (List.mem_flatMap.2 ⟨y,hy,hpy⟩)];rfl
   ·cases h
  case h_14 =>
   rename_i b hu
   rw [hu] at hk
   cases ho:W.heap[b]? with
   | none=>rw [ho] at h;cases h
   | some o =>
    rw [hb _ _ ho];rw [ho] at h
    cases o with
    | map es clock =>
     dsimp only at h ⊢;split at h
     ·rename_i hc
      rw [if_pos hc];obtain ⟨entries,h1,h⟩:=Option.bind_eq_some_iff.1 h;split at h
      ·rename_i hr
       obtain rfl:=Option.some.inj h;rw [z70 h1 λf y _ hy hf=>?_]
       ·simp only [Option.bind_some];rw [if_pos hr]
       ·obtain ⟨key,hkey,hf⟩:=Option.bind_eq_some_iff.1 hf;rw [hkey];simp only [Option.bind_some];split at hf
        ·rename_i hfm
         rw [if_pos hfm];obtain ⟨z,hz',rfl⟩:=Option.map_eq_some_iff.1 hf;rw [ih _ _ z (zos hk) hz' λp hpz=>hp p (List.mem_cons_of_mem _ (List.mem_flatMap.2 ⟨_,hy,hpz⟩))];rfl
        ·cases hf
      ·cases h
     ·cases h
    | _=>cases h
theorem zpy (hz:ztr P L=true) (hb:∀ (b:Nat) (o:Obj),W.heap[b]? = some o->W'.heap[b]? = some o):∀ (ts:List TypeId) (vs:List Value) (ds:List (DataW H)) (ps:List MemPlace),(∀ t ∈ ts,t ∈ L) ->
  DataW.TrodAll enc P W base (λ_=>true) true ts vs ds ps->(∀ p ∈ ps,sp p.block=true)->DataW.TrodAll enc P W' base sp true ts vs ds ps
 | [],[],[],ps,_,h,_=>h
 | t::ts,v::vs,d::ds,ps,hL,⟨p,q,⟨fuel,h1⟩,h2,he⟩,hp=>by
  subst he;exact ⟨p,q,⟨fuel,zmt hz hb fuel t _ (d,p) (hL t (List.mem_cons_self ..)) h1 λx hx=>hp x (List.mem_append_left _ hx)⟩,zpy hz hb ts vs ds q (λt ht=>hL t (List.mem_cons_of_mem _ ht)) h2 λx hx=>hp x (List.mem_append_right _ hx),rfl⟩
 | [],[],_::_,_,_,h,_=>h.elim
 | [],_::_,_,_,_,h,_=>h.elim
 | _::_,[],_,_,_,h,_=>h.elim
 | _::_,_::_,[],_,_,h,_=>h.elim
end
structure RowT where
 id:ByteArray
 pid:Int
 epoch:Int
 who:Int
 state:Int
 parts:List Int
 since:Int
 limit:Int
 fate:Int
 own:Bool
 next:Bool
 owed:List Int
structure CoT where
 parts:Int
 rows:Int
 epochs:Int
 l:List RowT
def z1h (t:Int):Bool:=decide (0<=t) && decide (t<=1099511627776)
def idT (s:ByteArray):Bool:=decide (1<=s.size) && decide (s.size<=24)
def z24 (n:Int):List Int:=(List.range n.toNat).map λ(i:Nat)=>(i:Int)
def idF (l:List RowT) (id:ByteArray):Option RowT:=l.find? λr=>decide (r.id=id)
def z5k (l:List RowT) (pid:Int):Option RowT:=l.find? λr=>decide (r.pid=pid)
def z2v (l:List RowT):Int:=l.foldl (λm r=>max m r.pid) 0
def z4t (l:List RowT) (n:RowT):List RowT:=if l.any (λr=>decide (r.pid=n.pid)) then l.map (λr=>if r.pid=n.pid then n else r) else l++[n]
def CoT.put (X:CoT) (n:RowT):CoT:={ X with l:=z4t X.l n }
inductive ActT where
 | no|row (r:RowT)|owes (r:RowT)
def CoT.act (X:CoT):ActT->CoT
 | .no=>X
 | .row r=>X.put r
 | .owes r=>X.put r
def zba (id:ByteArray) (pid who limit:Int):RowT:=⟨id,pid,0,who,0,[],0,limit,0,false,false,[]⟩
def z2e (all:List Int) (r:RowT) (who limit:Int):RowT :=
 if r.state=0 then { r with who:=who,limit:=limit,state:=4,parts:=all,owed:=all }
 else if r.state=1 then { r with who:=who,limit:=limit,state:=3,parts:=all,owed:=all }
 else if r.state=4 then { r with who:=who,limit:=limit }
 else { r with who:=who,limit:=limit,next:=r.next || decide (who>r.who) }
def z2o (X:CoT) (id:ByteArray) (who limit now:Int):(Int × Int × Int) × ActT :=
 if (!z1h now || !idT id || !z1h who || decide (limit<1) || decide (limit>1099511627776))=true then ((0,0,2),.no) else
 match idF X.l id with
 | none=>if X.rows<=X.l.length then ((0,0,5),.no) else if z2v X.l>=1048576 then ((0,0,24),.no) else ((z2v X.l+1,0,0),.row (zba id (z2v X.l+1) who limit))
 | some r=>if r.state=5 then ((0,0,24),.no) else if who<r.who then ((0,0,20),.no) else
  if who=r.who/\r.state=0 then ((r.pid,r.epoch,0),.row { r with limit:=limit,fate:=0 }) else ((0,0,23),.row (z2e (z24 X.parts) r who limit))
def z8r (n:Int) (a b:List Int):List Int:=(z24 n).filter λp=>a.contains p || b.contains p
def z6c (X:CoT) (pid epoch now:Int) (ps:List Int):Int × ActT :=
 if z1h now=false then (2,.no) else
 match z5k X.l pid with
 | none=>(3,.no)
 | some r=>if ps=[]\/ps.any (λp=>decide (p<0) || decide (p>=X.parts))=true then (2,.no) else if epoch<r.epoch then (20,.no) else if r.state=5 then (24,.no) else
  if epoch>r.epoch then (22,.no) else if r.state≠0/\r.state≠1 then (23,.no) else
  if r.state=1/\(z8r X.parts r.parts ps).length=r.parts.length then (0,.no) else
   (0,.row { r with state:=1,since:=if r.state=0 then now else r.since,parts:=z8r X.parts r.parts ps })
def zem (r:RowT) (epoch:Int) (commit:Bool):Bool:=(if r.state=5 then decide (epoch=r.epoch) else decide (epoch=r.epoch-1)) && ((decide (r.fate=1) && commit) || (decide (r.fate=2) && !commit))
def z6e (X:CoT) (pid epoch:Int) (commit:Bool) (now:Int):(Int × Int) × ActT :=
 if z1h now=false then ((0,2),.no) else
 match z5k X.l pid with
 | none=>((0,3),.no)
 | some r=>if zem r epoch commit=true then ((r.epoch,0),.no) else if epoch<r.epoch then ((0,20),.no) else if r.state=5 then ((0,24),.no) else
  if epoch>r.epoch then ((0,22),.no) else if r.state=0 then ((r.epoch,0),.no) else
  if r.state=1 then ((0,23),.row { r with state:=if commit=true then 2 else 3,own:=!commit,owed:=r.parts }) else
  if r.state=2/\commit=false then ((0,22),.no) else ((0,23),.no)
def z9n (r:RowT):Int:=if r.state=2 then 1 else if r.state=3/\r.own=true then 2 else 3
def z6h (X:CoT) (r:RowT):RowT :=
 if r.epoch>=X.epochs then ⟨r.id,r.pid,r.epoch,r.who,5,[],0,r.limit,z9n r,false,false,[]⟩
 else if r.next=true then ⟨r.id,r.pid,r.epoch+1,r.who,4,z24 X.parts,0,r.limit,z9n r,false,false,z24 X.parts⟩
 else ⟨r.id,r.pid,r.epoch+1,r.who,0,[],0,r.limit,z9n r,false,false,[]⟩
def z3t (X:CoT) (pid epoch part now:Int):Int × ActT :=
 if z1h now=false then (2,.no) else
 match z5k X.l pid with
 | none=>(3,.no)
 | some r=>if epoch≠r.epoch\/r.owed.contains part=false then (0,.no) else
  if r.owed.length=1 then (0,.row (z6h X r)) else (0,.owes { r with owed:=r.owed.filter λp=>!decide (p=part) })
structure MarkT where
 pid:Int
 epoch:Int
 part:Int
 commit:Bool
def z37 (l:List RowT):List MarkT:=l.flatMap λr=>r.owed.map λp=>⟨r.pid,r.epoch,p,decide (r.state=2)⟩
def z1a (r:RowT):Bool:=decide (2<=r.state) && decide (r.state<=4)
def znl (l:List RowT):List RowT:=l.map λr=>if z1a r=true then { r with owed:=r.parts } else r
structure OkRow (X:CoT) (r:RowT):Prop where
 id:idT r.id=true
 pid:1<=r.pid/\r.pid<=1048576
 epoch:0<=r.epoch/\r.epoch<=X.epochs
 who:0<=r.who/\r.who<=1099511627776
 state:0<=r.state/\r.state<=5
 since:0<=r.since/\r.since<=1099511627776
 limit:0<=r.limit/\r.limit<=1099511627776
 fate:0<=r.fate/\r.fate<=3
 parts:r.parts.Pairwise (· < ·)
 range:∀ p ∈ r.parts,0<=p/\p<X.parts
 none:(r.state=0\/r.state=5)↔r.parts=[]
 own:r.own=true->r.state=3
 next:r.next=true->r.state=2\/r.state=3
 owed:r.owed.Sublist r.parts
 owes:r.owed≠[]↔z1a r=true
structure OkT (X:CoT):Prop where
 parts:1<=X.parts/\X.parts<=256
 rows:1<=X.rows/\X.rows<=1024
 epochs:0<=X.epochs/\X.epochs<=32767
 len:(X.l.length:Int)<=1048576
 pids:X.l.Pairwise λa b=>a.pid<b.pid
 ids:(X.l.map (·.id)).Nodup
 row:∀ r ∈ X.l,OkRow X r
theorem znm {n p:Int}:p ∈ z24 n↔0<=p/\p<n:=by
 unfold z24;simp only [List.mem_map,List.mem_range];constructor
 ·rintro ⟨i,hi,rfl⟩;omega
 ·intro h;exact ⟨p.toNat,by omega,by omega⟩
theorem zgh (n:Int):(z24 n).Pairwise (· < ·):=by
 unfold z24;rw [List.pairwise_map];exact List.Pairwise.imp (λh=>by omega) List.pairwise_lt_range
theorem zhd {n:Int} (h:0<=n):((z24 n).length:Int)=n:=by
 unfold z24;simp only [List.length_map,List.length_range];omega
theorem z09e {n:Int} (h:1<=n):z24 n≠[]:=by
 intro e;have:=zhd (n:=n) (by omega);rw [e] at this;simp at this;omega
theorem z8s (n:Int) (a b:List Int):(z8r n a b).Pairwise (· < ·):=(zgh n).filter _
theorem z9w {n p:Int} {a b:List Int}:p ∈ z8r n a b↔(0<=p/\p<n)/\(p ∈ a\/p ∈ b):=by
 unfold z8r;rw [List.mem_filter,znm];simp
theorem zaj:∀ {a b:List Int},a.Pairwise (· < ·)->b.Pairwise (· < ·)->(∀ x,x ∈ a↔x ∈ b)->a=b
 | [],[],_,_,_=>rfl
 | [],b::bs,_,_,h=>by have:=(h b).2 (List.mem_cons_self ..);cases this
 | a::xs,[],_,_,h=>by have:=(h a).1 (List.mem_cons_self ..);cases this
 | a::xs,b::bs,ha,hb,h=>by
  rw [List.pairwise_cons] at ha hb
  have e:a=b:=by
   rcases List.mem_cons.1 ((h a).1 (List.mem_cons_self ..)) with e|e
   ·exact e
   ·rcases List.mem_cons.1 ((h b).2 (List.mem_cons_self ..)) with e2|e2
    ·exact e2.symm
    ·have h1:=ha.1 b e2;have h2:=hb.1 a e;omega
  subst e
  congr 1
  refine zaj ha.2 hb.2 λx=>⟨λhx=>?_,λhx=>?_⟩
  ·rcases List.mem_cons.1 ((h x).1 (List.mem_cons_of_mem _ hx)) with e|e
   ·have:=ha.1 x hx;omega
   ·exact e
  ·rcases List.mem_cons.1 ((h x).2 (List.mem_cons_of_mem _ hx)) with e|e
   ·have:=hb.1 x hx;omega
   ·exact e
theorem zc2 {l:List RowT} {pid:Int} {r:RowT} (h:z5k l pid=some r):r ∈ l/\r.pid=pid:=by
 unfold z5k at h;have h1:=List.mem_of_find?_eq_some h;have h2:=List.find?_some h;exact ⟨h1,by simpa using h2⟩
theorem zog {l:List RowT} {id:ByteArray} {r:RowT} (h:idF l id=some r):r ∈ l/\r.id=id:=by
 unfold idF at h;have h1:=List.mem_of_find?_eq_some h;have h2:=List.find?_some h;exact ⟨h1,by simpa using h2⟩
theorem z9y {l:List RowT} {pid:Int}:z5k l pid=none↔∀ r ∈ l,r.pid≠pid:=by
 unfold z5k;rw [List.find?_eq_none];simp
theorem zhl {l:List RowT} {id:ByteArray}:idF l id=none↔∀ r ∈ l,r.id≠id:=by
 unfold idF;rw [List.find?_eq_none];simp
theorem z9f {l:List RowT} (h:l.Pairwise λa b=>a.pid<b.pid):∀ {a b:RowT},a ∈ l->b ∈ l->a.pid=b.pid->a=b:=by
 induction l with
 | nil=>intro a b ha;cases ha
 | cons x l ih =>
  rw [List.pairwise_cons] at h;intro a b ha hb e
  rcases List.mem_cons.1 ha with ea|ha2
  ·rcases List.mem_cons.1 hb with eb|hb2
   ·rw [ea,eb]
   ·have:=h.1 b hb2;rw [ea] at e;omega
  ·rcases List.mem_cons.1 hb with eb|hb2
   ·have:=h.1 a ha2;rw [eb] at e;omega
   ·exact ih h.2 ha2 hb2 e
theorem zfx {l:List RowT} (h:(l.map (·.id)).Nodup):∀ {a b:RowT},a ∈ l->b ∈ l->a.id=b.id->a=b:=by
 induction l with
 | nil=>intro a b ha;cases ha
 | cons x l ih =>
  rw [List.map_cons,List.nodup_cons] at h;intro a b ha hb e
  rcases List.mem_cons.1 ha with ea|ha2
  ·rcases List.mem_cons.1 hb with eb|hb2
   ·rw [ea,eb]
   ·exact absurd (List.mem_map.2 ⟨b,hb2,by rw [<- e,ea]⟩) h.1
  ·rcases List.mem_cons.1 hb with eb|hb2
   ·exact absurd (List.mem_map.2 ⟨a,ha2,by rw [e,eb]⟩) h.1
   ·exact ih h.2 ha2 hb2 e
theorem zhz {l:List RowT} (h:l.Pairwise λa b=>a.pid<b.pid) {r:RowT} (hr:r ∈ l):z5k l r.pid=some r:=by
 cases hf:z5k l r.pid with
 | none=>exact absurd rfl (z9y.1 hf r hr)
 | some a =>
  obtain ⟨h1,h2⟩:=zc2 hf;rw [z9f h h1 hr h2]
theorem z0a2 {l:List RowT} (h:(l.map (·.id)).Nodup) {r:RowT} (hr:r ∈ l):idF l r.id=some r:=by
 cases hf:idF l r.id with
 | none=>exact absurd rfl (zhl.1 hf r hr)
 | some a =>
  obtain ⟨h1,h2⟩:=zog hf;rw [zfx h h1 hr h2]
theorem zdj:∀ (l:List RowT) (m:Int),m<=l.foldl (λm r=>max m r.pid) m/\∀ r ∈ l,r.pid<=l.foldl (λm r=>max m r.pid) m
 | [],m=>⟨Int.le_refl _,λ_ h=>by cases h⟩
 | x::l,m=>by
  obtain ⟨h1,h2⟩:=zdj l (max m x.pid);refine ⟨?_,λr hr=>?_⟩
  ·show m<=l.foldl _ (max m x.pid);omega
  ·show r.pid<=l.foldl _ (max m x.pid)
   rcases List.mem_cons.1 hr with rfl|hr
   ·omega
   ·exact h2 r hr
theorem zhr:∀ (l:List RowT) (m:Int),l.foldl (λm r=>max m r.pid) m=m\/∃ r ∈ l,l.foldl (λm r=>max m r.pid) m=r.pid
 | [],m=>.inl rfl
 | x::l,m=>by
  show l.foldl _ (max m x.pid)=m\/_
  rcases zhr l (max m x.pid) with h|⟨r,hr,h⟩
  ·by_cases hm:m<=x.pid
   ·exact .inr ⟨x,List.mem_cons_self ..,by show l.foldl _ (max m x.pid)=_;rw [h];omega⟩
   ·exact .inl (by rw [h];omega)
  ·exact .inr ⟨r,List.mem_cons_of_mem _ hr,h⟩
theorem z86 {l:List RowT} {n r:RowT} (hr:r ∈ l) (e:r.pid=n.pid):z4t l n=l.map λr=>if r.pid=n.pid then n else r:=by
 unfold z4t;rw [if_pos (List.any_eq_true.2 ⟨r,hr,by simpa using e⟩)]
theorem zbe {l:List RowT} {n:RowT} (h:∀ r ∈ l,r.pid≠n.pid):z4t l n=l++[n]:=by
 unfold z4t;rw [if_neg];intro hh;obtain ⟨r,hr,e⟩:=List.any_eq_true.1 hh;exact h r hr (by simpa using e)
theorem z85 {l:List RowT} {n x:RowT}:x ∈ z4t l n↔x=n\/(x ∈ l/\x.pid≠n.pid):=by
 by_cases h:∃ r ∈ l,r.pid=n.pid
 ·obtain ⟨r,hr,e⟩:=h;rw [z86 hr e,List.mem_map];constructor
  ·rintro ⟨y,hy,rfl⟩;split
   ·exact .inl rfl
   ·rename_i hne;exact .inr ⟨hy,hne⟩
  ·rintro (rfl|⟨hx,hne⟩)
   ·exact ⟨r,hr,if_pos e⟩
   ·exact ⟨x,hx,if_neg hne⟩
 ·have h:∀ r ∈ l,r.pid≠n.pid:=λr hr e=>h ⟨r,hr,e⟩;rw [zbe h,List.mem_append,List.mem_singleton];constructor
  ·rintro (hx|rfl)
   ·exact .inr ⟨hx,h x hx⟩
   ·exact .inl rfl
  ·rintro (rfl|⟨hx,-⟩)
   ·exact .inr rfl
   ·exact .inl hx
theorem zp8 {l:List RowT} {n r:RowT} (hr:r ∈ l) (e:r.pid=n.pid):(z4t l n).length=l.length:=by
 rw [z86 hr e,List.length_map]
theorem zmb {l:List RowT} {n:RowT} (h:l.Pairwise λa b=>a.pid<b.pid) (hn:(∃ r ∈ l,r.pid=n.pid)\/∀ r ∈ l,r.pid<n.pid):(z4t l n).Pairwise λa b=>a.pid<b.pid:=by
 rcases hn with ⟨r,hr,e⟩|hn
 ·rw [z86 hr e,List.pairwise_map];refine h.imp λ{a b} hab=>?_;split <;> split <;> omega
 ·rw [zbe λr hr=>by have:=hn r hr;omega,List.pairwise_append];exact ⟨h,List.pairwise_singleton ..,λa ha b hb=>by rw [List.mem_singleton.1 hb];exact hn a ha⟩
theorem zp7 {l:List RowT} {n r:RowT} (h:l.Pairwise λa b=>a.pid<b.pid) (hr:r ∈ l) (e:r.pid=n.pid) (ei:r.id=n.id):(z4t l n).map (·.id)=l.map (·.id):=by
 rw [z86 hr e,List.map_map];refine List.map_congr_left λx hx=>?_;show (if x.pid=n.pid then n else x).id=x.id;split
 ·rename_i e2;rw [z9f h hx hr (e2.trans e.symm),ei]
 ·rfl
theorem zum {X:CoT} (h:OkT X) {r n:RowT} (hr:r ∈ X.l) (e:r.pid=n.pid) (ei:r.id=n.id) (hn:OkRow X n):OkT (X.put n):=by
 refine ⟨h.parts,h.rows,h.epochs,?_,zmb h.pids (.inl ⟨r,hr,e⟩),?_,λx hx=>?_⟩
 ·show ((z4t X.l n).length:Int)<=_;rw [zp8 hr e];exact h.len
 ·show ((z4t X.l n).map (·.id)).Nodup;rw [zp7 h.pids hr e ei];exact h.ids
 ·rcases z85.1 hx with rfl|⟨hx,-⟩
  ·exact ⟨hn.1,hn.2,hn.3,hn.4,hn.5,hn.6,hn.7,hn.8,hn.9,hn.10,hn.11,hn.12,hn.13,hn.14,hn.15⟩
  ·have k:=h.row x hx;exact ⟨k.1,k.2,k.3,k.4,k.5,k.6,k.7,k.8,k.9,k.10,k.11,k.12,k.13,k.14,k.15⟩
theorem z0ak {X:CoT} (h:OkT X) {n:RowT} (hl:(X.l.length:Int)<1048576) (hp:∀ r ∈ X.l,r.pid<n.pid) (hi:∀ r ∈ X.l,r.id≠n.id) (hn:OkRow X n):OkT (X.put n):=by
 have e:(X.put n).l=X.l++[n]:=zbe λr hr=>by have:=hp r hr;omega
 refine ⟨h.parts,h.rows,h.epochs,?_,zmb h.pids (.inr hp),?_,λx hx=>?_⟩
 ·rw [e,List.length_append];simp only [List.length_cons,List.length_nil];omega
 ·rw [e,List.map_append,List.nodup_append];refine ⟨h.ids,by simp,λa ha b hb=>?_⟩;obtain ⟨r,hr,rfl⟩:=List.mem_map.1 ha;simp only [List.map_cons,List.map_nil,List.mem_singleton] at hb;rw [hb];exact hi r hr
 ·rcases z85.1 hx with rfl|⟨hx,-⟩
  ·exact ⟨hn.1,hn.2,hn.3,hn.4,hn.5,hn.6,hn.7,hn.8,hn.9,hn.10,hn.11,hn.12,hn.13,hn.14,hn.15⟩
  ·have k:=h.row x hx;exact ⟨k.1,k.2,k.3,k.4,k.5,k.6,k.7,k.8,k.9,k.10,k.11,k.12,k.13,k.14,k.15⟩
theorem zm6 {X:CoT} (h:OkT X):(z24 X.parts).Pairwise (· < ·)/\(∀ p ∈ z24 X.parts,0<=p/\p<X.parts)/\z24 X.parts≠[] :=
 ⟨zgh _,λp hp=>znm.1 hp,z09e h.parts.1⟩
theorem z0cx {X:CoT} (h:OkT X) {id:ByteArray} {pid who limit:Int} (hi:idT id=true) (hp:1<=pid/\pid<=1048576) (hw:z1h who=true) (hl:0<=limit/\limit<=1099511627776):OkRow X (zba id pid who limit):=by
 simp only [z1h,Bool.and_eq_true,decide_eq_true_eq] at hw;refine ⟨hi,hp,⟨Int.le_refl _,h.epochs.1⟩,hw,?_,?_,hl,?_,List.Pairwise.nil,(λp hp=>by cases hp),?_,?_,?_,List.Sublist.refl _,?_⟩
 all_goals simp [zba,z1a]
theorem z04l {X:CoT} (h:OkT X) {r:RowT} (hr:OkRow X r) {who limit:Int} (h5:r.state≠5) (hw:z1h who=true) (hl:0<=limit/\limit<=1099511627776):OkRow X (z2e (z24 X.parts) r who limit):=by
 simp only [z1h,Bool.and_eq_true,decide_eq_true_eq] at hw;obtain ⟨a1,a2,a3⟩:=zm6 h;obtain ⟨k1,k2,k3,k4,k5,k6,k7,k8,k9,k10,k11,k12,k13,k14,k15⟩:=hr;unfold z2e;split
 ·rename_i h0
  refine ⟨k1,k2,k3,hw,by show (0:Int)<=4/\(4:Int)<=5;omega,k6,hl,k8,a1,a2,?_,?_,?_,List.Sublist.refl _,?_⟩
  ·show ((4:Int)=0\/(4:Int)=5)↔_;exact ⟨λh=>by omega,λh=>absurd h a3⟩
  ·intro ho;have:=k12 ho;omega
  ·intro ho;have:=k13 ho;omega
  ·exact ⟨λ_=>rfl,λ_=>a3⟩
 split
 ·rename_i h0
  refine ⟨k1,k2,k3,hw,by show (0:Int)<=3/\(3:Int)<=5;omega,k6,hl,k8,a1,a2,?_,?_,?_,List.Sublist.refl _,?_⟩
  ·show ((3:Int)=0\/(3:Int)=5)↔_;exact ⟨λh=>by omega,λh=>absurd h a3⟩
  ·intro ho;rfl
  ·intro ho;have:=k13 ho;omega
  ·exact ⟨λ_=>rfl,λ_=>a3⟩
 split
 ·exact ⟨k1,k2,k3,hw,k5,k6,hl,k8,k9,k10,k11,k12,k13,k14,k15⟩
 ·exact ⟨k1,k2,k3,hw,k5,k6,hl,k8,k9,k10,k11,k12,λ_=>by show r.state=2\/r.state=3;omega,k14,k15⟩
theorem zjk (all:List Int) (r:RowT) (who limit:Int):(z2e all r who limit).pid=r.pid/\(z2e all r who limit).id=r.id/\(z2e all r who limit).epoch=r.epoch:=by
 unfold z2e
 repeat' split
 all_goals exact ⟨rfl,rfl,rfl⟩
theorem zle (X:CoT) (r:RowT):(z6h X r).pid=r.pid/\(z6h X r).id=r.id:=by
 unfold z6h
 repeat' split
 all_goals exact ⟨rfl,rfl⟩
theorem z0al    {X : CoT} (h : OkT X) {r : RowT} (hr : OkRow X r) : OkRow X (z6h   X r) := by
  obtain ⟨a1, a2, a3⟩ := zm6       h;obtain ⟨k1, k2, k3, k4, k5, k6, k7, k8, k9, k10, k11, k12, k13, k14, k15⟩ := hr
  have hf : 0 ≤ z9n   r ∧ z9n   r ≤ 3 := by unfold z9n  ; repeat' split
                                            all_goals omega
  unfold z6h  ;split
  · refine ⟨k1, k2, k3, k4, by show (0 : Int) ≤ 5 ∧ (5 : Int) ≤ 5; omega, by show (0 : Int) ≤ 0 ∧ (0 : Int) ≤ 1099511627776; omega, k7, hf, List.Pairwise.nil, (fun p hp => by cases hp), ?_, ?_, ?_, List.Sublist.refl _, ?_⟩
    all_goals simp [z1a  ]
  split
  · refine ⟨k1, k2, by show 0 ≤ r.epoch + 1 ∧ r.epoch + 1 ≤ X.epochs; omega, k4, by show (0 : Int) ≤ 4 ∧ (4 : Int) ≤ 5; omega, by show (0 : Int) ≤ 0 ∧ (0 : Int) ≤ 1099511627776; omega, k7, hf, a1, a2, ?_, ?_, ?_, List.Sublist.refl _, ?_⟩
    · exact ⟨fun h => by have h : (4 : Int) = 0 ∨ (4 : Int) = 5 := h; omega, fun h => absurd h a3⟩
    · intro h; cases h
    · intro h; cases h
    · exact ⟨fun _ => rfl, fun _ => a3⟩
  · refine ⟨k1, k2, by show 0 ≤ r.epoch + 1 ∧ r.epoch + 1 ≤ X.epochs; omega, k4, by show (0 : Int) ≤ 0 ∧ (0 : Int) ≤ 5; omega, by show (0 : Int) ≤ 0 ∧ (0 : Int) ≤ 1099511627776; omega, k7, hf, List.Pairwise.nil, (fun p hp => by cases hp), ?_, ?_, ?_, List.Sublist.refl _, ?_⟩
    all_goals simp [z1a  ]
def z6g (X:CoT):ActT->Prop
 | .no=>True
 | .row n=>OkRow X n/\((∃ r ∈ X.l,r.pid=n.pid/\r.id=n.id)\/((∀ r ∈ X.l,r.pid<n.pid/\r.id≠n.id)/\(X.l.length:Int)<1024/\(X.l.length:Int)<X.rows/\n.pid=z2v X.l+1))
 | .owes n=>OkRow X n/\∃ r ∈ X.l,n={ r with owed:=n.owed }
theorem zi9 {X:CoT} {a:ActT} (h:OkT X) (ha:z6g X a):OkT (X.act a):=by
 cases a with
 | no=>exact h
 | row n =>
  obtain ⟨h1,⟨r,hr,e1,e2⟩|⟨h2,h3,-⟩⟩:=ha
  ·exact zum h hr e1 e2 h1
  ·exact z0ak h (by omega) (λr hr=>(h2 r hr).1) (λr hr=>(h2 r hr).2) h1
 | owes n =>
  obtain ⟨h1,r,hr,e⟩:=ha;exact zum h hr (by rw [e]) (by rw [e]) h1
theorem z4k {t:Int}:z1h t=true↔0<=t/\t<=1099511627776:=by simp [z1h]
theorem zhn {X:CoT} (h:OkT X) (id:ByteArray) (who limit now:Int):z6g X (z2o X id who limit now).2:=by
 unfold z2o;split
 ·trivial
 rename_i hb
 simp only [Bool.or_eq_true,Bool.not_eq_true',decide_eq_true_eq,not_or,Bool.not_eq_false] at hb;obtain ⟨⟨⟨⟨-,hid⟩,hwho⟩,hl1⟩,hl2⟩:=hb;split
 ·rename_i hf
  split
  ·trivial
  split
  ·trivial
  rename_i hr hp
  obtain ⟨g1,g2⟩:=zdj X.l 0;have g1:0<=z2v X.l:=g1;refine ⟨z0cx h hid ⟨by omega,by omega⟩ hwho ⟨by omega,by omega⟩,.inr ⟨λr hr=>⟨?_,zhl.1 hf r hr⟩,?_,by omega,rfl⟩⟩
  ·have:r.pid<=z2v X.l:=g2 r hr;show r.pid<z2v X.l+1;omega
  ·have:=h.rows;omega
 ·rename_i r hf
  obtain ⟨hr,-⟩:=zog hf;have k:=h.row r hr;split
  ·trivial
  split
  ·trivial
  split
  ·rename_i h5 _ h0
   exact ⟨⟨k.1,k.2,k.3,k.4,k.5,k.6,⟨by show 0<=limit;omega,by show limit<=_;omega⟩,by show (0:Int)<=0/\(0:Int)<=3;omega,k.9,k.10,k.11,k.12,k.13,k.14,k.15⟩,.inl ⟨r,hr,rfl,rfl⟩⟩
  ·rename_i h5 _ _
   obtain ⟨e1,e2,-⟩:=zjk (z24 X.parts) r who limit;exact ⟨z04l h k h5 hwho ⟨by omega,by omega⟩,.inl ⟨r,hr,e1.symm,e2.symm⟩⟩
theorem zth {X:CoT} (h:OkT X) (pid epoch now:Int) (ps:List Int):z6g X (z6c X pid epoch now ps).2:=by
 unfold z6c;split
 ·trivial
 rename_i ht
 have ht:=z4k.1 (by simpa using ht);split
 ·trivial
 rename_i r hf
 obtain ⟨hr,-⟩:=zc2 hf;have k:=h.row r hr;split
 ·trivial
 rename_i hps
 split
 ·trivial
 split
 ·trivial
 split
 ·trivial
 split
 ·trivial
 split
 ·trivial
 rename_i h20 h5 h22 h23 h0
 have hs:r.state=0\/r.state=1:=by omega
 have hne:z8r X.parts r.parts ps≠[]:=by
  obtain ⟨p,hp⟩:=List.exists_mem_of_ne_nil ps (λe=>hps (.inl e));have hp2:¬ (p<0\/p>=X.parts):=λhb=>hps (.inr (List.any_eq_true.2 ⟨p,hp,by simpa using hb⟩));exact List.ne_nil_of_mem (z9w.2 ⟨⟨by omega,by omega⟩,.inr hp⟩)
 have ho:r.owed=[]:=by
  apply Decidable.byContradiction;intro hne;have:=k.owes.1 hne;simp only [z1a,Bool.and_eq_true,decide_eq_true_eq] at this;omega
 refine ⟨⟨k.1,k.2,k.3,k.4,by show (0:Int)<=1/\(1:Int)<=5;omega,?_,k.7,k.8,z8s _ _ _,λp hp=>(z9w.1 hp).1,?_,?_,?_,?_,?_⟩,.inl ⟨r,hr,rfl,rfl⟩⟩
 ·show 0<=(if r.state=0 then now else r.since)/\(if r.state=0 then now else r.since)<=_;split
  ·exact ht
  ·exact k.6
 ·exact ⟨λh=>by have h:(1:Int)=0\/(1:Int)=5:=h;omega,λh=>absurd h hne⟩
 ·intro h;have:=k.own h;omega
 ·intro h;have:=k.next h;omega
 ·show r.owed.Sublist _;rw [ho];exact List.nil_sublist _
 ·show r.owed≠[]↔_;rw [ho];simp [z1a]
theorem ztu {X:CoT} (h:OkT X) (pid epoch:Int) (commit:Bool) (now:Int):z6g X (z6e X pid epoch commit now).2:=by
 unfold z6e;split
 ·trivial
 split
 ·trivial
 rename_i r hf
 obtain ⟨hr,-⟩:=zc2 hf;have k:=h.row r hr;split
 ·trivial
 split
 ·trivial
 split
 ·trivial
 split
 ·trivial
 split
 ·trivial
 split
 ·rename_i h1
  have hne:r.parts≠[]:=λe=>by have:=k.none.2 e;omega
  refine ⟨⟨k.1,k.2,k.3,k.4,?_,k.6,k.7,k.8,k.9,k.10,?_,?_,?_,List.Sublist.refl _,?_⟩,.inl ⟨r,hr,rfl,rfl⟩⟩
  ·show (0:Int)<=(if commit=true then 2 else 3)/\(if commit=true then 2 else 3:Int)<=5;split <;> omega
  ·refine ⟨λh=>?_,λh=>absurd h hne⟩;have h:(if commit=true then 2 else 3:Int)=0\/(if commit=true then 2 else 3:Int)=5:=h;split at h <;> omega
  ·intro ho;have ho:(!commit)=true:=ho;cases commit
   ·rfl
   ·cases ho
  ·intro ho;show (if commit=true then 2 else 3:Int)=2\/(if commit=true then 2 else 3:Int)=3;split <;> omega
  ·refine ⟨λ_=>?_,λ_=>hne⟩;cases commit <;> rfl
 split
 ·trivial
 ·trivial
theorem zor {X:CoT} (h:OkT X) (pid epoch part now:Int):z6g X (z3t X pid epoch part now).2:=by
 unfold z3t;split
 ·trivial
 split
 ·trivial
 rename_i r hf
 obtain ⟨hr,-⟩:=zc2 hf;have k:=h.row r hr;split
 ·trivial
 rename_i hc
 split
 ·obtain ⟨e1,e2⟩:=zle X r;exact ⟨z0al h k,.inl ⟨r,hr,e1.symm,e2.symm⟩⟩
 ·rename_i h1
  have hin:part ∈ r.owed:=by
   have:¬ (r.owed.contains part=false):=λe=>hc (.inr e);simpa using this
  have hnd:r.owed.Pairwise (· < ·):=k.parts.sublist k.owed;have hne:r.owed≠[]:=List.ne_nil_of_mem hin;refine ⟨⟨k.1,k.2,k.3,k.4,k.5,k.6,k.7,k.8,k.9,k.10,k.11,k.12,k.13,(List.filter_sublist ..).trans k.14,?_⟩,r,hr,rfl⟩;refine ⟨λ_=>k.owes.1 hne,λ_=>?_⟩;intro e;have e:r.owed.filter (λp=>!decide (p=part))=[]:=e;rw [List.filter_eq_nil_iff] at e
  match ho:r.owed with
  | []=>exact hne ho
  | [a]=>rw [ho] at h1;exact h1 rfl
  | a::b::t =>
   have ha:=e a (by rw [ho];simp);have hb:=e b (by rw [ho];simp);simp at ha hb;rw [ho,List.pairwise_cons] at hnd;have:=hnd.1 b (List.mem_cons_self ..);omega
theorem z04a {l:List RowT} {f:RowT->RowT} (hf:∀ r,(f r).pid=r.pid) (h:l.Pairwise λa b=>a.pid<b.pid):(l.map f).Pairwise λa b=>a.pid<b.pid:=by
 rw [List.pairwise_map]
 exact h.imp λ{a b} hab=>by rw [hf,hf];exact hab
end Go.Dec
namespace Go.T
abbrev a64:Go.TypeId:=0
abbrev a14:Go.TypeId:=2
abbrev a13:Go.TypeId:=3
abbrev a3:Go.TypeId:=4
abbrev a63:Go.TypeId:=5
abbrev a57:Go.TypeId:=9
abbrev a54:Go.TypeId:=24
abbrev a38:Go.TypeId:=26
abbrev a29:Go.TypeId:=28
abbrev a1:Go.TypeId:=29
abbrev a41:Go.TypeId:=48
abbrev a42:Go.TypeId:=52
abbrev a0:Go.TypeId:=54
abbrev a2:Go.TypeId:=56
abbrev a33:Go.TypeId:=63
abbrev a58:Go.TypeId:=68
abbrev a50:Go.TypeId:=77
abbrev a44:Go.TypeId:=78
abbrev a53:Go.TypeId:=81
abbrev a48:Go.TypeId:=84
abbrev a40:Go.TypeId:=87
abbrev a51:Go.TypeId:=98
abbrev a60:Go.TypeId:=101
abbrev a52:Go.TypeId:=103
abbrev a61:Go.TypeId:=106
abbrev a25:Go.TypeId:=133
abbrev a8:Go.TypeId:=135
abbrev a34:Go.TypeId:=136
abbrev a27:Go.TypeId:=140
abbrev a19:Go.TypeId:=166
abbrev a26:Go.TypeId:=170
abbrev a22:Go.TypeId:=171
abbrev a23:Go.TypeId:=172
abbrev a59:Go.TypeId:=174
abbrev a37:Go.TypeId:=175
abbrev a62:Go.TypeId:=179
abbrev a45:Go.TypeId:=190
abbrev a30:Go.TypeId:=208
abbrev a9:Go.TypeId:=211
abbrev a35:Go.TypeId:=213
abbrev a28:Go.TypeId:=218
abbrev a32:Go.TypeId:=219
abbrev a39:Go.TypeId:=221
abbrev a4:Go.TypeId:=227
abbrev a47:Go.TypeId:=265
abbrev a55:Go.TypeId:=267
abbrev a31:Go.TypeId:=286
abbrev a56:Go.TypeId:=288
abbrev a36:Go.TypeId:=289
abbrev a7:Go.TypeId:=291
abbrev a49:Go.TypeId:=297
abbrev a65:Go.TypeId:=301
abbrev a46:Go.TypeId:=308
abbrev a17:Go.TypeId:=311
abbrev a18:Go.TypeId:=313
abbrev a21:Go.TypeId:=315
abbrev a24:Go.TypeId:=316
abbrev a16:Go.TypeId:=318
abbrev a20:Go.TypeId:=351
abbrev a6:Go.TypeId:=353
abbrev a5:Go.TypeId:=356
abbrev a10:Go.TypeId:=369
abbrev a15:Go.TypeId:=374
abbrev a12:Go.TypeId:=408
abbrev a43:Go.TypeId:=409
abbrev a11:Go.TypeId:=411
end Go.T
namespace Go.F
abbrev a179:Go.FuncId:=9
abbrev a38:Go.FuncId:=13
abbrev a69:Go.FuncId:=25
abbrev a181:Go.FuncId:=26
abbrev a203:Go.FuncId:=27
abbrev a180:Go.FuncId:=29
abbrev a68:Go.FuncId:=32
abbrev a67:Go.FuncId:=33
abbrev a188:Go.FuncId:=39
abbrev a187:Go.FuncId:=40
abbrev a190:Go.FuncId:=41
abbrev a186:Go.FuncId:=42
abbrev a189:Go.FuncId:=43
abbrev a185:Go.FuncId:=44
abbrev a183:Go.FuncId:=45
abbrev a182:Go.FuncId:=46
abbrev a191:Go.FuncId:=50
abbrev a184:Go.FuncId:=51
abbrev a28:Go.FuncId:=56
abbrev a75:Go.FuncId:=57
abbrev a77:Go.FuncId:=58
abbrev a6:Go.FuncId:=59
abbrev a76:Go.FuncId:=63
abbrev a79:Go.FuncId:=72
abbrev a7:Go.FuncId:=73
abbrev a200:Go.FuncId:=74
abbrev a201:Go.FuncId:=75
abbrev a66:Go.FuncId:=80
abbrev a8:Go.FuncId:=81
abbrev a198:Go.FuncId:=85
abbrev a205:Go.FuncId:=86
abbrev a142:Go.FuncId:=87
abbrev a199:Go.FuncId:=88
abbrev a195:Go.FuncId:=89
abbrev a139:Go.FuncId:=90
abbrev a135:Go.FuncId:=91
abbrev a207:Go.FuncId:=92
abbrev a204:Go.FuncId:=93
abbrev a196:Go.FuncId:=94
abbrev a202:Go.FuncId:=95
abbrev a208:Go.FuncId:=96
abbrev a194:Go.FuncId:=97
abbrev a138:Go.FuncId:=98
abbrev a193:Go.FuncId:=99
abbrev a146:Go.FuncId:=100
abbrev a137:Go.FuncId:=101
abbrev a29:Go.FuncId:=107
abbrev a125:Go.FuncId:=111
abbrev a32:Go.FuncId:=112
abbrev a86:Go.FuncId:=113
abbrev a87:Go.FuncId:=114
abbrev a31:Go.FuncId:=115
abbrev a82:Go.FuncId:=116
abbrev a106:Go.FuncId:=117
abbrev a85:Go.FuncId:=118
abbrev a108:Go.FuncId:=119
abbrev a83:Go.FuncId:=120
abbrev a214:Go.FuncId:=123
abbrev a226:Go.FuncId:=124
abbrev a88:Go.FuncId:=125
abbrev a215:Go.FuncId:=127
abbrev a222:Go.FuncId:=128
abbrev a217:Go.FuncId:=129
abbrev a9:Go.FuncId:=130
abbrev a110:Go.FuncId:=135
abbrev a80:Go.FuncId:=136
abbrev a56:Go.FuncId:=137
abbrev a92:Go.FuncId:=138
abbrev a94:Go.FuncId:=139
abbrev a13:Go.FuncId:=140
abbrev a12:Go.FuncId:=141
abbrev a211:Go.FuncId:=142
abbrev a219:Go.FuncId:=143
abbrev a218:Go.FuncId:=144
abbrev a197:Go.FuncId:=145
abbrev a209:Go.FuncId:=146
abbrev a10:Go.FuncId:=147
abbrev a210:Go.FuncId:=148
abbrev a206:Go.FuncId:=149
abbrev a192:Go.FuncId:=150
abbrev a141:Go.FuncId:=151
abbrev a171:Go.FuncId:=152
abbrev a73:Go.FuncId:=153
abbrev a72:Go.FuncId:=158
abbrev a178:Go.FuncId:=159
abbrev a147:Go.FuncId:=160
abbrev a0:Go.FuncId:=161
abbrev a126:Go.FuncId:=162
abbrev a130:Go.FuncId:=163
abbrev a116:Go.FuncId:=164
abbrev a109:Go.FuncId:=165
abbrev a119:Go.FuncId:=166
abbrev a122:Go.FuncId:=167
abbrev a115:Go.FuncId:=168
abbrev a34:Go.FuncId:=169
abbrev a30:Go.FuncId:=170
abbrev a36:Go.FuncId:=171
abbrev a35:Go.FuncId:=172
abbrev a39:Go.FuncId:=173
abbrev a15:Go.FuncId:=174
abbrev a55:Go.FuncId:=175
abbrev a84:Go.FuncId:=176
abbrev a42:Go.FuncId:=177
abbrev a221:Go.FuncId:=178
abbrev a78:Go.FuncId:=179
abbrev a14:Go.FuncId:=180
abbrev a19:Go.FuncId:=181
abbrev a54:Go.FuncId:=182
abbrev a58:Go.FuncId:=183
abbrev a20:Go.FuncId:=184
abbrev a62:Go.FuncId:=185
abbrev a81:Go.FuncId:=186
abbrev a107:Go.FuncId:=187
abbrev a113:Go.FuncId:=188
abbrev a89:Go.FuncId:=189
abbrev a224:Go.FuncId:=190
abbrev a230:Go.FuncId:=191
abbrev a228:Go.FuncId:=192
abbrev a227:Go.FuncId:=193
abbrev a177:Go.FuncId:=196
abbrev a111:Go.FuncId:=197
abbrev a124:Go.FuncId:=198
abbrev a131:Go.FuncId:=199
abbrev a112:Go.FuncId:=200
abbrev a93:Go.FuncId:=201
abbrev a59:Go.FuncId:=202
abbrev a61:Go.FuncId:=203
abbrev a65:Go.FuncId:=204
abbrev a99:Go.FuncId:=205
abbrev a96:Go.FuncId:=206
abbrev a95:Go.FuncId:=207
abbrev a140:Go.FuncId:=208
abbrev a143:Go.FuncId:=209
abbrev a229:Go.FuncId:=210
abbrev a11:Go.FuncId:=211
abbrev a148:Go.FuncId:=212
abbrev a70:Go.FuncId:=213
abbrev a212:Go.FuncId:=214
abbrev a159:Go.FuncId:=215
abbrev a156:Go.FuncId:=216
abbrev a150:Go.FuncId:=217
abbrev a153:Go.FuncId:=218
abbrev a174:Go.FuncId:=219
abbrev a162:Go.FuncId:=220
abbrev a2:Go.FuncId:=221
abbrev a166:Go.FuncId:=222
abbrev a168:Go.FuncId:=223
abbrev a74:Go.FuncId:=225
abbrev a53:Go.FuncId:=227
abbrev a114:Go.FuncId:=229
abbrev a118:Go.FuncId:=230
abbrev a132:Go.FuncId:=231
abbrev a40:Go.FuncId:=232
abbrev a128:Go.FuncId:=233
abbrev a123:Go.FuncId:=234
abbrev a90:Go.FuncId:=235
abbrev a133:Go.FuncId:=236
abbrev a121:Go.FuncId:=237
abbrev a26:Go.FuncId:=238
abbrev a223:Go.FuncId:=240
abbrev a18:Go.FuncId:=245
abbrev a22:Go.FuncId:=246
abbrev a17:Go.FuncId:=247
abbrev a57:Go.FuncId:=248
abbrev a120:Go.FuncId:=249
abbrev a117:Go.FuncId:=250
abbrev a25:Go.FuncId:=251
abbrev a127:Go.FuncId:=252
abbrev a33:Go.FuncId:=253
abbrev a47:Go.FuncId:=255
abbrev a101:Go.FuncId:=256
abbrev a64:Go.FuncId:=257
abbrev a144:Go.FuncId:=258
abbrev a60:Go.FuncId:=259
abbrev a1:Go.FuncId:=260
abbrev a100:Go.FuncId:=261
abbrev a98:Go.FuncId:=262
abbrev a103:Go.FuncId:=263
abbrev a176:Go.FuncId:=265
abbrev a136:Go.FuncId:=266
abbrev a145:Go.FuncId:=267
abbrev a71:Go.FuncId:=268
abbrev a4:Go.FuncId:=274
abbrev a46:Go.FuncId:=284
abbrev a44:Go.FuncId:=285
abbrev a216:Go.FuncId:=286
abbrev a51:Go.FuncId:=287
abbrev a104:Go.FuncId:=288
abbrev a102:Go.FuncId:=289
abbrev a129:Go.FuncId:=290
abbrev a49:Go.FuncId:=291
abbrev a220:Go.FuncId:=292
abbrev a16:Go.FuncId:=293
abbrev a24:Go.FuncId:=295
abbrev a23:Go.FuncId:=296
abbrev a21:Go.FuncId:=297
abbrev a63:Go.FuncId:=298
abbrev a91:Go.FuncId:=299
abbrev a43:Go.FuncId:=300
abbrev a37:Go.FuncId:=301
abbrev a27:Go.FuncId:=302
abbrev a50:Go.FuncId:=303
abbrev a48:Go.FuncId:=304
abbrev a170:Go.FuncId:=305
abbrev a5:Go.FuncId:=306
abbrev a105:Go.FuncId:=307
abbrev a134:Go.FuncId:=309
abbrev a172:Go.FuncId:=310
abbrev a41:Go.FuncId:=316
abbrev a97:Go.FuncId:=317
abbrev a52:Go.FuncId:=318
abbrev a213:Go.FuncId:=319
abbrev a225:Go.FuncId:=320
abbrev a45:Go.FuncId:=321
abbrev a158:Go.FuncId:=322
abbrev a155:Go.FuncId:=323
abbrev a149:Go.FuncId:=324
abbrev a152:Go.FuncId:=325
abbrev a173:Go.FuncId:=326
abbrev a161:Go.FuncId:=327
abbrev a165:Go.FuncId:=328
abbrev a164:Go.FuncId:=329
abbrev a160:Go.FuncId:=331
abbrev a157:Go.FuncId:=332
abbrev a151:Go.FuncId:=333
abbrev a154:Go.FuncId:=334
abbrev a175:Go.FuncId:=335
abbrev a163:Go.FuncId:=336
abbrev a3:Go.FuncId:=337
abbrev a167:Go.FuncId:=338
abbrev a169:Go.FuncId:=339
end Go.F
namespace Go.Dec
noncomputable abbrev P:Program:=Go.Proofs.Tryz.prog
def zhy:List FuncId:=[2,3,4,5,6,7,8,9,10,11,12,13,14,15,16,17,18,19,20,21,22,23,24,25,26,27,28,29,30,31,32,33,34,35,36,37,38,39,40,41,42,43,44,45,46,47,48,49,50,51,52,53,54,55,56,57,58,59,60,61,62,63,64,65,66,67,68,69,70,71,72,73,74,75,76,77,78,79,80,81,82,83,84,85,86,87,88,89,90,91,92,93,94,95,96,97,98,99,100,101,102,103,104,105,106,107,108,109,110,111,112,113,114,115,116,117,118,119,120,121,122,123,124,125,126,127,128,129,130,131,132,133,134,135,136,137,138,139,140,141,142,143,144,145,146,147,148,149,150,151,152,153,154,155,156,157,158,159,160,161,162,163,164,165,166,167,168,169,170,171,172,173,174,175,176,177,178,179,180,181,182,183,184,185,186,187,188,189,190,191,192,193,194,195,196,197,198,199,200,201,202,203,204,205,206,207,208,209,210,211,212,213,214,215,216,217,218,219,220,221,222,223,224,225,226,227,228,229,230,231,232,233,234,235,236,237,238,239,240,241,242,243,244,245,246,247,248,249,250,251,252,253,254,255,256,257,258,259,260,261,262,263,265,266,267,268,269,270,271,272,273,274,275,276,277,278,279,280,281,282,283,284,285,286,287,288,289,290,291,292,293,294,295,296,297,298,299,300,301,302,303,304,305,306,307,308,309,310,311,312,313,314,315,316,317,318,319,320,321,322,323,324,325,326,327,328,329,330,331,332,333,334,335,336,337,338,339,340,341,342,343,344,345,346,347,348]
theorem z04i:zhy.all (z4y P)=true:=by kernel_rfl
theorem zg2:∀ f ∈ zhy,z4y P f=true:=List.all_eq_true.1 z04i
theorem mix:P.follows .mixedOrders=true:=by kernel_rfl
theorem dS {f:FuncId} {fn:Func} {n:Nat} {rv:List RV} {p:Prog} {w:World} {R:List Value->World->Prop} (H:Hints) (args:List Base) (hf:P.funcs[f]? = some fn) (hb:fn.body.isSome=true) (hn:fn.ntmps=n) (hr:zcg fn.results.toList=rv) (he:zi7 P n ⟨zhy,[]⟩ H rv (zay fn) args=p) (h:p.wp P (λ_=>True) w λe vs w'=>e=0/\R vs w'):Ret P f (args.map Base.v).toArray w R:=z8n (zfy hf hb hn hr) zg2 mix args (by rw [he];exact h)
abbrev FnS (p:Prog) (f:FuncId) (vs:Array Value):Prop:=∀ {w:World} {R:List Value->World->Prop},p.wp P (λ_=>True) w (λe vs w'=>e=0/\R vs w')->Ret P f vs w R
theorem dV {f:FuncId} {fn:Func} {p:Prog} {vs:List Value} (H:Hints) (hf:P.funcs[f]? = some fn) (he:(fn.body.isSome,zi7 P fn.ntmps ⟨zhy,[]⟩ H (zcg fn.results.toList) (zay fn) (vs.map Base.val))=(true,p)):FnS p f vs.toArray:=λh=>by
 have e:=dS H (vs.map Base.val) hf (congrArg Prod.fst he) rfl rfl (congrArg Prod.snd he) h
 rwa [List.map_map,show Base.v∘Base.val=id from rfl,List.map_id] at e
abbrev Aa (b:Bool) (p q:Prog):Prog:=.ite b p q
abbrev Ab (e:Nat) (l:List Value):Prog:=.done e l
abbrev Ac (n:Int):Value:=.int .i64 n
abbrev Ad (p:Option Addr):Value:=.pointer p
abbrev Ae (m:Sem Value) (k:(Option Nat)->Prog):Prog:=.act m sM (u1 k)
abbrev Af (t:TypeId) (v:Value) (k:Addr->Prog):Prog:=.act (Instr.box t v) sA (u1 k)
abbrev Ag (a:Addr):Value:=.pointer (some a)
abbrev Ah (g:Prop) (s:Option Addr) (k:Addr->Prog):Prog:=.ex [.adr] (c1 λa=>g->s=some a) (u1 k)
abbrev Ai (g:Prop) (t:TypeId) (a:Addr) (i:Nat) (k:Bool->Prog):Prog:=.read g (ld t (Addr.add a i)) sB (u1 k)
abbrev Aj (x:Bool) (k:Bool->Prog):Prog:=.lt (.bool) x k
abbrev Ak (l:Sl):Int:=((l.len:Nat):Int)
abbrev Al (x:Int) (k:Int->Prog):Prog:=.lt (.int .i64) x k
abbrev Am (f:FuncId) (l:List Value) (k:Int->Prog):Prog:=.call f l (sI .i64) (u1 k)
abbrev An (f:FuncId) (l:List Value) (k:Prog):Prog:=.call f l (.tup []) (u0 k)
abbrev Ao (s:Option Addr) (k:Addr->Prog):Prog:=.ex [.adr] (c1 λa=>s=some a) (u1 k)
abbrev Ap (t:TypeId) (a:Addr) (i:Nat) (k:(Option Nat)->Prog):Prog:=.read True (ld t (Addr.add a i)) sM (u1 k)
abbrev Aq (m:Sem Value) (k:(Option Addr)->Prog):Prog:=.read True m sP (u1 k)
abbrev Ar (a:Addr) (i:Nat):Value:=.pointer (some (Addr.add a i))
abbrev As (e:Nat) (x:Int × Int × Int × Bool × Bool × Unit) (k:Int->Int->Int->Bool->Bool->Prog):Prog:=.loop e [.one (.int .i64),.one (.int .i64),.one (.int .i64),.one .bool,.one .bool] x (u5 k)
abbrev Au (e:Nat) (p:Prog) (k:Int->Int->Int->Bool->Bool->Prog):Prog:=.bind e [.one (.int .i64),.one (.int .i64),.one (.int .i64),.one .bool,.one .bool] p (u5 k)
abbrev Av (n:Int):Int:=IntKind.wrap .i64 n
abbrev Aw (e:Nat) (p:Prog) (k:Int->Prog):Prog:=.bind e [.one (.int .i64)] p (u1 k)
abbrev Ax (f:FuncId) (l:List Value) (k:Int->Int->Prog):Prog:=.call f l (.tup [.one (.int .i64),.one (.int .i64)]) (u2 k)
abbrev Ay (e:Nat) (p:Prog) (k:Int->Int->Prog):Prog:=.bind e [.one (.int .i64),.one (.int .i64)] p (u2 k)
abbrev Az (e:Nat) (p:Prog) (k:Prog):Prog:=.bind e [] p (u0 k)
abbrev AA (f:FuncId) (l:List Value) (k:Bool->Prog):Prog:=.call f l sB (u1 k)
abbrev AB (e:Nat) (p:Prog) (k:Bool->Prog):Prog:=.bind e [.one .bool] p (u1 k)
abbrev AC (k:Prog):Prog:=.tick k
abbrev AD (g:Prop) (t:TypeId) (a:Addr) (i:Nat) (k:Int->Prog):Prog:=.read g (ld t (Addr.add a i)) (sI .i64) (u1 k)
abbrev AE (k:Prog):Prog:=.untick k
abbrev AF (f:FuncId) (l:List Value) (k:Int->Bool->Prog):Prog:=.call f l (.tup [.one (.int .i64),.one .bool]) (u2 k)
abbrev AG (e:Nat) (p:Prog) (k:Int->Int->Bool->Prog):Prog:=.bind e [.one (.int .i64),.one (.int .i64),.one .bool] p (u3 k)
abbrev AH (t:TypeId) (k:Addr->Prog):Prog:=.act (new t) sA (u1 k)
abbrev AI (g:Prop) (t:TypeId) (a:Addr) (i:Nat) (k:(Option Nat)->Prog):Prog:=.read g (ld t (Addr.add a i)) sM (u1 k)
abbrev AJ (g:Prop) (m:Sem Value) (k:(Option Addr)->Prog):Prog:=.read g m sP (u1 k)
abbrev AK (t:TypeId) (a:Addr) (v:Value) (k:Prog):Prog:=.actU (st t a v) k
abbrev AL (t:TypeId) (a:Addr) (k:Sl->Int->Prog):Prog:=.read True (ld t a) (sG [.slc,.int .i64]) (u2 k)
abbrev AM (x0:Sl) (x1:Int):Value:=.agg #[x0.v,.int .i64 x1]
abbrev AN (t:TypeId) (a:Addr) (i:Nat) (k:Sl->Prog):Prog:=.read True (ld t (Addr.add a i)) sL (u1 k)
abbrev AO (f:FuncId) (l:List Value) (k:Sl->Prog):Prog:=.call f l sL (u1 k)
abbrev AP (x:Bool) (p q:Prog):Prog:=.lt .bool x λb=>.ite b p q
abbrev AQ (t:TypeId) (a:Addr) (i:Nat) (k:Bool->Prog):Prog:=.read True (ld t (Addr.add a i)) sB (u1 k)
abbrev AR (t:TypeId) (a:Addr) (i:Nat) (k:Int->Prog):Prog:=.read True (ld t (Addr.add a i)) (sI .i64) (u1 k)
abbrev AS (t:TypeId) (a:Addr) (i:Nat) (v:Value) (k:Prog):Prog:=.actU (st t (Addr.add a i) v) k
abbrev AT (m:Sem Value) (k:Prog):Prog:=.act m (.tup []) (u0 k)
abbrev AU (e:Nat) (x:Int × Int × Unit) (k:Int->Int->Prog):Prog:=.loop e [.one (.int .i64),.one (.int .i64)] x (u2 k)
abbrev AV (f:Value) (l:List Value) (k:Bool->Prog):Prog:=.callv f l sB (u1 k)
abbrev AW (e:Nat) (x:Int × Unit) (k:Int->Prog):Prog:=.loop e [.one (.int .i64)] x (u1 k)
abbrev AX (e:Nat) (p:Prog) (k:Int->Int->Prog):Prog:=.bind e [.one (.int .u64),.one (.int .i64)] p (u2 k)
abbrev AY (x:Int) (k:Int->Prog):Prog:=.lt (.int .u64) x k
abbrev AZ (g:Prop) (t:TypeId) (a:Addr) (i:Nat) (k:Sl->Prog):Prog:=.read g (ld t (Addr.add a i)) sL (u1 k)
abbrev Ba (e:Nat) (p:Prog) (k:(Option Addr)->Prog):Prog:=.bind e [.one .ptr] p (u1 k)
abbrev Bb (m:Sem Unit) (k:Prog):Prog:=.actU m k
abbrev Bc (m:Sem Value) (k:Sl->Prog):Prog:=.act m sL (u1 k)
abbrev Bd (t:TypeId) (a:Addr) (i:Nat) (k:ByteArray->Prog):Prog:=.read True (ld t (Addr.add a i)) sS (u1 k)
abbrev Be (x:ByteArray) (k:ByteArray->Prog):Prog:=.lt (.str) x k
abbrev Bf (e:Nat) (p:Prog) (k:Sl->Prog):Prog:=.bind e [.one .slc] p (u1 k)
abbrev Bg (t:TypeId) (a:Addr) (i:Nat) (k:Int->Prog):Prog:=.read True (ld t (Addr.add a i)) (sI .u8) (u1 k)
abbrev Bh (x:Int) (k:Int->Prog):Prog:=.lt (.int .u8) x k
abbrev Bi (g:Prop) (t:TypeId) (a:Addr) (i:Nat) (k:Int->Int->Int->Int->Prog):Prog:=.read g (ld t (Addr.add a i)) (sG [.int .i64,.int .i64,.int .i64,.int .i64]) (u4 k)
abbrev Bj (x0:Int) (x1:Int) (x2:Int) (x3:Int):Value:=.agg #[.int .i64 x0,.int .i64 x1,.int .i64 x2,.int .i64 x3]
abbrev Bk (x0:Int) (x1:Int):Value:=.agg #[.int .i64 x0,.int .i64 x1]
abbrev Bl (g:Prop) (m:Sem Value) (k:Int->Int->Prog):Prog:=.read g m (sG [.int .i64,.int .i64]) (u2 k)
abbrev Bn (m:Sem Value) (k:Int->Int->Prog):Prog:=.read True m (sG [.int .i64,.int .i64]) (u2 k)
abbrev Bo (f:FuncId) (l:List Value) (k:Sl->Int->Prog):Prog:=.call f l (.tup [.one .slc,.one (.int .i64)]) (u2 k)
abbrev Bp (f:FuncId) (l:List Value) (k:ByteArray->Prog):Prog:=.call f l sS (u1 k)
abbrev Bq (t:TypeId) (a:Addr) (i:Nat) (k:(Option Addr)->Prog):Prog:=.read True (ld t (Addr.add a i)) sP (u1 k)
abbrev Br (e:Nat) (x:Sl × Int × Unit) (k:Sl->Int->Prog):Prog:=.loop e [.one .slc,.one (.int .i64)] x (u2 k)
abbrev Bs (f:FuncId) (l:List Value) (k:Int->Prog):Prog:=.call f l (sI .u64) (u1 k)
abbrev Bt (t:TypeId) (a:Addr) (k:(Option Addr)->Prog):Prog:=.read True (ld t a) sP (u1 k)
abbrev Bu (g:Prop) (m:Sem Value) (k:Int->Prog):Prog:=.hold g m (sI .i64) (u1 k)
abbrev Bv (t:TypeId) (a:Addr) (i:Nat) (k:Int->Int->Int->Int->Int->Int->Sl->Prog):Prog:=.read True (ld t (Addr.add a i)) (sG [.int .i64,.int .i64,.int .i64,.int .i64,.int .i64,.int .i64,.slc]) (u7 k)
abbrev Bw (x0:Int) (x1:Int) (x2:Int) (x3:Int) (x4:Int) (x5:Int) (x6:Sl):Value:=.agg #[.int .i64 x0,.int .i64 x1,.int .i64 x2,.int .i64 x3,.int .i64 x4,.int .i64 x5,x6.v]
abbrev Bx (t:TypeId) (a:Addr) (k:Int->Int->Int->Int->Int->Int->Sl->Prog):Prog:=.read True (ld t a) (sG [.int .i64,.int .i64,.int .i64,.int .i64,.int .i64,.int .i64,.slc]) (u7 k)
abbrev By (t:TypeId) (a:Addr) (i:Nat) (k:ByteArray->ByteArray->Bool->Int->Prog):Prog:=.read True (ld t (Addr.add a i)) (sG [.str,.str,.bool,.int .i64]) (u4 k)
abbrev Bz (x0:ByteArray) (x1:ByteArray) (x2:Bool) (x3:Int):Value:=.agg #[.string x0,.string x1,.bool x2,.int .i64 x3]
abbrev B0 (t:TypeId) (a:Addr) (k:ByteArray->ByteArray->Bool->Int->Prog):Prog:=.read True (ld t a) (sG [.str,.str,.bool,.int .i64]) (u4 k)
abbrev B1 (t:TypeId) (a:Addr) (i:Nat) (k:Int->Prog):Prog:=.hold True (ld t (Addr.add a i)) (sI .i64) (u1 k)
abbrev B2 (f:FuncId) (l:List Value) (k:(Option Addr)->Prog):Prog:=.call f l sP (u1 k)
abbrev B3 (m:Sem Value) (k:ByteArray->Prog):Prog:=.read True m sS (u1 k)
abbrev B4 (f:FuncId) (l:List Value) (k:Sl->Int->Bool->Prog):Prog:=.call f l (.tup [.one .slc,.one (.int .i64),.one .bool]) (u3 k)
abbrev B5 (t:TypeId) (a:Addr) (i:Nat) (k:(Option Addr)->Prog):Prog:=.hold True (ld t (Addr.add a i)) sP (u1 k)
abbrev B6 (t:TypeId) (p:Option Addr) (k:(Option Addr)->Prog):Prog:=.read True (Instr.loadAt t (.pointer p)) sP (u1 k)
abbrev B7 (t:TypeId) (p:Option Addr) (k:Int->Prog):Prog:=.read True (Instr.loadAt t (.pointer p)) (sI .i64) (u1 k)
abbrev B8 (g:Prop) (t:TypeId) (a:Addr) (k:Int->Int->Int->Int->Int->Int->Sl->Prog):Prog:=.read g (ld t a) (sG [.int .i64,.int .i64,.int .i64,.int .i64,.int .i64,.int .i64,.slc]) (u7 k)
abbrev B9 (x0:Int) (x1:Int) (x2:Int):Value:=.agg #[.int .i64 x0,.int .i64 x1,.int .i64 x2]
abbrev BA (f:FuncId) (l:List Value) (k:Int->Int->Int->Int->Int->Int->Sl->Prog):Prog:=.call f l (sG [.int .i64,.int .i64,.int .i64,.int .i64,.int .i64,.int .i64,.slc]) (u7 k)
abbrev BB (f:FuncId) (l:List Value) (k:Int->Prog):Prog:=.call f l (sI .u32) (u1 k)
abbrev BC (x:Int) (k:Int->Prog):Prog:=.lt (.int .u32) x k
abbrev BD (f:FuncId) (l:List Value) (k:(Option Addr)->Int->Prog):Prog:=.call f l (.tup [.one .ptr,.one (.int .i64)]) (u2 k)
abbrev BE (t:TypeId) (a:Addr) (k:Int->Int->Int->Prog):Prog:=.read True (ld t a) (sG [.int .i64,.int .i64,.int .i64]) (u3 k)
abbrev BF (g:Prop) (t:TypeId) (a:Addr) (i:Nat) (k:ByteArray->Prog):Prog:=.read g (ld t (Addr.add a i)) sS (u1 k)
abbrev BG (t:TypeId) (a:Addr) (i:Nat) (k:Sl->Prog):Prog:=.hold True (ld t (Addr.add a i)) sL (u1 k)
abbrev BH (e:Nat) (p:Prog) (k:Int->Prog):Prog:=.bind e [.one (.int .u32)] p (u1 k)
abbrev BI (e:Nat) (x:Int × Int × Unit) (k:Int->Int->Prog):Prog:=.loop e [.one (.int .u32),.one (.int .i64)] x (u2 k)
abbrev BJ (t:TypeId) (a:Addr) (i:Nat) (k:Int->ByteArray->ByteArray->Bool->Int->Prog):Prog:=.read True (ld t (Addr.add a i)) (sG [.int .i64,.str,.str,.bool,.int .i64]) (u5 k)
abbrev BK (x0:Int) (x1:ByteArray) (x2:ByteArray) (x3:Bool) (x4:Int):Value:=.agg #[.int .i64 x0,.string x1,.string x2,.bool x3,.int .i64 x4]
abbrev BL (t:TypeId) (a:Addr) (k:Int->ByteArray->ByteArray->Bool->Int->Prog):Prog:=.read True (ld t a) (sG [.int .i64,.str,.str,.bool,.int .i64]) (u5 k)
abbrev BM (f:FuncId) (l:List Value) (k:Bool->Int->Int->Prog):Prog:=.call f l (.tup [.agg [.bool,.int .i64],.one (.int .i64)]) (u3 k)
abbrev BN (x0:Bool) (x1:Int):Value:=.agg #[.bool x0,.int .i64 x1]
abbrev BO (e:Nat) (p:Prog) (k:Addr->Bool->Prog):Prog:=.bind e [.one .adr,.one .bool] p (u2 k)
abbrev BQ (t:TypeId) (a:Addr) (i:Nat) (k:(Option Nat)->Prog):Prog:=.hold True (ld t (Addr.add a i)) sM (u1 k)
abbrev BR (m:Sem Value) (k:Int->Int->Int->Int->Bool->Prog):Prog:=.hold True m (.tup [.agg [.int .i64,.int .i64,.int .i64,.int .i64],.one .bool]) (u5 k)
abbrev BS (x0:Int) (x1:Int) (x2:Int) (x3:Int) (x4:Int) (x5:Int) (x6:Int):Value:=.agg #[.int .i64 x0,.int .i64 x1,.int .i64 x2,.int .i64 x3,.int .i64 x4,.int .i64 x5,.int .i64 x6]
abbrev BT (t:TypeId) (a:Addr) (k:Int->Int->Int->Int->Int->Int->Int->Prog):Prog:=.read True (ld t a) (sG [.int .i64,.int .i64,.int .i64,.int .i64,.int .i64,.int .i64,.int .i64]) (u7 k)
abbrev BU (t:TypeId) (a:Addr) (k:Int->Int->Int->Int->Prog):Prog:=.read True (ld t a) (sG [.int .i64,.int .i64,.int .i64,.int .i64]) (u4 k)
abbrev BV (t:TypeId) (a:Addr) (k:Bool->Int->Prog):Prog:=.read True (ld t a) (sG [.bool,.int .i64]) (u2 k)
abbrev BW (m:Sem Value) (k:Addr->Prog):Prog:=.act m sA (u1 k)
abbrev BX (m:Sem Value) (k:Int->Prog):Prog:=.act m (sI .i64) (u1 k)
abbrev BY (g:Prop) (m:Sem Value) (k:Int->Prog):Prog:=.read g m (sI .i64) (u1 k)
abbrev BZ (x0:ByteArray) (x1:Int) (x2:Int) (x3:Int) (x4:Int) (x5:Sl) (x6:Int) (x7:Int) (x8:Int):Value:=.agg #[.string x0,.int .i64 x1,.int .i64 x2,.int .i64 x3,.int .i64 x4,x5.v,.int .i64 x6,.int .i64 x7,.int .i64 x8]
abbrev Ca (m:Sem Value) (k:ByteArray->Int->Int->Int->Int->Sl->Int->Int->Int->Prog):Prog:=.read True m (sG [.str,.int .i64,.int .i64,.int .i64,.int .i64,.slc,.int .i64,.int .i64,.int .i64]) (u9 k)
def z0em (room:Int):Prog :=
Aa (decide (room<0) || decide (room>4194304)) (
Ab 0 [Ad none,Ac 2])<|
Ae (Instr.makeMap T.a25 none) λm0=>
Af T.a8 (.agg #[Ac (-1),.bool false,Ac room,Ac 0,.map m0]) λa1=>
Ab 0 [Ag a1,Ac 0]
theorem zyg (room:Int):FnS (z0em room) F.a38 #[.int .i64 room]:=dV ⟨[],[],[],[]⟩ Go.Proofs.Tryz.func13 (by kernel_rfl)
def z0ed (d:Option Addr):Prog :=
Ah (Option.isNone d=false) d λa1=>
Ai (Option.isNone d=false) T.a3 (Addr.add a1 0) 1 λb2=>
Aj (Option.isNone d || b2) λb3=>
Ab 0 [.bool b3]
theorem zy7 (d:Option Addr):FnS (z0ed d) F.a28 #[.pointer d]:=dV ⟨[],[],[],[]⟩ Go.Proofs.Tryz.func56 (by kernel_rfl)
def z07y (x:Sl):Prog :=
Al (Ak x) λn0=>
Am F.a73 [.int .u64 (IntKind.wrap .u64 n0)] λn1=>
An F.a171 [x.v,Ac 0,Ac n0,Ac n1]<|
Ab 0 []
theorem zrz (x:Sl):FnS (z07y x) F.a146 #[.slice x.a x.len x.cap]:=dV ⟨[],[],[],[]⟩ Go.Proofs.Tryz.func100 (by kernel_rfl)
def z0eg (d:Option Addr) (name:ByteArray):Prog :=
.call F.a34 [Ad d,.string name] (sG [.slc,.int .i64]) (u2 λl0 (n1:Int)=>
Al (Ak l0) λn2=>
Ab 0 [Ac n2])
theorem zya (d:Option Addr) (name:ByteArray):FnS (z0eg d name) F.a32 #[.pointer d,.string name]:=dV ⟨[],[],[],[]⟩ Go.Proofs.Tryz.func112 (by kernel_rfl)
def z0ef (d:Option Addr) (name:ByteArray):Prog :=
Am F.a36 [Ad d] λn0=>
Al n0 λn1=>
Aa (n1 != 0) (
Al n1 λn2=>
Ab 0 [Ac n2])<|
Ao d λa4=>
Ap T.a25 a4 4 λm5=>
Aq (Instr.lookup T.a25 (.map m5) (.string name) false) λp6=>
Aa (Option.isNone p6) (
Ab 0 [Ac 3])<|
An F.a35 [Ad d,.string name]<|
Ao d λa8=>
An F.a39 [Ar a8 0]<|
Ab 0 [Ac 0]
theorem zy9 (d:Option Addr) (name:ByteArray):FnS (z0ef d name) F.a31 #[.pointer d,.string name]:=dV ⟨[],[],[],[]⟩ Go.Proofs.Tryz.func115 (by kernel_rfl)
def z082 (data:Sl) (a b:Int) (limit:Int):Prog :=
As 1 (a,(b,(limit,(true,(true,()))))) λn0 n1 n2 b3 b4=>
Au 2 (
Al (Av (n1-n0)) λn5=>
Aa (decide (n5<=12)) (
An F.a159 [data.v,Ac n0,Ac n1]<|
Ab 0 [])<|
Aa (n2 == 0) (
An F.a156 [data.v,Ac n0,Ac n1]<|
Ab 0 [])<|
Aw 3 (
Aa (not b3) (
An F.a150 [data.v,Ac n0,Ac n1]<|
Al (Av (n2-1)) λn6=>
Ab 3 [Ac n6])<|
Ab 3 [Ac n2]) λn7=>
Ax F.a153 [data.v,Ac n0,Ac n1] λn8 n9=>
Al n8 λn10=>
Al n9 λn11=>
Ay 3 (
Aa (n11 == 2) (
An F.a174 [data.v,Ac n0,Ac n1]<|
Al (Av (Av (n1-1)-Av (n10-n0))) λn12=>
Ab 3 [Ac n12,Ac 1])<|
Ab 3 [Ac n10,Ac n11]) λn13 n14=>
Az 3 (
Aa (b3 && b4 && n14 == 1) (
AA F.a162 [data.v,Ac n0,Ac n1] λb15=>
Aa b15 (
Ab 0 [])<|
Ab 3 [])<|
Ab 3 [])<|
AB 3 (
AC<|
.ex [.adr] (c1 λa16=>decide (n0>0)=true->0<=Av (n0-1)/\Av (n0-1)<(Ak data)/\data.a=some a16) (u1 λa17=>
AD (decide (n0>0)=true) T.a13 a17 (Int.toNat (Av (n0-1))*1) λn18=>
.ex [.adr] (c1 λa19=>decide (n0>0)=true->0<=n13/\n13<(Ak data)/\data.a=some a19) (u1 λa20=>
AD (decide (n0>0)=true) T.a13 a20 (Int.toNat n13*1) λn21=>
Aa (decide (n0>0)) (
AA F.a2 [Ac n18,Ac n21] λb22=>
AE<|
Ab 3 [.bool (not b22)])<|
AE<|
Ab 3 [.bool false]))) λb23=>
Aa b23 (
Am F.a166 [data.v,Ac n0,Ac n1,Ac n13] λn24=>
Al n24 λn25=>
Al n25 λn26=>
Ab 2 [Ac n26,Ac n1,Ac n7,.bool b3,.bool b4])<|
AF F.a168 [data.v,Ac n0,Ac n1,Ac n13] λn27 b28=>
Al n27 λn29=>
Aj b28 λb30=>
Aj b30 λb31=>
Al (Av (n29-n0)) λn32=>
Al (Av (n1-n29)) λn33=>
Al (Av (Int.tdiv n5 8)) λn34=>
AG 3 (
Aa (decide (n32<n33)) (
Aj (decide (n32>=n34)) λb35=>
An F.a171 [data.v,Ac n0,Ac n29,Ac n7]<|
Al (Av (n29+1)) λn36=>
Ab 3 [Ac n36,Ac n1,.bool b35])<|
Aj (decide (n33>=n34)) λb37=>
An F.a171 [data.v,Ac (Av (n29+1)),Ac n1,Ac n7]<|
Al n29 λn38=>
Ab 3 [Ac n0,Ac n38,.bool b37]) λn39 n40 b41=>
Ab 2 [Ac n39,Ac n40,Ac n7,.bool b41,.bool b31]) λn42 n43 n44 b45 b46=>
Ab 1 [Ac n42,Ac n43,Ac n44,.bool b45,.bool b46]
theorem zs5 (data:Sl) (a b limit:Int):FnS (z082 data a b limit) F.a171 #[.slice data.a data.len data.cap,.int .i64 a,.int .i64 b,.int .i64 limit]:=dV ⟨[(17732923532804131,[(3,.one (.int .i64))]),(9435509593702460817458,[(11,.one (.int .i64)),(12,.one (.int .i64))]),(36267774588438875241185348,[]),(89202895723530762331527007246941588082942065,[(1,.one (.int .i64)),(2,.one (.int .i64)),(8,.one .bool)])],[(1,[(1,.one (.int .i64)),(2,.one (.int .i64)),(3,.one (.int .i64)),(8,.one .bool),(9,.one .bool)])],[(17,[(87,.one .bool)])],[(0,[(1,.one (.int .i64)),(2,.one (.int .i64)),(3,.one (.int .i64)),(8,.one .bool),(9,.one .bool)])]⟩ Go.Proofs.Tryz.func152 (by kernel_rfl)
def z06a (x:Int):Prog :=
Am F.a74 [.int .u64 x] λn0=>
Al n0 λn1=>
Ab 0 [Ac n1]
theorem zju (x:Int):FnS (z06a x) F.a73 #[.int .u64 x]:=dV ⟨[],[],[],[]⟩ Go.Proofs.Tryz.func153 (by kernel_rfl)
def zf70 (m:Option Nat):Prog :=
Af T.a25 (.map m) λa0=>
Ab 0 [.func (Fn.func 226) #[] #[Ag a0]]
theorem zf70_calls (m:Option Nat):FnS (zf70 m) F.a72 #[.map m]:=dV ⟨[],[],[],[]⟩ Go.Proofs.Tryz.func158 (by kernel_rfl)
def zf157 (s:ByteArray) (prefix_:ByteArray):Prog :=
AA F.a53 [.string s,.string prefix_] λb0=>
Aj b0 λb1=>
Ab 0 [.bool b1]
theorem zf157_calls (s prefix_:ByteArray):FnS (zf157 s prefix_) F.a178 #[.string s,.string prefix_]:=dV ⟨[],[],[],[]⟩ Go.Proofs.Tryz.func159 (by kernel_rfl)
def z0ei (d:Option Addr) (name:ByteArray):Prog :=
AH T.a9 λa0=>
Ah (Option.isNone d=false) d λa2=>
AI (Option.isNone d=false) T.a25 a2 4 λm3=>
AJ (Option.isNone d=false) (Instr.lookup T.a25 (.map m3) (.string name) false) λp4=>
Aa (Option.isNone d || Option.isNone p4) (
AK T.a9 a0 (.agg #[.slice none 0 0,Ac 0])<|
AL T.a9 a0 λl5 n6=>
Ab 0 [AM l5 n6])<|
Ao d λa8=>
Ap T.a25 a8 4 λm9=>
Aq (Instr.lookup T.a25 (.map m9) (.string name) false) λp10=>
Ao p10 λa12=>
AL T.a9 a12 λl13 n14=>
AK T.a9 a0 (AM l13 n14)<|
AL T.a9 a0 λl15 n16=>
Ab 0 [AM l15 n16]
theorem zyc (d:Option Addr) (name:ByteArray):FnS (z0ei d name) F.a34 #[.pointer d,.string name]:=dV ⟨[],[],[],[]⟩ Go.Proofs.Tryz.func169 (by kernel_rfl)
def z0ee (d:Option Addr) (name:ByteArray):Prog :=
Aa (Option.isNone d) (
Ab 0 [.slice none 0 0,Ac 1])<|
Ao d λa1=>
Ap T.a25 a1 4 λm2=>
Aq (Instr.lookup T.a25 (.map m2) (.string name) false) λp3=>
Aa (Option.isNone p3) (
Ab 0 [.slice none 0 0,Ac 3])<|
Ao p3 λa5=>
AN T.a53 a5 0 λl6=>
AO F.a0 [l6.v] λl7=>
Ab 0 [l7.v,Ac 0]
theorem zy8 (d:Option Addr) (name:ByteArray):FnS (z0ee d name) F.a30 #[.pointer d,.string name]:=dV ⟨[],[],[],[]⟩ Go.Proofs.Tryz.func170 (by kernel_rfl)
def z0ek (d:Option Addr):Prog :=
AP (Option.isNone d) (
Ab 0 [Ac 1])<|
Ao d λa2=>
AQ T.a3 (Addr.add a2 0) 1 λb3=>
AP b3 (
Ab 0 [Ac 9])<|
Ab 0 [Ac 0]
theorem zye (d:Option Addr):FnS (z0ek d) F.a36 #[.pointer d]:=dV ⟨[],[],[],[]⟩ Go.Proofs.Tryz.func171 (by kernel_rfl)
def z0ej (d:Option Addr) (name:ByteArray):Prog :=
Ao d λa1=>
Ap T.a25 a1 4 λm2=>
Aq (Instr.lookup T.a25 (.map m2) (.string name) false) λp3=>
Az 1 (
Aa (not (Option.isNone p3)) (
AC<|
Ao d λa5=>
AR T.a13 a5 3 λn6=>
Ao p3 λa8=>
AN T.a53 a8 0 λl9=>
Ao d λa11=>
AS T.a13 a11 3 (Ac (Av (n6-(Ak l9))))<|
AE<|
Ao d λa13=>
Ap T.a25 a13 4 λm14=>
AT (Builtin.delete_ #[T.a25,T.a57] T.a64 #[.map m14,.string name])<|
Ab 1 [])<|
Ab 1 [])<|
Ab 0 []
theorem zyd (d:Option Addr) (name:ByteArray):FnS (z0ej d name) F.a35 #[.pointer d,.string name]:=dV ⟨[(4398012956684,[])],[],[],[]⟩ Go.Proofs.Tryz.func172 (by kernel_rfl)
def z0en (p:Option Addr):Prog :=
Ao p λa1=>
AR T.a13 a1 0 λn2=>
Az 1 (
Aa (decide (n2>0)) (
Ao p λa4=>
AR T.a13 a4 0 λn5=>
Ao p λa7=>
AS T.a13 a7 0 (Ac (Av (n5-1)))<|
Ao p λa9=>
AR T.a13 a9 0 λn10=>
Ao p λa12=>
AS T.a3 a12 1 (.bool (n10 == 0))<|
Ab 1 [])<|
Ab 1 [])<|
Ab 0 []
theorem zyh (p:Option Addr):FnS (z0en p) F.a39 #[.pointer p]:=dV ⟨[(17179344902,[])],[],[],[]⟩ Go.Proofs.Tryz.func173 (by kernel_rfl)
def z084 (n:Int) (f:Value):Prog :=
Al n λn0=>
Aw 1 (
AU 2 (0,(n0,())) λn1 n2=>
Aa (decide (n1<n2)) (
Al (Av (Int.fdiv (IntKind.wrap .u64 (Av (n1+n2))) 2)) λn3=>
AV f [Ac n3] λb4=>
Ay 3 (
Aa (not b4) (
Al (Av (n3+1)) λn5=>
Ab 3 [Ac n5,Ac n2])<|
Al n3 λn6=>
Ab 3 [Ac n1,Ac n6]) λn7 n8=>
Ab 2 [Ac n7,Ac n8])<|
Ab 1 [Ac n1]) λn9=>
Al n9 λn10=>
Ab 0 [Ac n10]
theorem zs7 (n:Int) (f:Value) {w:World} {R:List Value->World->Prop} (h:(z084 n f).wp P (λ_=>True) w λe vs w'=>e=0/\R vs w'):Ret P F.a177 #[.int .i64 n,f] w R:=dS (n:=26) (rv:=[.tmp 4]) { cnd:=[(120259477525,[(5,.one (.int .i64)),(6,.one (.int .i64))])],blk:=[(0,[(5,.one (.int .i64))])],reg:=[],lps:=[(0,[(5,.one (.int .i64)),(6,.one (.int .i64))])] } [.val (.int .i64 n),.any f] Go.Proofs.Tryz.func196 (by kernel_rfl) (by kernel_rfl) (by kernel_rfl) (by kernel_rfl) h
def z0gn (data:Sl) (a:Int) (b:Int):Prog :=
Al (Av (a+1)) λn0=>
Az 1 (
AW 2 (n0,()) λn1=>
Aa (decide (n1<b)) (
Az 3 (
Al n1 λn2=>
Az 4 (
AW 5 (n2,()) λn3=>
AB 6 (
AC<|
.ex [.adr] (c1 λa4=>decide (n3>a)=true->0<=n3/\n3<(Ak data)/\data.a=some a4) (u1 λa5=>
AD (decide (n3>a)=true) T.a13 a5 (Int.toNat n3*1) λn6=>
.ex [.adr] (c1 λa7=>decide (n3>a)=true->0<=Av (n3-1)/\Av (n3-1)<(Ak data)/\data.a=some a7) (u1 λa8=>
AD (decide (n3>a)=true) T.a13 a8 (Int.toNat (Av (n3-1))*1) λn9=>
Aa (decide (n3>a)) (
AA F.a2 [Ac n6,Ac n9] λb10=>
AE<|
Ab 6 [.bool b10])<|
AE<|
Ab 6 [.bool false]))) λb11=>
Aa b11 (
Az 6 (
AC<|
.ex [.adr] (c1 λa12=>0<=Av (n3-1)/\Av (n3-1)<(Ak data)/\data.a=some a12) (u1 λa13=>
AR T.a13 a13 (Int.toNat (Av (n3-1))*1) λn14=>
.ex [.adr] (c1 λa15=>0<=n3/\n3<(Ak data)/\data.a=some a15) (u1 λa16=>
AR T.a13 a16 (Int.toNat n3*1) λn17=>
.ex [.adr] (c1 λa18=>0<=n3/\n3<(Ak data)/\data.a=some a18) (u1 λa19=>
AS T.a13 a19 (Int.toNat n3*1) (Ac n14)<|
.ex [.adr] (c1 λa20=>0<=Av (n3-1)/\Av (n3-1)<(Ak data)/\data.a=some a20) (u1 λa21=>
AS T.a13 a21 (Int.toNat (Av (n3-1))*1) (Ac n17)<|
AE<|
Ab 6 [])))))<|
Al (Av (n3-1)) λn22=>
Ab 5 [Ac n22])<|
Ab 4 [])<|
Ab 3 [])<|
Al (Av (n1+1)) λn23=>
Ab 2 [Ac n23])<|
Ab 1 [])<|
Ab 0 []
theorem zs2 (data:Sl) (a b:Int):FnS (z0gn data a b) F.a159 #[.slice data.a data.len data.cap,.int .i64 a,.int .i64 b]:=dV ⟨[],[(0,[]),(1,[]),(2,[])],[(4,[(30,.one .bool)]),(6,[])],[(0,[(6,.one (.int .i64))]),(2,[(7,.one (.int .i64))])]⟩ Go.Proofs.Tryz.func215 (by kernel_rfl)
def zf2 (x:Int) (y:Int):Prog :=
AB 1 (
AA F.a4 [Ac x] λb0=>
Aa b0 (
AA F.a4 [Ac y] λb1=>
Aj (not b1 || decide (x<y)) λb2=>
Ab 1 [.bool b2])<|
Aj (decide (x<y)) λb3=>
Ab 1 [.bool b3]) λb4=>
Ab 0 [.bool b4]
theorem z02o (x y:Int):FnS (zf2 x y) F.a2 #[.int .i64 x,.int .i64 y]:=dV ⟨[],[],[(1,[(4,.one .bool)])],[]⟩ Go.Proofs.Tryz.func221 (by kernel_rfl)
def z06b (x:Int):Prog :=
AX 1 (
Aa (decide (x>=4294967296)) (
AY (Int.fdiv x 4294967296) λn0=>
Ab 1 [.int .u64 n0,Ac 32])<|
Ab 1 [.int .u64 x,Ac 0]) λn1 n2=>
AX 1 (
Aa (decide (n1>=65536)) (
AY (Int.fdiv n1 65536) λn3=>
Al (Av (n2+16)) λn4=>
Ab 1 [.int .u64 n3,Ac n4])<|
Ab 1 [.int .u64 n1,Ac n2]) λn5 n6=>
AX 1 (
Aa (decide (n5>=256)) (
AY (Int.fdiv n5 256) λn7=>
Al (Av (n6+8)) λn8=>
Ab 1 [.int .u64 n7,Ac n8])<|
Ab 1 [.int .u64 n5,Ac n6]) λn9 n10=>
.must (0<=IntKind.wrap .u8 n9/\IntKind.wrap .u8 n9<256) <|
Al (Av (n10+Av (bt (ByteArray.mk #[0,1,2,2,3,3,3,3,4,4,4,4,4,4,4,4,5,5,5,5,5,5,5,5,5,5,5,5,5,5,5,5,6,6,6,6,6,6,6,6,6,6,6,6,6,6,6,6,6,6,6,6,6,6,6,6,6,6,6,6,6,6,6,6,7,7,7,7,7,7,7,7,7,7,7,7,7,7,7,7,7,7,7,7,7,7,7,7,7,7,7,7,7,7,7,7,7,7,7,7,7,7,7,7,7,7,7,7,7,7,7,7,7,7,7,7,7,7,7,7,7,7,7,7,7,7,7,7,8,8,8,8,8,8,8,8,8,8,8,8,8,8,8,8,8,8,8,8,8,8,8,8,8,8,8,8,8,8,8,8,8,8,8,8,8,8,8,8,8,8,8,8,8,8,8,8,8,8,8,8,8,8,8,8,8,8,8,8,8,8,8,8,8,8,8,8,8,8,8,8,8,8,8,8,8,8,8,8,8,8,8,8,8,8,8,8,8,8,8,8,8,8,8,8,8,8,8,8,8,8,8,8,8,8,8,8,8,8,8,8,8,8,8,8,8,8,8,8,8,8,8,8,8,8,8,8]) (IntKind.wrap .u8 n9)))) λn11=>
Ab 0 [Ac n11]
theorem zjv (x:Int):FnS (z06b x) F.a74 #[.int .u64 x]:=dV ⟨[(413700,[(0,.one (.int .u64)),(2,.one (.int .i64))]),(31477768,[(0,.one (.int .u64)),(2,.one (.int .i64))]),(2013286414,[(0,.one (.int .u64)),(2,.one (.int .i64))])],[],[],[]⟩ Go.Proofs.Tryz.func225 (by kernel_rfl)
def zf52 (s:ByteArray) (prefix_:ByteArray):Prog :=
.must (decide (((ByteArray.size s:Nat):Int)>=((ByteArray.size prefix_:Nat):Int))=true->0<=((ByteArray.size prefix_:Nat):Int)/\((ByteArray.size prefix_:Nat):Int)<=((ByteArray.size s:Nat):Int)) <|
Aj (decide (((ByteArray.size s:Nat):Int)>=((ByteArray.size prefix_:Nat):Int)) && ByteArray.toList (ByteArray.extract s 0 (Int.toNat (((ByteArray.size prefix_:Nat):Int)))) == ByteArray.toList prefix_) λb0=>
Ab 0 [.bool b0]
theorem zf52_calls (s prefix_:ByteArray):FnS (zf52 s prefix_) F.a53 #[.string s,.string prefix_]:=dV ⟨[],[],[],[]⟩ Go.Proofs.Tryz.func227 (by kernel_rfl)
def z0eb (d:Option Addr) (name:ByteArray) (n:Int):Prog :=
Am F.a36 [Ad d] λn0=>
Al n0 λn1=>
Aa (n1 != 0) (
Al n1 λn2=>
Ab 0 [Ac n2])<|
Ao d λa4=>
Ap T.a25 a4 4 λm5=>
Aq (Instr.lookup T.a25 (.map m5) (.string name) false) λp6=>
AP (Option.isNone p6) (
Ab 0 [Ac 3])<|
Ah (decide (n<0)=false) p6 λa9=>
AZ (decide (n<0)=false) T.a53 a9 0 λl10=>
AP (decide (n<0) || decide (n>(Ak l10))) (
Ab 0 [Ac 2])<|
AC<|
Ao d λa13=>
AR T.a13 a13 3 λn14=>
Ao p6 λa16=>
AN T.a53 a16 0 λl17=>
Ao d λa19=>
AS T.a13 a19 3 (Ac (Av (n14-Av ((Ak l17)-n))))<|
AE<|
Ao p6 λa21=>
AN T.a53 a21 0 λl22=>
.must (0<=n/\n<=n/\n<=((l22.cap:Nat):Int)) <|
Ao p6 λa24=>
AS T.a53 a24 0 (.slice l22.a (Int.toNat n) (Int.toNat n))<|
Ao p6 λa26=>
AR T.a13 a26 1 λn27=>
Ao p6 λa29=>
AS T.a13 a29 1 (Ac (if n<n27 then n else n27))<|
Ao d λa31=>
An F.a39 [Ar a31 0]<|
Ab 0 [Ac 0]
theorem zy5 (d:Option Addr) (name:ByteArray) (n:Int):FnS (z0eb d name n) F.a26 #[.pointer d,.string name,.int .i64 n]:=dV ⟨[],[],[],[]⟩ Go.Proofs.Tryz.func238 (by kernel_rfl)
def z0ea (d:Option Addr) (name:ByteArray) (parts:Sl):Prog :=
Am F.a36 [Ad d] λn0=>
Al n0 λn1=>
Aa (n1 != 0) (
Al n1 λn2=>
Ab 0 [Ac n2])<|
AA F.a37 [.string name] λb3=>
Aa (not b3) (
Ab 0 [Ac 2])<|
Aw 1 (
AU 2 (0,(0,())) λn4 n5=>
Aa (decide (n5<(Ak parts))) (
.ex [.adr] (c1 λa6=>0<=n5/\n5<(Ak parts)/\parts.a=some a6) (u1 λa7=>
AN T.a53 a7 (Int.toNat n5*1) λl8=>
Am F.a27 [Ad d] λn9=>
Aa (decide ((Ak l8)>Av (n9-n4))) (
Ab 0 [Ac 5])<|
Al (Av (n4+(Ak l8))) λn10=>
Ab 2 [Ac n10,Ac (Av (n5+1))]))<|
Ab 1 [Ac n4]) λn11=>
Ao d λa13=>
Ap T.a25 a13 4 λm14=>
.read True (Instr.lookup T.a25 (.map m14) (.string name) true) (.tup [.one .ptr,.one .bool]) (u2 λp15 b16=>
Aj b16 λb17=>
Ba 1 (
Aa (not b17) (
Ao d λa19=>
Ap T.a25 a19 4 λm20=>
.read True (Builtin.len_ #[T.a25] T.a13 #[.map m20]) (sI .i64) (u1 λ(n21:Int)=>
Aa (decide (n21>=128)) (
Ab 0 [Ac 5])<|
Af T.a9 (.agg #[.slice none 0 0,Ac 0]) λa22=>
Ao d λa24=>
Ap T.a25 a24 4 λm25=>
Bb (Instr.mapUpdate T.a25 (.map m25) (.string name) (Ag a22))<|
Ab 1 [Ag a22]))<|
Ab 1 [Ad p15]) λp26=>
Az 1 (
AW 2 (0,()) λn27=>
Aa (decide (n27<(Ak parts))) (
.ex [.adr] (c1 λa28=>0<=n27/\n27<(Ak parts)/\parts.a=some a28) (u1 λa29=>
AN T.a53 a29 (Int.toNat n27*1) λl30=>
Ao p26 λa32=>
AN T.a53 a32 0 λl33=>
Bc (app T.a53 T.a53 T.a53 l33.v l30.v) λl34=>
Ao p26 λa36=>
AS T.a53 a36 0 l34.v<|
Ab 2 [Ac (Av (n27+1))]))<|
Ab 1 [])<|
Ao d λa38=>
AR T.a13 a38 3 λn39=>
Ao d λa41=>
AS T.a13 a41 3 (Ac (Av (n39+n11)))<|
Ao d λa43=>
An F.a39 [Ar a43 0]<|
Ab 0 [Ac 0])
theorem zy4 (d:Option Addr) (name:ByteArray) (parts:Sl):FnS (z0ea d name parts) F.a25 #[.pointer d,.string name,.slice parts.a parts.len parts.cap]:=dV ⟨[(604426016319167176900660,[(11,.one .ptr)])],[(0,[(8,.one (.int .i64))]),(2,[])],[],[(0,[(8,.one (.int .i64)),(26,.one (.int .i64))]),(2,[(69,.one (.int .i64))])]⟩ Go.Proofs.Tryz.func251 (by kernel_rfl)
def z0eh (d:Option Addr) (names:Sl):Prog :=
Am F.a36 [Ad d] λn0=>
Al n0 λn1=>
Aa (n1 != 0) (
Al n1 λn2=>
Ab 0 [Ac n2])<|
Az 1 (
AW 2 (0,()) λn3=>
Aa (decide (n3<(Ak names))) (
.ex [.adr] (c1 λa4=>0<=n3/\n3<(Ak names)/\names.a=some a4) (u1 λa5=>
Bd T.a57 a5 (Int.toNat n3*1) λs6=>
Be s6 λs7=>
Ao d λa9=>
Ap T.a25 a9 4 λm10=>
Aq (Instr.lookup T.a25 (.map m10) (.string s7) false) λp11=>
Aa (Option.isNone p11) (
Ab 0 [Ac 3])<|
Ab 2 [Ac (Av (n3+1))]))<|
Ab 1 [])<|
Bf 1 (
Aa ((Ak names) == 0) (
AO F.a29 [Ad d,.string (ByteArray.mk #[])] λl12=>
Ab 1 [l12.v])<|
Ab 1 [names.v]) λl13=>
Az 1 (
AW 2 (0,()) λn14=>
Aa (decide (n14<(Ak l13))) (
.ex [.adr] (c1 λa15=>0<=n14/\n14<(Ak l13)/\l13.a=some a15) (u1 λa16=>
Bd T.a57 a16 (Int.toNat n14*1) λs17=>
Be s17 λs18=>
Ao d λa20=>
Ap T.a25 a20 4 λm21=>
Aq (Instr.lookup T.a25 (.map m21) (.string s18) false) λp22=>
Ao p22 λa24=>
AN T.a53 a24 0 λl25=>
Ao p22 λa27=>
AS T.a13 a27 1 (Ac (Ak l25))<|
Ab 2 [Ac (Av (n14+1))]))<|
Ab 1 [])<|
Ao d λa29=>
An F.a39 [Ar a29 0]<|
Ab 0 [Ac 0]
theorem zyb (d:Option Addr) (names:Sl):FnS (z0eh d names) F.a33 #[.pointer d,.slice names.a names.len names.cap]:=dV ⟨[(105553116274720,[(1,.one .slc)])],[(0,[]),(2,[])],[],[(0,[(18,.one (.int .i64))]),(2,[(37,.one (.int .i64))])]⟩ Go.Proofs.Tryz.func253 (by kernel_rfl)
def z07w (x:Sl) (cmp:Value):Prog :=
Al (Ak x) λn0=>
Am F.a73 [.int .u64 (IntKind.wrap .u64 n0)] λn1=>
An F.a170 [x.v,Ac 0,Ac n0,Ac n1,cmp]<|
Ab 0 []
theorem zrx (x:Sl) (cmp:Value) {w:World} {R:List Value->World->Prop} (h:(z07w x cmp).wp P (λ_=>True) w λe vs w'=>e=0/\R vs w'):Ret P F.a144 #[.slice x.a x.len x.cap,cmp] w R:=dS (n:=14) (rv:=[]) { cnd:=[],blk:=[],reg:=[],lps:=[] } [.val (.slice x.a x.len x.cap),.any cmp] Go.Proofs.Tryz.func258 (by kernel_rfl) (by kernel_rfl) (by kernel_rfl) (by kernel_rfl) h
def zf1 (x:Int) (y:Int):Prog :=
AA F.a5 [Ac x] λb0=>
Aj b0 λb1=>
AA F.a5 [Ac y] λb2=>
Aj b2 λb3=>
Aa b1 (
Aa b3 (
Ab 0 [Ac 0])<|
Ab 0 [Ac (-1)])<|
Aa b3 (
Ab 0 [Ac 1])<|
Aa (decide (x<y)) (
Ab 0 [Ac (-1)])<|
Aa (decide (x>y)) (
Ab 0 [Ac 1])<|
Ab 0 [Ac 0]
theorem z02n (x y:Int):FnS (zf1 x y) F.a1 #[.int .i64 x,.int .i64 y]:=dV ⟨[],[],[],[]⟩ Go.Proofs.Tryz.func260 (by kernel_rfl)
def z07x (x:Sl):Prog :=
Al (Ak x) λn0=>
Am F.a73 [.int .u64 (IntKind.wrap .u64 n0)] λn1=>
An F.a172 [x.v,Ac 0,Ac n0,Ac n1]<|
Ab 0 []
theorem zry (x:Sl):FnS (z07x x) F.a145 #[.slice x.a x.len x.cap]:=dV ⟨[],[],[],[]⟩ Go.Proofs.Tryz.func267 (by kernel_rfl)
def zf4 (x:Int):Prog :=
Aj (x != x) λb0=>
Ab 0 [.bool b0]
theorem z02q (x:Int):FnS (zf4 x) F.a4 #[.int .i64 x]:=dV ⟨[],[],[],[]⟩ Go.Proofs.Tryz.func274 (by kernel_rfl)
def z0el (s:ByteArray):Prog :=
Aa (decide (((ByteArray.size s:Nat):Int)<1) || decide (((ByteArray.size s:Nat):Int)>24)) (
Ab 0 [.bool false])<|
Bc (convert T.a57 T.a53 (.string s)) λl0=>
Az 1 (
AW 2 (0,()) λn1=>
Aa (decide (n1<(Ak l0))) (
.ex [.adr] (c1 λa2=>0<=n1/\n1<(Ak l0)/\l0.a=some a2) (u1 λa3=>
Bg T.a63 a3 (Int.toNat n1*1) λn4=>
Bh n4 λn5=>
Aj (decide (n5>=97) && decide (n5<=122)) λb6=>
Aj (decide (n5>=48) && decide (n5<=57)) λb7=>
Aa (not b6 && not b7 && n5 != 46 && n5 != 45) (
Ab 0 [.bool false])<|
Ab 2 [Ac (Av (n1+1))]))<|
Ab 1 [])<|
Ab 0 [.bool true]
theorem zyf (s:ByteArray):FnS (z0el s) F.a37 #[.string s]:=dV ⟨[],[(0,[])],[],[(0,[(18,.one (.int .i64))])]⟩ Go.Proofs.Tryz.func301 (by kernel_rfl)
def z0ec (d:Option Addr):Prog :=
Aa (Option.isNone d) (
Ab 0 [Ac 0])<|
AC<|
Ao d λa1=>
AR T.a13 a1 2 λn2=>
Ao d λa4=>
AR T.a13 a4 3 λn5=>
Al (if 0>Av (n2-n5) then 0 else Av (n2-n5)) λn6=>
AE<|
Ab 0 [Ac n6]
theorem zy6 (d:Option Addr):FnS (z0ec d) F.a27 #[.pointer d]:=dV ⟨[],[],[],[]⟩ Go.Proofs.Tryz.func302 (by kernel_rfl)
def z081 (data:Sl) (a b limit:Int) (cmp:Value):Prog :=
As 1 (a,(b,(limit,(true,(true,()))))) λn0 n1 n2 b3 b4=>
Au 2 (
Al (Av (n1-n0)) λn5=>
Aa (decide (n5<=12)) (
An F.a158 [data.v,Ac n0,Ac n1,cmp]<|
Ab 0 [])<|
Aa (n2 == 0) (
An F.a155 [data.v,Ac n0,Ac n1,cmp]<|
Ab 0 [])<|
Aw 3 (
Aa (not b3) (
An F.a149 [data.v,Ac n0,Ac n1,cmp]<|
Al (Av (n2-1)) λn6=>
Ab 3 [Ac n6])<|
Ab 3 [Ac n2]) λn7=>
Ax F.a152 [data.v,Ac n0,Ac n1,cmp] λn8 n9=>
Al n8 λn10=>
Al n9 λn11=>
Ay 3 (
Aa (n11 == 2) (
An F.a173 [data.v,Ac n0,Ac n1,cmp]<|
Al (Av (Av (n1-1)-Av (n10-n0))) λn12=>
Ab 3 [Ac n12,Ac 1])<|
Ab 3 [Ac n10,Ac n11]) λn13 n14=>
Az 3 (
Aa (b3 && b4 && n14 == 1) (
AA F.a161 [data.v,Ac n0,Ac n1,cmp] λb15=>
Aa b15 (
Ab 0 [])<|
Ab 3 [])<|
Ab 3 [])<|
AB 3 (
AC<|
.ex [.adr] (c1 λa16=>decide (n0>0)=true->0<=Av (n0-1)/\Av (n0-1)<(Ak data)/\data.a=some a16) (u1 λa17=>
Bi (decide (n0>0)=true) T.a15 a17 (Int.toNat (Av (n0-1))*4) λn18 n19 n20 n21=>
.ex [.adr] (c1 λa22=>decide (n0>0)=true->0<=n13/\n13<(Ak data)/\data.a=some a22) (u1 λa23=>
Bi (decide (n0>0)=true) T.a15 a23 (Int.toNat n13*4) λn24 n25 n26 n27=>
Aa (decide (n0>0)) (
.callv (cmp) [Bj n18 n19 n20 n21,Bj n24 n25 n26 n27] (sI .i64) (u1 λ(n28:Int)=>
AE<|
Ab 3 [.bool (not (decide (n28<0)))]))<|
AE<|
Ab 3 [.bool false]))) λb29=>
Aa b29 (
Am F.a165 [data.v,Ac n0,Ac n1,Ac n13,cmp] λn30=>
Al n30 λn31=>
Al n31 λn32=>
Ab 2 [Ac n32,Ac n1,Ac n7,.bool b3,.bool b4])<|
AF F.a164 [data.v,Ac n0,Ac n1,Ac n13,cmp] λn33 b34=>
Al n33 λn35=>
Aj b34 λb36=>
Aj b36 λb37=>
Al (Av (n35-n0)) λn38=>
Al (Av (n1-n35)) λn39=>
Al (Av (Int.tdiv n5 8)) λn40=>
AG 3 (
Aa (decide (n38<n39)) (
Aj (decide (n38>=n40)) λb41=>
An F.a170 [data.v,Ac n0,Ac n35,Ac n7,cmp]<|
Al (Av (n35+1)) λn42=>
Ab 3 [Ac n42,Ac n1,.bool b41])<|
Aj (decide (n39>=n40)) λb43=>
An F.a170 [data.v,Ac (Av (n35+1)),Ac n1,Ac n7,cmp]<|
Al n35 λn44=>
Ab 3 [Ac n0,Ac n44,.bool b43]) λn45 n46 b47=>
Ab 2 [Ac n45,Ac n46,Ac n7,.bool b47,.bool b37]) λn48 n49 n50 b51 b52=>
Ab 1 [Ac n48,Ac n49,Ac n50,.bool b51,.bool b52]
theorem zs4 (data:Sl) (a b limit:Int) (cmp:Value) {w:World} {R:List Value->World->Prop} (h:(z081 data a b limit cmp).wp P (λ_=>True) w λe vs w'=>e=0/\R vs w'):Ret P F.a170 #[.slice data.a data.len data.cap,.int .i64 a,.int .i64 b,.int .i64 limit,cmp] w R:=dS (n:=148) (rv:=[]) { cnd:=[(571957152676085799,[(3,.one (.int .i64))]),(1208335523804270569717816,[(13,.one (.int .i64)),(14,.one (.int .i64))]),(9594035304461697130468212811,[]),(1461501288881759191162698246220685009525288231037,[(1,.one (.int .i64)),(2,.one (.int .i64)),(10,.one .bool)])],blk:=[(1,[(1,.one (.int .i64)),(2,.one (.int .i64)),(3,.one (.int .i64)),(10,.one .bool),(11,.one .bool)])],reg:=[(17,[(97,.one .bool)])],lps:=[(0,[(1,.one (.int .i64)),(2,.one (.int .i64)),(3,.one (.int .i64)),(10,.one .bool),(11,.one .bool)])] } [.val (.slice data.a data.len data.cap),.val (.int .i64 a),.val (.int .i64 b),.val (.int .i64 limit),.any cmp] Go.Proofs.Tryz.func305 (by kernel_rfl) (by kernel_rfl) (by kernel_rfl) (by kernel_rfl) h
def zf5 (x:Int):Prog :=
Aj (x != x) λb0=>
Ab 0 [.bool b0]
theorem zmx (x:Int):FnS (zf5 x) F.a5 #[.int .i64 x]:=dV ⟨[],[],[],[]⟩ Go.Proofs.Tryz.func306 (by kernel_rfl)
def z083 (data:Sl) (a b:Int) (limit:Int):Prog :=
As 1 (a,(b,(limit,(true,(true,()))))) λn0 n1 n2 b3 b4=>
Au 2 (
Al (Av (n1-n0)) λn5=>
Aa (decide (n5<=12)) (
An F.a160 [data.v,Ac n0,Ac n1]<|
Ab 0 [])<|
Aa (n2 == 0) (
An F.a157 [data.v,Ac n0,Ac n1]<|
Ab 0 [])<|
Aw 3 (
Aa (not b3) (
An F.a151 [data.v,Ac n0,Ac n1]<|
Al (Av (n2-1)) λn6=>
Ab 3 [Ac n6])<|
Ab 3 [Ac n2]) λn7=>
Ax F.a154 [data.v,Ac n0,Ac n1] λn8 n9=>
Al n8 λn10=>
Al n9 λn11=>
Ay 3 (
Aa (n11 == 2) (
An F.a175 [data.v,Ac n0,Ac n1]<|
Al (Av (Av (n1-1)-Av (n10-n0))) λn12=>
Ab 3 [Ac n12,Ac 1])<|
Ab 3 [Ac n10,Ac n11]) λn13 n14=>
Az 3 (
Aa (b3 && b4 && n14 == 1) (
AA F.a163 [data.v,Ac n0,Ac n1] λb15=>
Aa b15 (
Ab 0 [])<|
Ab 3 [])<|
Ab 3 [])<|
AB 3 (
AC<|
.ex [.adr] (c1 λa16=>decide (n0>0)=true->0<=Av (n0-1)/\Av (n0-1)<(Ak data)/\data.a=some a16) (u1 λa17=>
AD (decide (n0>0)=true) T.a14 a17 (Int.toNat (Av (n0-1))*1) λn18=>
.ex [.adr] (c1 λa19=>decide (n0>0)=true->0<=n13/\n13<(Ak data)/\data.a=some a19) (u1 λa20=>
AD (decide (n0>0)=true) T.a14 a20 (Int.toNat n13*1) λn21=>
Aa (decide (n0>0)) (
AA F.a3 [Ac n18,Ac n21] λb22=>
AE<|
Ab 3 [.bool (not b22)])<|
AE<|
Ab 3 [.bool false]))) λb23=>
Aa b23 (
Am F.a167 [data.v,Ac n0,Ac n1,Ac n13] λn24=>
Al n24 λn25=>
Al n25 λn26=>
Ab 2 [Ac n26,Ac n1,Ac n7,.bool b3,.bool b4])<|
AF F.a169 [data.v,Ac n0,Ac n1,Ac n13] λn27 b28=>
Al n27 λn29=>
Aj b28 λb30=>
Aj b30 λb31=>
Al (Av (n29-n0)) λn32=>
Al (Av (n1-n29)) λn33=>
Al (Av (Int.tdiv n5 8)) λn34=>
AG 3 (
Aa (decide (n32<n33)) (
Aj (decide (n32>=n34)) λb35=>
An F.a172 [data.v,Ac n0,Ac n29,Ac n7]<|
Al (Av (n29+1)) λn36=>
Ab 3 [Ac n36,Ac n1,.bool b35])<|
Aj (decide (n33>=n34)) λb37=>
An F.a172 [data.v,Ac (Av (n29+1)),Ac n1,Ac n7]<|
Al n29 λn38=>
Ab 3 [Ac n0,Ac n38,.bool b37]) λn39 n40 b41=>
Ab 2 [Ac n39,Ac n40,Ac n7,.bool b41,.bool b31]) λn42 n43 n44 b45 b46=>
Ab 1 [Ac n42,Ac n43,Ac n44,.bool b45,.bool b46]
theorem zs6 (data:Sl) (a b limit:Int):FnS (z083 data a b limit) F.a172 #[.slice data.a data.len data.cap,.int .i64 a,.int .i64 b,.int .i64 limit]:=dV ⟨[(17732923532804131,[(3,.one (.int .i64))]),(9435509593702460817458,[(11,.one (.int .i64)),(12,.one (.int .i64))]),(36267774588438875241185348,[]),(89202895723530762331527007246941588082942065,[(1,.one (.int .i64)),(2,.one (.int .i64)),(8,.one .bool)])],[(1,[(1,.one (.int .i64)),(2,.one (.int .i64)),(3,.one (.int .i64)),(8,.one .bool),(9,.one .bool)])],[(17,[(87,.one .bool)])],[(0,[(1,.one (.int .i64)),(2,.one (.int .i64)),(3,.one (.int .i64)),(8,.one .bool),(9,.one .bool)])]⟩ Go.Proofs.Tryz.func310 (by kernel_rfl)
def z080 (data:Sl) (a b:Int) (cmp:Value):Prog :=
Al (Av (a+1)) λn0=>
Az 1 (
AW 2 (n0,()) λn1=>
Aa (decide (n1<b)) (
Az 3 (
Al n1 λn2=>
Az 4 (
AW 5 (n2,()) λn3=>
AB 6 (
AC<|
.ex [.adr] (c1 λa4=>decide (n3>a)=true->0<=n3/\n3<(Ak data)/\data.a=some a4) (u1 λa5=>
Bi (decide (n3>a)=true) T.a15 a5 (Int.toNat n3*4) λn6 n7 n8 n9=>
.ex [.adr] (c1 λa10=>decide (n3>a)=true->0<=Av (n3-1)/\Av (n3-1)<(Ak data)/\data.a=some a10) (u1 λa11=>
Bi (decide (n3>a)=true) T.a15 a11 (Int.toNat (Av (n3-1))*4) λn12 n13 n14 n15=>
Aa (decide (n3>a)) (
.callv (cmp) [Bj n6 n7 n8 n9,Bj n12 n13 n14 n15] (sI .i64) (u1 λ(n16:Int)=>
AE<|
Ab 6 [.bool (decide (n16<0))]))<|
AE<|
Ab 6 [.bool false]))) λb17=>
Aa b17 (
Az 6 (
AC<|
.ex [.adr] (c1 λa18=>0<=Av (n3-1)/\Av (n3-1)<(Ak data)/\data.a=some a18) (u1 λa19=>
.read True (ld T.a15 (Addr.add a19 (Int.toNat (Av (n3-1))*4))) (sG [.int .i64,.int .i64,.int .i64,.int .i64]) (u4 λ(n20 n21 n22 n23:Int)=>
.ex [.adr] (c1 λa24=>0<=n3/\n3<(Ak data)/\data.a=some a24) (u1 λa25=>
.read True (ld T.a15 (Addr.add a25 (Int.toNat n3*4))) (sG [.int .i64,.int .i64,.int .i64,.int .i64]) (u4 λ(n26 n27 n28 n29:Int)=>
.ex [.adr] (c1 λa30=>0<=n3/\n3<(Ak data)/\data.a=some a30) (u1 λa31=>
AS T.a15 a31 (Int.toNat n3*4) (Bj n20 n21 n22 n23)<|
.ex [.adr] (c1 λa32=>0<=Av (n3-1)/\Av (n3-1)<(Ak data)/\data.a=some a32) (u1 λa33=>
AS T.a15 a33 (Int.toNat (Av (n3-1))*4) (Bj n26 n27 n28 n29)<|
AE<|
Ab 6 [])))))))<|
Al (Av (n3-1)) λn34=>
Ab 5 [Ac n34])<|
Ab 4 [])<|
Ab 3 [])<|
Al (Av (n1+1)) λn35=>
Ab 2 [Ac n35])<|
Ab 1 [])<|
Ab 0 []
theorem zs1 (data:Sl) (a b:Int) (cmp:Value) {w:World} {R:List Value->World->Prop} (h:(z080 data a b cmp).wp P (λ_=>True) w λe vs w'=>e=0/\R vs w'):Ret P F.a158 #[.slice data.a data.len data.cap,.int .i64 a,.int .i64 b,cmp] w R:=dS (n:=53) (rv:=[]) { cnd:=[],blk:=[(0,[]),(1,[]),(2,[])],reg:=[(4,[(34,.one .bool)]),(6,[])],lps:=[(0,[(8,.one (.int .i64))]),(2,[(9,.one (.int .i64))])] } [.val (.slice data.a data.len data.cap),.val (.int .i64 a),.val (.int .i64 b),.any cmp] Go.Proofs.Tryz.func322 (by kernel_rfl) (by kernel_rfl) (by kernel_rfl) (by kernel_rfl) h
def z0go (data:Sl) (a:Int) (b:Int):Prog :=
Al (Av (a+1)) λn0=>
Az 1 (
AW 2 (n0,()) λn1=>
Aa (decide (n1<b)) (
Az 3 (
Al n1 λn2=>
Az 4 (
AW 5 (n2,()) λn3=>
AB 6 (
AC<|
.ex [.adr] (c1 λa4=>decide (n3>a)=true->0<=n3/\n3<(Ak data)/\data.a=some a4) (u1 λa5=>
AD (decide (n3>a)=true) T.a14 a5 (Int.toNat n3*1) λn6=>
.ex [.adr] (c1 λa7=>decide (n3>a)=true->0<=Av (n3-1)/\Av (n3-1)<(Ak data)/\data.a=some a7) (u1 λa8=>
AD (decide (n3>a)=true) T.a14 a8 (Int.toNat (Av (n3-1))*1) λn9=>
Aa (decide (n3>a)) (
AA F.a3 [Ac n6,Ac n9] λb10=>
AE<|
Ab 6 [.bool b10])<|
AE<|
Ab 6 [.bool false]))) λb11=>
Aa b11 (
Az 6 (
AC<|
.ex [.adr] (c1 λa12=>0<=Av (n3-1)/\Av (n3-1)<(Ak data)/\data.a=some a12) (u1 λa13=>
AR T.a14 a13 (Int.toNat (Av (n3-1))*1) λn14=>
.ex [.adr] (c1 λa15=>0<=n3/\n3<(Ak data)/\data.a=some a15) (u1 λa16=>
AR T.a14 a16 (Int.toNat n3*1) λn17=>
.ex [.adr] (c1 λa18=>0<=n3/\n3<(Ak data)/\data.a=some a18) (u1 λa19=>
AS T.a14 a19 (Int.toNat n3*1) (Ac n14)<|
.ex [.adr] (c1 λa20=>0<=Av (n3-1)/\Av (n3-1)<(Ak data)/\data.a=some a20) (u1 λa21=>
AS T.a14 a21 (Int.toNat (Av (n3-1))*1) (Ac n17)<|
AE<|
Ab 6 [])))))<|
Al (Av (n3-1)) λn22=>
Ab 5 [Ac n22])<|
Ab 4 [])<|
Ab 3 [])<|
Al (Av (n1+1)) λn23=>
Ab 2 [Ac n23])<|
Ab 1 [])<|
Ab 0 []
theorem zs3 (data:Sl) (a b:Int):FnS (z0go data a b) F.a160 #[.slice data.a data.len data.cap,.int .i64 a,.int .i64 b]:=dV ⟨[],[(0,[]),(1,[]),(2,[])],[(4,[(30,.one .bool)]),(6,[])],[(0,[(6,.one (.int .i64))]),(2,[(7,.one (.int .i64))])]⟩ Go.Proofs.Tryz.func331 (by kernel_rfl)
def zf3 (x:Int) (y:Int):Prog :=
AB 1 (
AA F.a5 [Ac x] λb0=>
Aa b0 (
AA F.a5 [Ac y] λb1=>
Aj (not b1 || decide (x<y)) λb2=>
Ab 1 [.bool b2])<|
Aj (decide (x<y)) λb3=>
Ab 1 [.bool b3]) λb4=>
Ab 0 [.bool b4]
theorem z02p (x y:Int):FnS (zf3 x y) F.a3 #[.int .i64 x,.int .i64 y]:=dV ⟨[],[],[(1,[(4,.one .bool)])],[]⟩ Go.Proofs.Tryz.func337 (by kernel_rfl)
def z07e (d:Option Addr) (prefix_:ByteArray) (c_0:Int) (c_1:Int):Prog :=
Af T.a54 (Bk c_0 c_1) λa0=>
AP (Option.isNone d) (
Ab 0 [Ad none,Ac 1])<|
AB 1 (
AA F.a126 [.string prefix_] λb2=>
Bl (not b2=false) (ld T.a54 a0) λn3 n4=>
Aa (not b2) (
Ab 1 [.bool true])<|
AA F.a130 [Bk n3 n4] λb5=>
Aj (not b5) λb6=>
Ab 1 [.bool b6]) λb7=>
Aa b7 (
Ab 0 [Ad none,Ac 2])<|
AA F.a28 [Ad d] λb8=>
AP b8 (
Ab 0 [Ad none,Ac 9])<|
Bn (ld T.a54 a0) λn10 n11=>
Af T.a55 (.agg #[Ad d,.string prefix_,Ac n10,Ac n11,.slice none 0 0]) λa12=>
Bo F.a116 [Ag a12] λl13 n14=>
Al n14 λn15=>
Aa (n15 != 0) (
Al n15 λn16=>
Ab 0 [Ad none,Ac n16])<|
Aw 1 (
AU 2 (n15,(0,())) λn17 n18=>
Aa (decide (n18<(Ak l13))) (
Aw 3 (
.ex [.adr] (c1 λa19=>0<=n18/\n18<(Ak l13)/\l13.a=some a19) (u1 λa20=>
AR T.a14 a20 (Int.toNat n18*1) λn21=>
Al n18 λn22=>
Al n21 λn23=>
Am F.a109 [Ag a12] λn24=>
Aa (decide (n23<n24)) (
Bp F.a119 [Ag a12,Ac n23,.string (ByteArray.mk #[46,108,111,103])] λs25=>
Am F.a31 [Ad d,.string s25] λn26=>
Al n26 λn27=>
Aa (n27 != 0) (
Ab 1 [Ac n27])<|
Ab 3 [Ac n27])<|
.call F.a122 [Ag a12,Ac n23] (.tup [.one .bool,.one (.int .i64)]) (u2 λb28 (n29:Int)=>
Aj b28 λb30=>
Al n29 λn31=>
Aa (n31 == 0 && not b30) (
.must (0<=Av (n22+1)/\Av (n22+1)<=(Ak l13)) <|
Am F.a115 [Ag a12,.slice (z0k l13.a 1 (Int.toNat (Av (n22+1))) l13.cap) (l13.len-Int.toNat (Av (n22+1))) (l13.cap-Int.toNat (Av (n22+1)))] λn32=>
Al n32 λn33=>
Ab 1 [Ac n33])<|
Aa (n31 != 0) (
Ab 1 [Ac n31])<|
Ab 3 [Ac n31]))) λn34=>
Ab 2 [Ac n34,Ac (Av (n18+1))])<|
Ab 1 [Ac n17]) λn35=>
Aa (n35 != 0) (
Al n35 λn36=>
Ab 0 [Ad none,Ac n36])<|
Ab 0 [Ag a12,Ac 0]
theorem zrf (d:Option Addr) (prefix_:ByteArray) (c_0 c_1:Int):FnS (z07e d prefix_ c_0 c_1) F.a125 #[.pointer d,.string prefix_,.agg #[.int .i64 c_0,.int .i64 c_1]]:=dV ⟨[],[(1,[(10,.one (.int .i64))]),(2,[(10,.one (.int .i64))])],[(3,[(17,.one .bool)])],[(1,[(10,.one (.int .i64)),(44,.one (.int .i64))])]⟩ Go.Proofs.Tryz.func111 (by kernel_rfl)
def z06v (l:Option Addr):Prog :=
Aa (Option.isNone l) (
Ab 0 [.slice none 0 0])<|
Am F.a108 [Ad l] λn0=>
Bo F.a110 [Ad l,Ac n0,Ac 1099511627776] λl1 n2=>
Al n2 λn3=>
Ab 0 [l1.v]
theorem zqw (l:Option Addr):FnS (z06v l) F.a106 #[.pointer l]:=dV ⟨[],[],[],[]⟩ Go.Proofs.Tryz.func117 (by kernel_rfl)
def z06x (l:Option Addr):Prog :=
Ah (Option.isNone l=false) l λa1=>
AZ (Option.isNone l=false) T.a47 a1 4 λl2=>
Aa (Option.isNone l || (Ak l2) == 0) (
Ab 0 [Ac 0])<|
Ao l λa4=>
AN T.a47 a4 4 λl5=>
.ex [.adr] (c1 λa6=>(0:Int)<=0/\0<(Ak l5)/\l5.a=some a6) (u1 λa7=>
Bq T.a36 a7 0 λp8=>
Ao p8 λa10=>
AR T.a14 a10 1 λn11=>
Al n11 λn12=>
Ab 0 [Ac n12])
theorem zqy (l:Option Addr):FnS (z06x l) F.a108 #[.pointer l]:=dV ⟨[],[],[],[]⟩ Go.Proofs.Tryz.func119 (by kernel_rfl)
def z08w (parts:Sl):Prog :=
Aw 1 (
AU 2 (0,(0,())) λn0 n1=>
Aa (decide (n1<(Ak parts))) (
.ex [.adr] (c1 λa2=>0<=n1/\n1<(Ak parts)/\parts.a=some a2) (u1 λa3=>
AN T.a53 a3 (Int.toNat n1*1) λl4=>
Al (Av (n0+(Ak l4))) λn5=>
Ab 2 [Ac n5,Ac (Av (n1+1))]))<|
Ab 1 [Ac n0]) λn6=>
Bc (Instr.makeSlice T.a53 (Ac 0) (Ac n6)) λl7=>
Bf 1 (
Br 2 ({ a:=l7.a,len:=l7.len,cap:=l7.cap },(0,())) λl8 n9=>
Aa (decide (n9<(Ak parts))) (
.ex [.adr] (c1 λa10=>0<=n9/\n9<(Ak parts)/\parts.a=some a10) (u1 λa11=>
AN T.a53 a11 (Int.toNat n9*1) λl12=>
Bc (app T.a53 T.a53 T.a53 l8.v l12.v) λl13=>
Ab 2 [l13.v,Ac (Av (n9+1))]))<|
Ab 1 [l8.v]) λl14=>
Ab 0 [l14.v]
theorem zt0 (parts:Sl):FnS (z08w parts) F.a214 #[.slice parts.a parts.len parts.cap]:=dV ⟨[],[(0,[(3,.one (.int .i64))]),(2,[(6,.one .slc)])],[],[(0,[(3,.one (.int .i64)),(11,.one (.int .i64))]),(2,[(6,.one .slc),(24,.one (.int .i64))])]⟩ Go.Proofs.Tryz.func123 (by kernel_rfl)
def z098 (n:Int):Prog :=
.bind 1 [.one (.int .u64),.one .slc] (
.loop 2 [.one (.int .u64),.one .slc] (n,(⟨none,0,0⟩,())) (u2 λ(n0:Int) l1=>
Aa (decide (n0>=128)) (
Bc (Instr.buildSlice T.a53 1 #[(0,.int .u8 (IntKind.wrap .u8 (((BitVec.toNat (BitVec.ofInt 8 (IntKind.wrap .u8 n0) ||| BitVec.ofInt 8 128):Nat):Int))))]) λl2=>
Bc (app T.a53 T.a53 T.a53 l1.v l2.v) λl3=>
AY (Int.fdiv n0 128) λn4=>
Ab 2 [.int .u64 n4,l3.v])<|
Ab 1 [.int .u64 n0,l1.v])) (u2 λ(n5:Int) l6=>
Bc (Instr.buildSlice T.a53 1 #[(0,.int .u8 (IntKind.wrap .u8 n5))]) λl7=>
Bc (app T.a53 T.a53 T.a53 l6.v l7.v) λl8=>
Ab 0 [l8.v])
theorem ztc (n:Int):FnS (z098 n) F.a226 #[.int .u64 n]:=dV ⟨[],[(0,[(0,.one (.int .u64)),(3,.one .slc)])],[],[(0,[(0,.one (.int .u64)),(3,.one .slc)])]⟩ Go.Proofs.Tryz.func124 (by kernel_rfl)
def z08x (b:Sl):Prog :=
AO F.a0 [b.v] λl0=>
Af T.a65 (.agg #[l0.v,Ac 0,Ac 0]) λa1=>
Ab 0 [Ag a1]
theorem zt1 (b:Sl):FnS (z08x b) F.a215 #[.slice b.a b.len b.cap]:=dV ⟨[],[],[],[]⟩ Go.Proofs.Tryz.func127 (by kernel_rfl)
def z094 (r:Option Addr):Prog :=
AA F.a224 [Ad r] λb0=>
Aa (not b0) (
Ab 0 [.int .u64 0])<|
Ao r λa2=>
Bs F.a230 [Ar a2 0] λn3=>
AY n3 λn4=>
Ab 0 [.int .u64 n4]
theorem zt8 (r:Option Addr):FnS (z094 r) F.a222 #[.pointer r]:=dV ⟨[],[],[],[]⟩ Go.Proofs.Tryz.func128 (by kernel_rfl)
def z08z (r:Option Addr):Prog :=
Aa (Option.isNone r) (
Ab 0 [Ac 1])<|
Ao r λa1=>
Am F.a228 [Ar a1 0] λn2=>
Az 1 (
Aa (decide (n2>0)) (
Ao r λa4=>
An F.a227 [Ar a4 0,Ac 6]<|
Ab 1 [])<|
Ab 1 [])<|
Ao r λa6=>
AR T.a1 (Addr.add a6 0) 2 λn7=>
Al n7 λn8=>
Ab 0 [Ac n8]
theorem zt3 (r:Option Addr):FnS (z08z r) F.a217 #[.pointer r]:=dV ⟨[(62914569,[])],[],[],[]⟩ Go.Proofs.Tryz.func129 (by kernel_rfl)
def z06z (l:Option Addr) (offset:Int) (most:Int):Prog :=
Af T.a35 (Ad l) λa0=>
Af T.a14 (Ac offset) λa1=>
Af T.a13 (Ac most) λa2=>
Bt T.a35 a0 λp3=>
AP (Option.isNone p3) (
Ab 0 [.slice none 0 0,Ac 1])<|
.read True (ld T.a13 a2) (sI .i64) (u1 λ(n5:Int)=>
AP (decide (n5<1)) (
Ab 0 [.slice none 0 0,Ac 2])<|
AB 1 (
AC<|
.hold True (ld T.a14 a1) (sI .i64) (u1 λ(n7:Int)=>
Bt T.a35 a0 λp8=>
Am F.a108 [Ad p8] λn9=>
Bu (decide (n7<n9)=false) (ld T.a14 a1) λn10=>
AJ (decide (n7<n9)=false) (ld T.a35 a0) λp11=>
Aa (decide (n7<n9)) (
AE<|
Ab 1 [.bool true])<|
Am F.a109 [Ad p11] λn12=>
Aj (decide (n10>n12)) λb13=>
AE<|
Ab 1 [.bool b13])) λb14=>
Aa b14 (
Ab 0 [.slice none 0 0,Ac 8])<|
AH T.a41 λa15=>
Bt T.a35 a0 λp16=>
Ao p16 λa18=>
AN T.a47 a18 4 λl19=>
Am F.a177 [Ac (Ak l19),.func (Fn.func 197) #[] #[Ag a0,Ag a1]] λn20=>
Al (Av (n20-1)) λn21=>
Al (if 0>n21 then 0 else n21) λn22=>
Az 1 (
AW 2 (n22,()) λn23=>
Bt T.a35 a0 λp24=>
Ao p24 λa26=>
AN T.a47 a26 4 λl27=>
Aa (decide (n23<(Ak l27))) (
Bt T.a35 a0 λp28=>
Ao p28 λa30=>
AN T.a47 a30 4 λl31=>
.ex [.adr] (c1 λa32=>0<=n23/\n23<(Ak l31)/\l31.a=some a32) (u1 λa33=>
Bq T.a36 a33 (Int.toNat n23*1) λp34=>
AB 3 (
AC<|
.hold True (ld T.a35 a0) sP (u1 λp35=>
.read True (ld T.a14 a1) (sI .i64) (u1 λ(n36:Int)=>
Am F.a131 [Ad p34,Ac n36] λn37=>
AE<|
AA F.a124 [Ad p35,Ad p34,Ac n37,.func (Fn.func 200) #[] #[Ag a1,Ag a15,Ag a2]] λb38=>
Aj b38 λb39=>
AE<|
Ab 3 [.bool b39]))) λb40=>
Aa (not b40) (
Ab 1 [])<|
Al (Av (n23+1)) λn41=>
Ab 2 [Ac n41]))<|
Ab 1 [])<|
.read True (ld T.a41 a15) sL (u1 λl42=>
Ab 0 [l42.v,Ac 0]))
theorem zr0 (l:Option Addr) (offset most:Int):FnS (z06z l offset most) F.a110 #[.pointer l,.int .i64 offset,.int .i64 most]:=dV ⟨[],[(1,[])],[(5,[(18,.one .bool)]),(13,[(11,.one .bool)])],[(1,[(9,.one (.int .i64))])]⟩ Go.Proofs.Tryz.func135 (by kernel_rfl)
def z0fw (l:Sl):Prog :=
Bf 1 (
Br 2 (⟨none,0,0⟩,(0,())) λl0 n1=>
Aa (decide (n1<(Ak l))) (
Bf 3 (
.ex [.adr] (c1 λa2=>0<=n1/\n1<(Ak l)/\l.a=some a2) (u1 λa3=>
Bv T.a0 a3 (Int.toNat n1*7) λn4 n5 n6 n7 n8 n9 l10=>
AH T.a0 λa11=>
AK T.a0 a11 (Bw n4 n5 n6 n7 n8 n9 l10)<|
Bx T.a0 a11 λn12 n13 n14 n15 n16 n17 l18=>
AA F.a99 [Bw n12 n13 n14 n15 n16 n17 l18] λb19=>
Aa b19 (
Ab 3 [l0.v])<|
AN T.a42 a11 6 λl20=>
Bf 4 (
Br 5 ({ a:=l0.a,len:=l0.len,cap:=l0.cap },(0,())) λl21 n22=>
Aa (decide (n22<(Ak l20))) (
.ex [.adr] (c1 λa23=>0<=n22/\n22<(Ak l20)/\l20.a=some a23) (u1 λa24=>
By T.a2 a24 (Int.toNat n22*4) λs25 s26 b27 n28=>
AH T.a2 λa29=>
Al n22 λn30=>
AK T.a2 a29 (Bz s25 s26 b27 n28)<|
AR T.a14 a11 0 λn31=>
B0 T.a2 a29 λs32 s33 b34 n35=>
Bc (Instr.buildSlice T.a48 1 #[(0,.agg #[Ac (Av (n31+n30)),.string s32,.string s33,.bool b34,Ac n35])]) λl36=>
Bc (app T.a48 T.a48 T.a48 l21.v l36.v) λl37=>
Ab 5 [l37.v,Ac (Av (n22+1))]))<|
Ab 4 [l21.v]) λl38=>
Ab 3 [l38.v])) λl39=>
Ab 2 [l39.v,Ac (Av (n1+1))])<|
Ab 1 [l0.v]) λl40=>
Ab 0 [l40.v]
theorem zzr (l:Sl):FnS (z0fw l) F.a92 #[.slice l.a l.len l.cap]:=dV ⟨[],[(0,[(3,.one .slc)]),(1,[(3,.one .slc)]),(2,[(3,.one .slc)])],[],[(0,[(3,.one .slc),(10,.one (.int .i64))]),(2,[(3,.one .slc),(19,.one (.int .i64))])]⟩ Go.Proofs.Tryz.func138 (by kernel_rfl)
def z0fy (b_0 b_1 b_2 b_3 b_4 b_5:Int) (b_6:Sl):Prog :=
Af T.a0 (Bw b_0 b_1 b_2 b_3 b_4 b_5 b_6) λa0=>
Bx T.a0 a0 λn1 n2 n3 n4 n5 n6 l7=>
Am F.a96 [Bw n1 n2 n3 n4 n5 n6 l7] λn8=>
Aa (n8 != 0) (
Ab 0 [Ac 0])<|
AC<|
B1 T.a14 a0 0 λn9=>
Bx T.a0 a0 λn10 n11 n12 n13 n14 n15 l16=>
Am F.a95 [Bw n10 n11 n12 n13 n14 n15 l16] λn17=>
Al (Av (n9+n17)) λn18=>
AE<|
Ab 0 [Ac n18]
theorem zzt (b_0 b_1 b_2 b_3 b_4 b_5:Int) (b_6:Sl):FnS (z0fy b_0 b_1 b_2 b_3 b_4 b_5 b_6) F.a94 #[.agg #[.int .i64 b_0,.int .i64 b_1,.int .i64 b_2,.int .i64 b_3,.int .i64 b_4,.int .i64 b_5,.slice b_6.a b_6.len b_6.cap]]:=dV ⟨[],[],[],[]⟩ Go.Proofs.Tryz.func139 (by kernel_rfl)
def z091 (r:Option Addr):Prog :=
AA F.a224 [Ad r] λb0=>
Aa (not b0) (
Ab 0 [.bool false])<|
AC<|
Ao r λa2=>
Am F.a228 [Ar a2 0] λn3=>
Ah ((n3 == 0)=false) r λa5=>
AZ ((n3 == 0)=false) T.a53 (Addr.add a5 0) 0 λl6=>
Ah ((n3 == 0)=false) r λa8=>
AD ((n3 == 0)=false) T.a13 (Addr.add a8 0) 1 λn9=>
.ex [.adr] (c1 λa10=>(n3 == 0)=false->0<=n9/\n9<(Ak l6)/\l6.a=some a10) (u1 λa11=>
.read ((n3 == 0)=false) (ld T.a63 (Addr.add a11 (Int.toNat n9*1))) (sI .u8) (u1 λ(n12:Int)=>
AE<|
Aa (n3 == 0 || decide (n12>1)) (
Ao r λa14=>
An F.a227 [Ar a14 0,Ac 6]<|
Ab 0 [.bool false])<|
Ao r λa16=>
AO F.a229 [Ar a16 0,Ac 1] λl17=>
.ex [.adr] (c1 λa18=>(0:Int)<=0/\0<(Ak l17)/\l17.a=some a18) (u1 λa19=>
Bg T.a63 a19 0 λn20=>
Aj (n20 == 1) λb21=>
Ab 0 [.bool b21])))
theorem zt5 (r:Option Addr):FnS (z091 r) F.a219 #[.pointer r]:=dV ⟨[],[],[],[]⟩ Go.Proofs.Tryz.func143 (by kernel_rfl)
def z090 (r:Option Addr):Prog :=
Aa (Option.isNone r) (
Ab 0 [Ac 1])<|
Ao r λa1=>
AR T.a1 (Addr.add a1 0) 2 λn2=>
Al n2 λn3=>
Ab 0 [Ac n3]
theorem zt4 (r:Option Addr):FnS (z090 r) F.a218 #[.pointer r]:=dV ⟨[],[],[],[]⟩ Go.Proofs.Tryz.func144 (by kernel_rfl)
def zf0 (b:Sl):Prog :=
Aa (Option.isNone b.a) (
Ab 0 [.slice none 0 0])<|
Bc (Instr.buildSlice T.a53 0 #[]) λl0=>
Bc (app T.a53 T.a53 T.a53 l0.v b.v) λl1=>
Ab 0 [l1.v]
theorem zmw (b:Sl):FnS (zf0 b) F.a0 #[.slice b.a b.len b.cap]:=dV ⟨[],[],[],[]⟩ Go.Proofs.Tryz.func161 (by kernel_rfl)
def z07f (s:ByteArray):Prog :=
Aa (decide (((ByteArray.size s:Nat):Int)<1) || decide (((ByteArray.size s:Nat):Int)>8)) (
Ab 0 [.bool false])<|
Bc (convert T.a57 T.a53 (.string s)) λl0=>
Az 1 (
AW 2 (0,()) λn1=>
Aa (decide (n1<(Ak l0))) (
.ex [.adr] (c1 λa2=>0<=n1/\n1<(Ak l0)/\l0.a=some a2) (u1 λa3=>
Bg T.a63 a3 (Int.toNat n1*1) λn4=>
Bh n4 λn5=>
Aa (not (decide (n5>=97) && decide (n5<=122) || decide (n5>=48) && decide (n5<=57))) (
Ab 0 [.bool false])<|
Ab 2 [Ac (Av (n1+1))]))<|
Ab 1 [])<|
Ab 0 [.bool true]
theorem zrg (s:ByteArray):FnS (z07f s) F.a126 #[.string s]:=dV ⟨[],[(0,[])],[],[(0,[(16,.one (.int .i64))])]⟩ Go.Proofs.Tryz.func162 (by kernel_rfl)
def z07j (c_0:Int) (c_1:Int):Prog :=
Af T.a54 (Bk c_0 c_1) λa0=>
AR T.a13 a0 0 λn1=>
AD (decide (n1>=64)=true) T.a13 a0 0 λn2=>
AD ((decide (n1>=64) && decide (n2<=4194304))=true) T.a13 a0 1 λn3=>
AD ((decide (n1>=64) && decide (n2<=4194304) && decide (n3>=1))=true) T.a13 a0 1 λn4=>
Aj (decide (n1>=64) && decide (n2<=4194304) && decide (n3>=1) && decide (n4<=4194304)) λb5=>
Ab 0 [.bool b5]
theorem zrk (c_0 c_1:Int):FnS (z07j c_0 c_1) F.a130 #[.agg #[.int .i64 c_0,.int .i64 c_1]]:=dV ⟨[],[],[],[]⟩ Go.Proofs.Tryz.func163 (by kernel_rfl)
def z075 (l:Option Addr):Prog :=
AC<|
Ao l λa1=>
Bq T.a29 a1 0 λp2=>
Ao l λa4=>
Bd T.a57 a4 1 λs5=>
.must (((ByteArray.size s5+1:Nat):Int)<=9223372036854775807) <|
AO F.a29 [Ad p2,.string (s5++(ByteArray.mk #[45]))] λl6=>
AE<|
Bf 1 (
Br 2 (⟨none,0,0⟩,(0,())) λl7 n8=>
Aa (decide (n8<(Ak l6))) (
.ex [.adr] (c1 λa9=>0<=n8/\n8<(Ak l6)/\l6.a=some a9) (u1 λa10=>
Bd T.a57 a10 (Int.toNat n8*1) λs11=>
Be s11 λs12=>
AF F.a114 [Ad l,.string s12,.string (ByteArray.mk #[46,108,111,103])] λn13 b14=>
Al n13 λn15=>
Aj b14 λb16=>
Bf 3 (
Aa b16 (
Bc (Instr.buildSlice T.a45 1 #[(0,Ac n15)]) λl17=>
Bc (app T.a45 T.a45 T.a45 l7.v l17.v) λl18=>
Ab 3 [l18.v])<|
Ab 3 [l7.v]) λl19=>
AF F.a114 [Ad l,.string s12,.string (ByteArray.mk #[46,110,101,119])] λn20 b21=>
Al n20 λn22=>
Aj b21 λb23=>
Az 3 (
Aa b23 (
Ao l λa25=>
Bq T.a29 a25 0 λp26=>
Am F.a31 [Ad p26,.string s12] λn27=>
Al n27 λn28=>
Aa (n28 != 0) (
Al n28 λn29=>
Ab 0 [.slice none 0 0,Ac n29])<|
Ab 3 [])<|
Ab 3 [])<|
Ab 2 [l19.v,Ac (Av (n8+1))]))<|
Ab 1 [l7.v]) λl30=>
Ab 0 [l30.v,Ac 0]
theorem zr6 (l:Option Addr):FnS (z075 l) F.a116 #[.pointer l]:=dV ⟨[(1055531162730529,[(4,.one .slc)]),(73642861106770788396,[])],[(0,[(4,.one .slc)])],[],[(0,[(4,.one .slc),(23,.one (.int .i64))])]⟩ Go.Proofs.Tryz.func164 (by kernel_rfl)
def z06y (l:Option Addr):Prog :=
Ah (Option.isNone l=false) l λa1=>
AZ (Option.isNone l=false) T.a47 a1 4 λl2=>
Aa (Option.isNone l || (Ak l2) == 0) (
Ab 0 [Ac 0])<|
B2 F.a118 [Ad l] λp3=>
Am F.a132 [Ad p3] λn4=>
Al n4 λn5=>
Ab 0 [Ac n5]
theorem zqz (l:Option Addr):FnS (z06y l) F.a109 #[.pointer l]:=dV ⟨[],[],[],[]⟩ Go.Proofs.Tryz.func165 (by kernel_rfl)
def z078 (l:Option Addr) (base:Int) (end_:ByteArray):Prog :=
Bc (Instr.makeSlice T.a53 (Ac 11) (Ac 11)) λl0=>
Az 1 (
AU 2 (base,(10,())) λn1 n2=>
Aa (decide (n2>=0)) (
.must (0<=Av (((BitVec.toNat (BitVec.ofInt 64 n1 &&& BitVec.ofInt 64 15):Nat):Int))/\Av (((BitVec.toNat (BitVec.ofInt 64 n1 &&& BitVec.ofInt 64 15):Nat):Int))<16) <|
.ex [.adr] (c1 λa3=>0<=n2/\n2<(Ak l0)/\l0.a=some a3) (u1 λa4=>
AS T.a63 a4 (Int.toNat n2*1) (.int .u8 (bt (ByteArray.mk #[48,49,50,51,52,53,54,55,56,57,97,98,99,100,101,102]) (Av (((BitVec.toNat (BitVec.ofInt 64 n1 &&& BitVec.ofInt 64 15):Nat):Int)))))<|
Al (Int.fdiv n1 16) λn5=>
Al (Av (n2-1)) λn6=>
Ab 2 [Ac n5,Ac n6]))<|
Ab 1 [])<|
AC<|
Ao l λa8=>
Bd T.a57 a8 1 λs9=>
.must (((ByteArray.size s9+1:Nat):Int)<=9223372036854775807) <|
B3 (convert T.a53 T.a57 l0.v) λs10=>
.must (((ByteArray.size (s9++(ByteArray.mk #[45]))+ByteArray.size s10:Nat):Int)<=9223372036854775807) <|
.must (((ByteArray.size (s9++(ByteArray.mk #[45])++s10)+ByteArray.size end_:Nat):Int)<=9223372036854775807) <|
Be (s9++(ByteArray.mk #[45])++s10++end_) λs11=>
AE<|
Ab 0 [.string s11]
theorem zr9 (l:Option Addr) (base:Int) (end_:ByteArray):FnS (z078 l base end_) F.a119 #[.pointer l,.int .i64 base,.string end_]:=dV ⟨[],[(0,[])],[],[(0,[(1,.one (.int .i64)),(8,.one (.int .i64))])]⟩ Go.Proofs.Tryz.func166 (by kernel_rfl)
def z07b (l:Option Addr) (base:Int):Prog :=
Bp F.a119 [Ad l,Ac base,.string (ByteArray.mk #[46,108,111,103])] λs0=>
Be s0 λs1=>
Ao l λa3=>
Bq T.a29 a3 0 λp4=>
Bo F.a30 [Ad p4,.string s1] λl5 n6=>
Al n6 λn7=>
Aa (n7 != 0) (
Al n7 λn8=>
Ab 0 [.bool false,Ac n8])<|
B4 F.a40 [l5.v] λl9 n10 b11=>
Al n10 λn12=>
Aj b11 λb13=>
.bind 1 [.one (.int .i64),.one .bool] (
Aa b13 (
AF F.a128 [l9.v,Ac base] λn14 b15=>
Al n14 λn16=>
Aj b15 λb17=>
Ab 1 [Ac n16,.bool b17])<|
Ab 1 [Ac 0,.bool false]) (u2 λ(n18:Int) b19=>
Aa (not b19) (
Ao l λa21=>
Bq T.a29 a21 0 λp22=>
Am F.a31 [Ad p22,.string s1] λn23=>
Al n23 λn24=>
Ab 0 [.bool false,Ac n24])<|
B2 F.a123 [Ad l,Ac base,Ac n18] λp25=>
Al base λn26=>
Aw 1 (
AU 2 (n12,(n26,())) λn27 n28=>
.must (0<=n27/\n27<=(Ak l5)) <|
B4 F.a40 [.slice (z0k l5.a 1 (Int.toNat n27) l5.cap) (l5.len-Int.toNat n27) (l5.cap-Int.toNat n27)] λl29 n30 b31=>
Al n30 λn32=>
Aj b31 λb33=>
Aa (not b33) (
Ab 1 [Ac n27])<|
.call F.a90 [l29.v] (.tup [.agg [.int .i64,.int .i64,.int .i64,.int .i64,.int .i64,.int .i64,.slc],.one (.int .i64)]) (u8 λ(n34 n35 n36 n37 n38 n39:Int) l40 (n41:Int)=>
AH T.a0 λa42=>
AK T.a0 a42 (Bw n34 n35 n36 n37 n38 n39 l40)<|
Al n41 λn43=>
AD ((n43 != 0)=false) T.a14 a42 0 λn44=>
Aa (n43 != 0 || decide (n44<n28)) (
Ab 1 [Ac n27])<|
Bx T.a0 a42 λn45 n46 n47 n48 n49 n50 l51=>
An F.a133 [Ad p25,Bw n45 n46 n47 n48 n49 n50 l51,Ac n32]<|
Ao p25 λa53=>
AR T.a14 a53 3 λn54=>
Al n54 λn55=>
Al (Av (n27+n32)) λn56=>
Ab 2 [Ac n56,Ac n55])) λn57=>
An F.a121 [Ad l,Ad p25]<|
Aa (n57 == (Ak l5)) (
Ab 0 [.bool true,Ac 0])<|
Ao l λa59=>
Bq T.a29 a59 0 λp60=>
Am F.a26 [Ad p60,.string s1,Ac n57] λn61=>
Al n61 λn62=>
Ab 0 [.bool false,Ac n62])
theorem zrc (l:Option Addr) (base:Int):FnS (z07b l base) F.a122 #[.pointer l,.int .i64 base]:=dV ⟨[(2269814212245061674,[(12,.one (.int .i64)),(13,.one .bool)])],[(0,[(10,.one (.int .i64))])],[],[(0,[(10,.one (.int .i64)),(15,.one (.int .i64))])]⟩ Go.Proofs.Tryz.func167 (by kernel_rfl)
def z074 (l:Option Addr) (bases:Sl):Prog :=
Az 1 (
AW 2 (0,()) λn0=>
Aa (decide (n0<(Ak bases))) (
.ex [.adr] (c1 λa1=>0<=n0/\n0<(Ak bases)/\bases.a=some a1) (u1 λa2=>
AR T.a14 a2 (Int.toNat n0*1) λn3=>
Al n3 λn4=>
Aw 3 (
AC<|
Ao l λa6=>
B5 T.a29 a6 0 λp7=>
Bp F.a119 [Ad l,Ac n4,.string (ByteArray.mk #[46,108,111,103])] λs8=>
AE<|
Am F.a31 [Ad p7,.string s8] λn9=>
Al n9 λn10=>
AE<|
Ab 3 [Ac n10]) λn11=>
Aa (n11 != 0) (
Al n11 λn12=>
Ab 0 [Ac n12])<|
Ab 2 [Ac (Av (n0+1))]))<|
Ab 1 [])<|
Ab 0 [Ac 0]
theorem zr5 (l:Option Addr) (bases:Sl):FnS (z074 l bases) F.a115 #[.pointer l,.slice bases.a bases.len bases.cap]:=dV ⟨[],[(0,[])],[(4,[(7,.one (.int .i64))])],[(0,[(10,.one (.int .i64))])]⟩ Go.Proofs.Tryz.func168 (by kernel_rfl)
def z0er (b:Sl):Prog :=
B4 F.a40 [b.v] λl0 n1 b2=>
Al n1 λn3=>
Aj b2 λb4=>
Aa (not b4 || n3 != (Ak b)) (
Ab 0 [.slice none 0 0,.bool false])<|
Ab 0 [l0.v,.bool true]
theorem zyl (b:Sl):FnS (z0er b) F.a42 #[.slice b.a b.len b.cap]:=dV ⟨[],[],[],[]⟩ Go.Proofs.Tryz.func177 (by kernel_rfl)
def z093 (r:Option Addr) (most:Int):Prog :=
AA F.a224 [Ad r] λb0=>
Aa (not b0) (
Ab 0 [.string (ByteArray.mk #[])])<|
Ao r λa2=>
AR T.a13 (Addr.add a2 0) 1 λn3=>
Al n3 λn4=>
Ao r λa6=>
Bs F.a230 [Ar a6 0] λn7=>
AY n7 λn8=>
Ao r λa10=>
AR T.a1 (Addr.add a10 0) 2 λn11=>
Aj (n11 != 0) λb12=>
Az 1 (
Aa b12 (
Ab 1 [])<|
Aj (decide (n8>IntKind.wrap .u64 (if 0>most then 0 else most))) λb13=>
Az 2 (
Aa b13 (
Ao r λa15=>
An F.a227 [Ar a15 0,Ac 7]<|
Ab 2 [])<|
Ao r λa17=>
Am F.a228 [Ar a17 0] λn18=>
AP (decide (n8>IntKind.wrap .u64 n18)) (
Ao r λa21=>
An F.a227 [Ar a21 0,Ac 6]<|
Ab 2 [])<|
Ao r λa23=>
AO F.a229 [Ar a23 0,Ac (Av n8)] λl24=>
B3 (convert T.a53 T.a57 l24.v) λs25=>
Be s25 λs26=>
Ab 0 [.string s26])<|
Ab 1 [])<|
Ao r λa28=>
AS T.a13 (Addr.add a28 0) 1 (Ac n4)<|
Ab 0 [.string (ByteArray.mk #[])]
theorem zt7 (r:Option Addr) (most:Int):FnS (z093 r most) F.a221 #[.pointer r,.int .i64 most]:=dV ⟨[(147571701062593216545,[]),(147573917678034812954,[])],[],[],[]⟩ Go.Proofs.Tryz.func178 (by kernel_rfl)
def z06w (l:Option Addr) (bs:Sl):Prog :=
Aa (Option.isNone l) (
Ab 0 [Ac 0,Ac 1])<|
Aa ((Ak bs) == 0) (
Ab 0 [Ac 0,Ac 3])<|
.call F.a120 [Ad l,bs.v] (.tup [.one .slc,.one .slc,.one (.int .i64)]) (u3 λl0 l1 (n2:Int)=>
Al n2 λn3=>
Aa (n3 != 0) (
Al n3 λn4=>
Ab 0 [Ac 0,Ac n4])<|
Aw 1 (
AU 2 (0,(0,())) λn5 n6=>
Aa (decide (n6<(Ak l1))) (
.ex [.adr] (c1 λa7=>0<=n6/\n6<(Ak l1)/\l1.a=some a7) (u1 λa8=>
AN T.a53 a8 (Int.toNat n6*1) λl9=>
Al (Av (n5+(Ak l9))) λn10=>
Ab 2 [Ac n10,Ac (Av (n6+1))]))<|
Ab 1 [Ac n5]) λn11=>
B2 F.a118 [Ad l] λp12=>
AA F.a117 [Ad l,Ac n11] λb13=>
Ba 1 (
Aa (not b13) (
Am F.a113 [Ad l] λn14=>
Al n14 λn15=>
Aa (n15 != 0) (
Al n15 λn16=>
Ab 0 [Ac 0,Ac n16])<|
Am F.a109 [Ad l] λn17=>
B2 F.a123 [Ad l,Ac n17,Ac 0] λp18=>
Aw 2 (
AC<|
Ao l λa20=>
B5 T.a29 a20 0 λp21=>
Ao p18 λa23=>
AR T.a14 a23 1 λn24=>
Ao p18 λa26=>
B1 T.a14 a26 1 λn27=>
Bp F.a119 [Ad l,Ac n24,.string (ByteArray.mk #[46,108,111,103])] λs28=>
AO F.a127 [Ac n27,Ac 0] λl29=>
Bc (Instr.buildSlice T.a49 1 #[(0,l29.v)]) λl30=>
Bc (app T.a49 T.a49 T.a49 l30.v l1.v) λl31=>
AE<|
Am F.a25 [Ad p21,.string s28,l31.v] λn32=>
Al n32 λn33=>
AE<|
Ab 2 [Ac n33]) λn34=>
Aa (n34 != 0) (
Al n34 λn35=>
Ab 0 [Ac 0,Ac n35])<|
An F.a121 [Ad l,Ad p18]<|
Ab 1 [Ad p18])<|
Aw 2 (
AC<|
Ao l λa37=>
B5 T.a29 a37 0 λp38=>
Ao p12 λa40=>
AR T.a14 a40 1 λn41=>
Bp F.a119 [Ad l,Ac n41,.string (ByteArray.mk #[46,108,111,103])] λs42=>
AE<|
Am F.a25 [Ad p38,.string s42,l1.v] λn43=>
Al n43 λn44=>
AE<|
Ab 2 [Ac n44]) λn45=>
Aa (n45 != 0) (
Al n45 λn46=>
Ab 0 [Ac 0,Ac n46])<|
Ab 1 [Ad p12]) λp47=>
Az 1 (
AW 2 (0,()) λn48=>
Aa (decide (n48<(Ak l0))) (
.ex [.adr] (c1 λa49=>0<=n48/\n48<(Ak l0)/\l0.a=some a49) (u1 λa50=>
Bv T.a0 a50 (Int.toNat n48*7) λn51 n52 n53 n54 n55 n56 l57=>
AH T.a0 λa58=>
Al n48 λn59=>
AK T.a0 a58 (Bw n51 n52 n53 n54 n55 n56 l57)<|
AC<|
Bx T.a0 a58 λn60 n61 n62 n63 n64 n65 l66=>
.ex [.adr] (c1 λa67=>0<=n59/\n59<(Ak l1)/\l1.a=some a67) (u1 λa68=>
AN T.a53 a68 (Int.toNat n59*1) λl69=>
An F.a133 [Ad p47,Bw n60 n61 n62 n63 n64 n65 l66,Ac (Ak l69)]<|
AE<|
Ab 2 [Ac (Av (n48+1))])))<|
Ab 1 [])<|
.ex [.adr] (c1 λa70=>(0:Int)<=0/\0<(Ak l0)/\l0.a=some a70) (u1 λa71=>
AR T.a14 (Addr.add a71 0) 0 λn72=>
Al n72 λn73=>
Ab 0 [Ac n73,Ac 0]))
theorem zqx (l:Option Addr) (bs:Sl):FnS (z06w l bs) F.a107 #[.pointer l,.slice bs.a bs.len bs.cap]:=dV ⟨[(2596148429267409202579229989077041,[(12,.one .ptr)])],[(0,[(9,.one (.int .i64))]),(2,[])],[(20,[(14,.one (.int .i64))]),(24,[(15,.one (.int .i64))])],[(0,[(9,.one (.int .i64)),(35,.one (.int .i64))]),(2,[(101,.one (.int .i64))])]⟩ Go.Proofs.Tryz.func187 (by kernel_rfl)
def z072 (l:Option Addr):Prog :=
Aa (Option.isNone l) (
Ab 0 [Ac 1])<|
B2 F.a118 [Ad l] λp0=>
Aa (not (Option.isNone p0)) (
Aw 1 (
AC<|
Ao l λa2=>
B5 T.a29 a2 0 λp3=>
Ao p0 λa5=>
AR T.a14 a5 1 λn6=>
Bp F.a119 [Ad l,Ac n6,.string (ByteArray.mk #[46,108,111,103])] λs7=>
Bc (Instr.buildSlice T.a50 1 #[(0,.string s7)]) λl8=>
AE<|
Am F.a33 [Ad p3,l8.v] λn9=>
Al n9 λn10=>
AE<|
Ab 1 [Ac n10]) λn11=>
Ab 0 [Ac n11])<|
Ab 0 [Ac 0]
theorem zr3 (l:Option Addr):FnS (z072 l) F.a113 #[.pointer l]:=dV ⟨[],[],[(5,[(2,.one (.int .i64))])],[]⟩ Go.Proofs.Tryz.func188 (by kernel_rfl)
def z0ft (b_0 b_1 b_2 b_3 b_4 b_5:Int) (b_6:Sl):Prog :=
Af T.a0 (Bw b_0 b_1 b_2 b_3 b_4 b_5 b_6) λa0=>
AH T.a0 λa1=>
AN T.a42 a0 6 λl2=>
Bc (app T.a42 T.a42 T.a42 (.slice none 0 0) l2.v) λl3=>
AS T.a42 a0 6 l3.v<|
Bx T.a0 a0 λn4 n5 n6 n7 n8 n9 l10=>
AK T.a0 a1 (Bw n4 n5 n6 n7 n8 n9 l10)<|
Bx T.a0 a1 λn11 n12 n13 n14 n15 n16 l17=>
Ab 0 [Bw n11 n12 n13 n14 n15 n16 l17]
theorem zzo (b_0 b_1 b_2 b_3 b_4 b_5:Int) (b_6:Sl):FnS (z0ft b_0 b_1 b_2 b_3 b_4 b_5 b_6) F.a89 #[.agg #[.int .i64 b_0,.int .i64 b_1,.int .i64 b_2,.int .i64 b_3,.int .i64 b_4,.int .i64 b_5,.slice b_6.a b_6.len b_6.cap]]:=dV ⟨[],[],[],[]⟩ Go.Proofs.Tryz.func189 (by kernel_rfl)
def z096 (r:Option Addr):Prog :=
Ah (not (Option.isNone r)=true) r λa1=>
AD (not (Option.isNone r)=true) T.a1 (Addr.add a1 0) 2 λn2=>
Aj (not (Option.isNone r) && n2 == 0) λb3=>
Ab 0 [.bool b3]
theorem zta (r:Option Addr):FnS (z096 r) F.a224 #[.pointer r]:=dV ⟨[],[],[],[]⟩ Go.Proofs.Tryz.func190 (by kernel_rfl)
def z09c (p:Option Addr):Prog :=
Az 1 (
.loop 2 [.one (.int .u64),.one (.int .i64)] (0,(0,())) (u2 λ(n0 n1:Int)=>
Aa (decide (n1<10)) (
Am F.a228 [Ad p] λn2=>
Aa (decide (n1>=n2)) (
Ab 1 [])<|
AC<|
Ao p λa4=>
AN T.a53 a4 0 λl5=>
Ao p λa7=>
AR T.a13 a7 1 λn8=>
.ex [.adr] (c1 λa9=>0<=Av (n8+n1)/\Av (n8+n1)<(Ak l5)/\l5.a=some a9) (u1 λa10=>
Bg T.a63 a10 (Int.toNat (Av (n8+n1))*1) λn11=>
Bh n11 λn12=>
AE<|
Aa (n1 == 9 && decide (n12>1)) (
Ab 1 [])<|
.must (0<=Av (7*n1)) <|
AY (IntKind.wrap .u64 (((BitVec.toNat (BitVec.ofInt 64 n0 ||| BitVec.ofInt 64 (IntKind.wrap .u64 (IntKind.wrap .u64 (IntKind.wrap .u8 (((BitVec.toNat (BitVec.ofInt 8 n12 &&& BitVec.ofInt 8 127):Nat):Int)))*2 ^ min (Int.toNat (Av (7*n1))) 64))):Nat):Int))) λn13=>
Aa (decide (n12>=128)) (
Al (Av (n1+1)) λn14=>
Ab 2 [.int .u64 n13,Ac n14])<|
Aa (n12 == 0 && decide (n1>0)) (
Ab 1 [])<|
Ao p λa16=>
AR T.a13 a16 1 λn17=>
Ao p λa19=>
AS T.a13 a19 1 (Ac (Av (n17+Av (n1+1))))<|
AY n13 λn20=>
Ab 0 [.int .u64 n20]))<|
Ab 1 []))<|
An F.a227 [Ad p,Ac 6]<|
Ab 0 [.int .u64 0]
theorem ztg (p:Option Addr):FnS (z09c p) F.a230 #[.pointer p]:=dV ⟨[],[(0,[])],[],[(0,[(3,.one (.int .u64)),(4,.one (.int .i64))])]⟩ Go.Proofs.Tryz.func191 (by kernel_rfl)
def z09a (p:Option Addr):Prog :=
AC<|
Ao p λa1=>
AN T.a53 a1 0 λl2=>
Ao p λa4=>
AR T.a13 a4 1 λn5=>
Al (Av ((Ak l2)-n5)) λn6=>
AE<|
Ab 0 [Ac n6]
theorem zte (p:Option Addr):FnS (z09a p) F.a228 #[.pointer p]:=dV ⟨[],[],[],[]⟩ Go.Proofs.Tryz.func192 (by kernel_rfl)
def z099 (p:Option Addr) (e_:Int):Prog :=
Ao p λa1=>
AR T.a1 a1 2 λn2=>
Az 1 (
Aa (n2 == 0) (
Ao p λa4=>
AS T.a1 a4 2 (Ac e_)<|
Ab 1 [])<|
Ab 1 [])<|
Ab 0 []
theorem ztd (p:Option Addr) (e_:Int):FnS (z099 p e_) F.a227 #[.pointer p,.int .i64 e_]:=dV ⟨[(31457288,[])],[],[],[]⟩ Go.Proofs.Tryz.func193 (by kernel_rfl)
def z070 (i:Int) (fv0:Option Addr) (fv1:Option Addr):Prog :=
AC<|
B6 T.a35 fv0 λp0=>
Ao p0 λa2=>
AN T.a47 a2 4 λl3=>
.ex [.adr] (c1 λa4=>0<=i/\i<(Ak l3)/\l3.a=some a4) (u1 λa5=>
Bq T.a36 a5 (Int.toNat i*1) λp6=>
Ao p6 λa8=>
AR T.a14 a8 1 λn9=>
B7 T.a14 fv1 λn10=>
Aj (decide (n9>n10)) λb11=>
AE<|
Ab 0 [.bool b11])
theorem zr1 (i:Int) (fv0 fv1:Option Addr):FnS (z070 i fv0 fv1) F.a111 #[.int .i64 i,.pointer fv0,.pointer fv1]:=dV ⟨[],[],[],[]⟩ Go.Proofs.Tryz.func197 (by kernel_rfl)
def z07d (l s:Option Addr) (place:Int) (told:Value):Prog :=
Bf 1 (
AC<|
Ao l λa1=>
B5 T.a29 a1 0 λp2=>
Ao s λa4=>
AR T.a14 a4 1 λn5=>
Bp F.a119 [Ad l,Ac n5,.string (ByteArray.mk #[46,108,111,103])] λs6=>
AE<|
Bo F.a30 [Ad p2,.string s6] λl7 n8=>
Al n8 λn9=>
AE<|
Ab 1 [l7.v]) λl10=>
Al place λn11=>
Az 1 (
AW 2 (n11,()) λn12=>
Ah (decide (n12<(Ak l10))=true) s λa14=>
AD (decide (n12<(Ak l10))=true) T.a13 a14 5 λn15=>
Aa (decide (n12<(Ak l10)) && decide (n12<n15)) (
.must (0<=n12/\n12<=(Ak l10)) <|
B4 F.a40 [.slice (z0k l10.a 1 (Int.toNat n12) l10.cap) (l10.len-Int.toNat n12) (l10.cap-Int.toNat n12)] λl16 n17 b18=>
Al n17 λn19=>
Aj b18 λb20=>
Aa (not b20) (
Ab 0 [.bool true])<|
.call F.a90 [l16.v] (.tup [.agg [.int .i64,.int .i64,.int .i64,.int .i64,.int .i64,.int .i64,.slc],.one (.int .i64)]) (u8 λ(n21 n22 n23 n24 n25 n26:Int) l27 (n28:Int)=>
AH T.a0 λa29=>
AK T.a0 a29 (Bw n21 n22 n23 n24 n25 n26 l27)<|
Al n28 λn30=>
AB 3 (
B8 ((n30 != 0)=false) T.a0 a29 λn31 n32 n33 n34 n35 n36 l37=>
Aa (n30 != 0) (
Ab 3 [.bool true])<|
AV told [Bw n31 n32 n33 n34 n35 n36 l37] λb38=>
Ab 3 [.bool (not b38)]) λb39=>
Aa b39 (
Ab 0 [.bool false])<|
Al (Av (n12+n19)) λn40=>
Ab 2 [Ac n40]))<|
Ab 1 [])<|
Ab 0 [.bool true]
theorem zre (l s:Option Addr) (place:Int) (told:Value) {w:World} {R:List Value->World->Prop} (h:(z07d l s place told).wp P (λ_=>True) w λe vs w'=>e=0/\R vs w'):Ret P F.a124 #[.pointer l,.pointer s,.int .i64 place,told] w R:=dS (n:=70) (rv:=[.tmp 8]) { cnd:=[],blk:=[(0,[])],reg:=[(1,[(9,.one .slc)]),(8,[(66,.one .bool)])],lps:=[(0,[(11,.one (.int .i64))])] } [.val (.pointer l),.val (.pointer s),.val (.int .i64 place),.any told] Go.Proofs.Tryz.func198 (by kernel_rfl) (by kernel_rfl) (by kernel_rfl) (by kernel_rfl) h
def z07k (s:Option Addr) (offset:Int):Prog :=
Ao s λa1=>
Bq T.a31 a1 0 λp2=>
.call F.a47 [Ad p2,Ac offset] (.tup [.agg [.int .i64,.int .i64,.int .i64],.one .bool]) (u4 λ(n3 n4 n5:Int) b6=>
AH T.a10 λa7=>
AK T.a10 a7 (B9 n3 n4 n5)<|
AP b6 (
AR T.a13 a7 1 λn9=>
Al n9 λn10=>
Ab 0 [Ac n10])<|
AC<|
Ao s λa12=>
AR T.a14 a12 1 λn13=>
Ao s λa15=>
AR T.a14 a15 2 λn16=>
AO F.a127 [Ac n13,Ac n16] λl17=>
Al (Ak l17) λn18=>
AE<|
Ab 0 [Ac n18])
theorem zrl (s:Option Addr) (offset:Int):FnS (z07k s offset) F.a131 #[.pointer s,.int .i64 offset]:=dV ⟨[],[],[],[]⟩ Go.Proofs.Tryz.func199 (by kernel_rfl)
def z071 (b_0 b_1 b_2 b_3 b_4 b_5:Int) (b_6:Sl) (fv0 fv1:Option Addr) (fv2:Option Addr):Prog :=
Af T.a0 (Bw b_0 b_1 b_2 b_3 b_4 b_5 b_6) λa0=>
Bx T.a0 a0 λn1 n2 n3 n4 n5 n6 l7=>
B7 T.a14 fv0 λn8=>
.call F.a93 [Bw n1 n2 n3 n4 n5 n6 l7,Ac n8] (.tup [.agg [.int .i64,.int .i64,.int .i64,.int .i64,.int .i64,.int .i64,.slc],.one .bool]) (u8 λ(n9 n10 n11 n12 n13 n14:Int) l15 b16=>
AH T.a0 λa17=>
AK T.a0 a17 (Bw n9 n10 n11 n12 n13 n14 l15)<|
Aj b16 λb18=>
Az 1 (
Aa b18 (
.read True (Instr.loadAt T.a41 (Ad fv1)) sL (u1 λl19=>
Bx T.a0 a17 λn20 n21 n22 n23 n24 n25 l26=>
Bc (Instr.buildSlice T.a41 1 #[(0,Bw n20 n21 n22 n23 n24 n25 l26)]) λl27=>
Bc (app T.a41 T.a41 T.a41 l19.v l27.v) λl28=>
Bb (Instr.storeAt T.a41 (Ad fv1) l28.v)<|
Ab 1 []))<|
Ab 1 [])<|
.read True (Instr.loadAt T.a41 (Ad fv1)) sL (u1 λl29=>
B7 T.a13 fv2 λn30=>
Aj (decide ((Ak l29)<n30)) λb31=>
Ab 0 [.bool b31]))
theorem zr2 (b_0 b_1 b_2 b_3 b_4 b_5:Int) (b_6:Sl) (fv0 fv1 fv2:Option Addr):FnS (z071 b_0 b_1 b_2 b_3 b_4 b_5 b_6 fv0 fv1 fv2) F.a112 #[.agg #[.int .i64 b_0,.int .i64 b_1,.int .i64 b_2,.int .i64 b_3,.int .i64 b_4,.int .i64 b_5,.slice b_6.a b_6.len b_6.cap],.pointer fv0,.pointer fv1,.pointer fv2]:=dV ⟨[(2013265934,[])],[],[],[]⟩ Go.Proofs.Tryz.func200 (by kernel_rfl)
def z0fx (b_0 b_1 b_2 b_3 b_4 b_5:Int) (b_6:Sl) (offset:Int):Prog :=
Af T.a0 (Bw b_0 b_1 b_2 b_3 b_4 b_5 b_6) λa0=>
AH T.a0 λa1=>
AB 1 (
Bx T.a0 a0 λn2 n3 n4 n5 n6 n7 l8=>
Am F.a96 [Bw n2 n3 n4 n5 n6 n7 l8] λn9=>
B8 ((n9 != 0)=false) T.a0 a0 λn10 n11 n12 n13 n14 n15 l16=>
Aa (n9 != 0) (
Ab 1 [.bool true])<|
Am F.a94 [Bw n10 n11 n12 n13 n14 n15 l16] λn17=>
Aj (decide (offset>=n17)) λb18=>
Ab 1 [.bool b18]) λb19=>
Aa b19 (
AK T.a0 a1 (.agg #[Ac 0,Ac 0,Ac 0,Ac 0,Ac 0,Ac 0,.slice none 0 0])<|
Bx T.a0 a1 λn20 n21 n22 n23 n24 n25 l26=>
Ab 0 [Bw n20 n21 n22 n23 n24 n25 l26,.bool false])<|
Bx T.a0 a0 λn27 n28 n29 n30 n31 n32 l33=>
AA F.a99 [Bw n27 n28 n29 n30 n31 n32 l33] λb34=>
AD (b34=false) T.a14 a0 0 λn35=>
AP (b34 || decide (offset<=n35)) (
Bx T.a0 a0 λn37 n38 n39 n40 n41 n42 l43=>
BA F.a89 [Bw n37 n38 n39 n40 n41 n42 l43] λn44 n45 n46 n47 n48 n49 l50=>
AK T.a0 a1 (Bw n44 n45 n46 n47 n48 n49 l50)<|
Bx T.a0 a1 λn51 n52 n53 n54 n55 n56 l57=>
Ab 0 [Bw n51 n52 n53 n54 n55 n56 l57,.bool true])<|
Bx T.a0 a0 λn58 n59 n60 n61 n62 n63 l64=>
AR T.a14 a0 0 λn65=>
AN T.a42 a0 6 λl66=>
BA F.a101 [Bw n58 n59 n60 n61 n62 n63 l64,Ac (Av (offset-n65)),Ac (Ak l66)] λn67 n68 n69 n70 n71 n72 l73=>
AK T.a0 a1 (Bw n67 n68 n69 n70 n71 n72 l73)<|
Bx T.a0 a1 λn74 n75 n76 n77 n78 n79 l80=>
Ab 0 [Bw n74 n75 n76 n77 n78 n79 l80,.bool true]
theorem zzs (b_0 b_1 b_2 b_3 b_4 b_5:Int) (b_6:Sl) (offset:Int):FnS (z0fx b_0 b_1 b_2 b_3 b_4 b_5 b_6 offset) F.a93 #[.agg #[.int .i64 b_0,.int .i64 b_1,.int .i64 b_2,.int .i64 b_3,.int .i64 b_4,.int .i64 b_5,.slice b_6.a b_6.len b_6.cap],.int .i64 offset]:=dV ⟨[],[],[(1,[(6,.one .bool)])],[]⟩ Go.Proofs.Tryz.func201 (by kernel_rfl)
def z0g3 (b_0 b_1 b_2 b_3 b_4 b_5:Int) (b_6:Sl):Prog :=
Af T.a0 (Bw b_0 b_1 b_2 b_3 b_4 b_5 b_6) λa0=>
AR T.a13 a0 4 λn1=>
AD ((n1 == 2)=false) T.a13 a0 4 λn2=>
Aj (n1 == 2 || n2 == 3) λb3=>
Ab 0 [.bool b3]
theorem zzy (b_0 b_1 b_2 b_3 b_4 b_5:Int) (b_6:Sl):FnS (z0g3 b_0 b_1 b_2 b_3 b_4 b_5 b_6) F.a99 #[.agg #[.int .i64 b_0,.int .i64 b_1,.int .i64 b_2,.int .i64 b_3,.int .i64 b_4,.int .i64 b_5,.slice b_6.a b_6.len b_6.cap]]:=dV ⟨[],[],[],[]⟩ Go.Proofs.Tryz.func205 (by kernel_rfl)
def z0g0 (b_0 b_1 b_2 b_3 b_4 b_5:Int) (b_6:Sl):Prog :=
Af T.a0 (Bw b_0 b_1 b_2 b_3 b_4 b_5 b_6) λa0=>
AB 1 (
Bx T.a0 a0 λn1 n2 n3 n4 n5 n6 l7=>
AA F.a100 [Bw n1 n2 n3 n4 n5 n6 l7] λb8=>
B8 (not b8=false) T.a0 a0 λn9 n10 n11 n12 n13 n14 l15=>
Aa (not b8) (
Ab 1 [.bool true])<|
AA F.a98 [Bw n9 n10 n11 n12 n13 n14 l15] λb16=>
Aj (not b16) λb17=>
Ab 1 [.bool b17]) λb18=>
Aa b18 (
Ab 0 [Ac 2])<|
AN T.a42 a0 6 λl19=>
AP (decide ((Ak l19)>64)) (
Ab 0 [Ac 7])<|
AN T.a42 a0 6 λl21=>
Az 1 (
AW 2 (0,()) λn22=>
Aa (decide (n22<(Ak l21))) (
.ex [.adr] (c1 λa23=>0<=n22/\n22<(Ak l21)/\l21.a=some a23) (u1 λa24=>
By T.a2 a24 (Int.toNat n22*4) λs25 s26 b27 n28=>
AH T.a2 λa29=>
AK T.a2 a29 (Bz s25 s26 b27 n28)<|
B0 T.a2 a29 λs30 s31 b32 n33=>
Am F.a103 [Bz s30 s31 b32 n33] λn34=>
Al n34 λn35=>
Aa (n35 != 0) (
Al n35 λn36=>
Ab 0 [Ac n36])<|
Ab 2 [Ac (Av (n22+1))]))<|
Ab 1 [])<|
Bx T.a0 a0 λn37 n38 n39 n40 n41 n42 l43=>
Am F.a95 [Bw n37 n38 n39 n40 n41 n42 l43] λn44=>
Al (Av (n44-1)) λn45=>
AB 1 (
AR T.a14 a0 0 λn46=>
AD (decide (n46>Av (1099511627776-n45))=false) T.a14 a0 1 λn47=>
B8 (decide (n46>Av (1099511627776-n45))=false/\decide (n47>0)=true) T.a0 a0 λn48 n49 n50 n51 n52 n53 l54=>
Aa (decide (n46>Av (1099511627776-n45))) (
Ab 1 [.bool true])<|
Aa (decide (n47>0)) (
AA F.a99 [Bw n48 n49 n50 n51 n52 n53 l54] λb55=>
AD (not b55=true) T.a13 a0 3 λn56=>
Ab 1 [.bool (not b55 && decide (n56>Av (2147483647-n45)))])<|
Ab 1 [.bool false]) λb57=>
Aa b57 (
Ab 0 [Ac 24])<|
Ab 0 [Ac 0]
theorem zzv (b_0 b_1 b_2 b_3 b_4 b_5:Int) (b_6:Sl):FnS (z0g0 b_0 b_1 b_2 b_3 b_4 b_5 b_6) F.a96 #[.agg #[.int .i64 b_0,.int .i64 b_1,.int .i64 b_2,.int .i64 b_3,.int .i64 b_4,.int .i64 b_5,.slice b_6.a b_6.len b_6.cap]]:=dV ⟨[],[(1,[])],[(1,[(7,.one .bool)]),(13,[(58,.one .bool)])],[(1,[(24,.one (.int .i64))])]⟩ Go.Proofs.Tryz.func206 (by kernel_rfl)
def z0fz (b_0 b_1 b_2 b_3 b_4 b_5:Int) (b_6:Sl):Prog :=
Af T.a0 (Bw b_0 b_1 b_2 b_3 b_4 b_5 b_6) λa0=>
Bx T.a0 a0 λn1 n2 n3 n4 n5 n6 l7=>
AA F.a99 [Bw n1 n2 n3 n4 n5 n6 l7] λb8=>
Aa b8 (
Ab 0 [Ac 1])<|
AN T.a42 a0 6 λl9=>
Al (Ak l9) λn10=>
Ab 0 [Ac n10]
theorem zzu (b_0 b_1 b_2 b_3 b_4 b_5:Int) (b_6:Sl):FnS (z0fz b_0 b_1 b_2 b_3 b_4 b_5 b_6) F.a95 #[.agg #[.int .i64 b_0,.int .i64 b_1,.int .i64 b_2,.int .i64 b_3,.int .i64 b_4,.int .i64 b_5,.slice b_6.a b_6.len b_6.cap]]:=dV ⟨[],[],[],[]⟩ Go.Proofs.Tryz.func207 (by kernel_rfl)
def z09b (p:Option Addr) (n:Int):Prog :=
Ao p λa1=>
AR T.a13 a1 1 λn2=>
Ao p λa4=>
AS T.a13 a4 1 (Ac (Av (n2+n)))<|
AC<|
Ao p λa6=>
AN T.a53 a6 0 λl7=>
Ao p λa9=>
AR T.a13 a9 1 λn10=>
Ao p λa12=>
AR T.a13 a12 1 λn13=>
.must (0<=Av (n10-n)/\Av (n10-n)<=n13/\n13<=((l7.cap:Nat):Int)) <|
AE<|
Ab 0 [.slice (z0k l7.a 1 (Int.toNat (Av (n10-n))) l7.cap) (Int.toNat n13-Int.toNat (Av (n10-n))) (l7.cap-Int.toNat (Av (n10-n)))]
theorem ztf (p:Option Addr) (n:Int):FnS (z09b p n) F.a229 #[.pointer p,.int .i64 n]:=dV ⟨[],[],[],[]⟩ Go.Proofs.Tryz.func210 (by kernel_rfl)
def z08u (on:Bool):Prog :=
Aa on (
Bc (Instr.buildSlice T.a53 1 #[(0,.int .u8 1)]) λl0=>
Ab 0 [l0.v])<|
Bc (Instr.buildSlice T.a53 1 #[(0,.int .u8 0)]) λl1=>
Ab 0 [l1.v]
theorem zsy (on:Bool):FnS (z08u on) F.a212 #[.bool on]:=dV ⟨[],[],[],[]⟩ Go.Proofs.Tryz.func214 (by kernel_rfl)
def z073 (l:Option Addr) (name:ByteArray) (end_:ByteArray):Prog :=
Ao l λa1=>
Bd T.a57 a1 1 λs2=>
Al (Av (((ByteArray.size s2:Nat):Int)+1)) λn3=>
.must ((((ByteArray.size name:Nat):Int) != Av (Av (n3+11)+((ByteArray.size end_:Nat):Int)))=false->0<=Av (n3+11)/\Av (n3+11)<=((ByteArray.size name:Nat):Int)) <|
Aa (((ByteArray.size name:Nat):Int) != Av (Av (n3+11)+((ByteArray.size end_:Nat):Int)) || not (ByteArray.toList (ByteArray.extract name (Int.toNat (Av (n3+11))) (ByteArray.size name)) == ByteArray.toList end_)) (
Ab 0 [Ac 0,.bool false])<|
.must (0<=n3/\n3<=Av (n3+11)/\Av (n3+11)<=((ByteArray.size name:Nat):Int)) <|
Bc (convert T.a57 T.a53 (.string (ByteArray.extract name (Int.toNat n3) (Int.toNat (Av (n3+11)))))) λl4=>
Aw 1 (
AU 2 (0,(0,())) λn5 n6=>
Aa (decide (n6<(Ak l4))) (
.ex [.adr] (c1 λa7=>0<=n6/\n6<(Ak l4)/\l4.a=some a7) (u1 λa8=>
Bg T.a63 a8 (Int.toNat n6*1) λn9=>
Bh n9 λn10=>
Aj (decide (n10>=48) && decide (n10<=57)) λb11=>
Aw 3 (
Aa b11 (
Al (Av (((BitVec.toNat (BitVec.ofInt 64 (Av (n5*16)) ||| BitVec.ofInt 64 (Av (IntKind.wrap .u8 (n10-48)))):Nat):Int))) λn12=>
Ab 3 [Ac n12])<|
AP (decide (n10>=97) && decide (n10<=102)) (
Al (Av (((BitVec.toNat (BitVec.ofInt 64 (Av (n5*16)) ||| BitVec.ofInt 64 (Av (IntKind.wrap .u8 (IntKind.wrap .u8 (n10-97)+10)))):Nat):Int))) λn14=>
Ab 3 [Ac n14])<|
Ab 0 [Ac 0,.bool false]) λn15=>
Ab 2 [Ac n15,Ac (Av (n6+1))]))<|
Ab 1 [Ac n5]) λn16=>
Al n16 λn17=>
Ab 0 [Ac n17,.bool true]
theorem zr4 (l:Option Addr) (name end_:ByteArray):FnS (z073 l name end_) F.a114 #[.pointer l,.string name,.string end_]:=dV ⟨[(19342794667089993088630829,[(9,.one (.int .i64))])],[(0,[(9,.one (.int .i64))])],[],[(0,[(9,.one (.int .i64)),(41,.one (.int .i64))])]⟩ Go.Proofs.Tryz.func229 (by kernel_rfl)
def z077 (l:Option Addr):Prog :=
Ao l λa1=>
AN T.a47 a1 4 λl2=>
Aa ((Ak l2) == 0) (
Ab 0 [Ad none])<|
AC<|
Ao l λa4=>
AN T.a47 a4 4 λl5=>
Ao l λa7=>
AN T.a47 a7 4 λl8=>
.ex [.adr] (c1 λa9=>0<=Av ((Ak l8)-1)/\Av ((Ak l8)-1)<(Ak l5)/\l5.a=some a9) (u1 λa10=>
Bq T.a36 a10 (Int.toNat (Av ((Ak l8)-1))*1) λp11=>
AE<|
Ab 0 [Ad p11])
theorem zr8 (l:Option Addr):FnS (z077 l) F.a118 #[.pointer l]:=dV ⟨[],[],[],[]⟩ Go.Proofs.Tryz.func230 (by kernel_rfl)
def z07l (s:Option Addr):Prog :=
AC<|
Ao s λa1=>
AR T.a14 a1 1 λn2=>
Ao s λa4=>
AR T.a14 a4 2 λn5=>
Ao s λa7=>
AR T.a14 a7 3 λn8=>
Al (if n8>if n5>n2 then n5 else n2 then n8 else if n5>n2 then n5 else n2) λn9=>
AE<|
Ab 0 [Ac n9]
theorem zrm (s:Option Addr):FnS (z07l s) F.a132 #[.pointer s]:=dV ⟨[],[],[],[]⟩ Go.Proofs.Tryz.func231 (by kernel_rfl)
def z0ep (b:Sl):Prog :=
Aa (decide ((Ak b)<8)) (
Ab 0 [.slice none 0 0,Ac 0,.bool false])<|
BB F.a46 [b.v] λn0=>
BC n0 λn1=>
Aa (decide (n1>262144) || decide (Av n1>Av ((Ak b)-8))) (
Ab 0 [.slice none 0 0,Ac 0,.bool false])<|
Al (Av (Av n1+4)) λn2=>
AB 1 (
AC<|
.must (0<=n2/\n2<=(Ak b)) <|
.must (0<=n2/\n2<=((b.cap:Nat):Int)) <|
.both (
BB F.a46 [.slice (z0k b.a 1 (Int.toNat n2) b.cap) (b.len-Int.toNat n2) (b.cap-Int.toNat n2)] λn3=>
Bc (Instr.buildSlice T.a49 1 #[(0,.slice b.a (Int.toNat n2) b.cap)]) λl4=>
BB F.a44 [l4.v] λn5=>
AE<|
Ab 1 [.bool (n3 != n5)]) <|
Bc (Instr.buildSlice T.a49 1 #[(0,.slice b.a (Int.toNat n2) b.cap)]) λl6=>
BB F.a46 [.slice (z0k b.a 1 (Int.toNat n2) b.cap) (b.len-Int.toNat n2) (b.cap-Int.toNat n2)] λn7=>
BB F.a44 [l6.v] λn8=>
AE<|
Ab 1 [.bool (n7 != n8)]) λb9=>
Aa b9 (
Ab 0 [.slice none 0 0,Ac 0,.bool false])<|
.must ((0:Int)<=4/\4<=n2/\n2<=((b.cap:Nat):Int)) <|
AO F.a0 [.slice (z0k b.a 1 4 b.cap) (Int.toNat n2-4) (b.cap-4)] λl10=>
Al (Av (n2+4)) λn11=>
Ab 0 [l10.v,Ac n11,.bool true]
theorem zyj (b:Sl):FnS (z0ep b) F.a40 #[.slice b.a b.len b.cap]:=dV ⟨[],[],[(7,[(34,.one .bool)])],[]⟩ Go.Proofs.Tryz.func232 (by kernel_rfl)
def z07h (body:Sl) (base:Int):Prog :=
B2 F.a215 [body.v] λp0=>
Am F.a216 [Ad p0] λn1=>
Bs F.a222 [Ad p0] λn2=>
Bs F.a222 [Ad p0] λn3=>
Al n1 λn4=>
AY n2 λn5=>
AY n3 λn6=>
Am F.a217 [Ad p0] λn7=>
Aa (n7 != 0 || n4 != 83 || n5 != IntKind.wrap .u64 base || decide (base>1099511627776) || decide (n6>1099511627776)) (
Ab 0 [Ac 0,.bool false])<|
Al (Av n6) λn8=>
Aj (n6 == 0 || decide (Av n6>base)) λb9=>
Ab 0 [Ac n8,.bool b9]
theorem zri (body:Sl) (base:Int):FnS (z07h body base) F.a128 #[.slice body.a body.len body.cap,.int .i64 base]:=dV ⟨[],[],[],[]⟩ Go.Proofs.Tryz.func233 (by kernel_rfl)
def z07c (l:Option Addr) (base:Int) (end_:Int):Prog :=
Ao l λa1=>
AR T.a13 (Addr.add a1 2) 1 λn2=>
BD F.a51 [Ac n2] λp3 n4=>
Al n4 λn5=>
AO F.a127 [Ac base,Ac end_] λl6=>
Af T.a56 (.agg #[Ad p3,Ac base,Ac end_,Ac 0,Ac (-1),Ac (Ak l6)]) λa7=>
Ab 0 [Ag a7]
theorem zrd (l:Option Addr) (base end_:Int):FnS (z07c l base end_) F.a123 #[.pointer l,.int .i64 base,.int .i64 end_]:=dV ⟨[],[],[],[]⟩ Go.Proofs.Tryz.func234 (by kernel_rfl)
def z0fu (raw:Sl):Prog :=
AH T.a0 λa0=>
AH T.a0 λa1=>
AK T.a0 a1 (.agg #[Ac 0,Ac 0,Ac 0,Ac 0,Ac 0,Ac 0,.slice none 0 0])<|
B2 F.a215 [raw.v] λp2=>
Am F.a216 [Ad p2] λn3=>
Aa (n3 != 1) (
Bx T.a0 a1 λn4 n5 n6 n7 n8 n9 l10=>
AK T.a0 a0 (Bw n4 n5 n6 n7 n8 n9 l10)<|
Bx T.a0 a0 λn11 n12 n13 n14 n15 n16 l17=>
Ab 0 [Bw n11 n12 n13 n14 n15 n16 l17,Ac 6])<|
Am F.a216 [Ad p2] λn18=>
Am F.a104 [Ad p2,Ac 1099511627776] λn19=>
Am F.a104 [Ad p2,Ac 1048576] λn20=>
AH T.a0 λa21=>
AK T.a0 a21 (.agg #[Ac n19,Ac n20,Ac 0,Ac 0,Ac n18,Ac 0,.slice none 0 0])<|
AR T.a14 a21 1 λn22=>
Az 1 (
Aa (decide (n22>0)) (
Am F.a104 [Ad p2,Ac 32767] λn23=>
AS T.a13 a21 2 (Ac n23)<|
Bx T.a0 a21 λn24 n25 n26 n27 n28 n29 l30=>
AA F.a99 [Bw n24 n25 n26 n27 n28 n29 l30] λb31=>
Az 2 (
Aa (not b31) (
Am F.a104 [Ad p2,Ac 2147483647] λn32=>
AS T.a13 a21 3 (Ac n32)<|
Ab 2 [])<|
Ab 2 [])<|
Ab 1 [])<|
Ab 1 [])<|
Am F.a104 [Ad p2,Ac 1099511627776] λn33=>
AS T.a14 a21 5 (Ac n33)<|
Am F.a218 [Ad p2] λn34=>
AD ((n34 != 0)=false) T.a14 a21 5 λn35=>
Aa (n34 != 0 || decide (n35>1099511627776)) (
Bx T.a0 a1 λn36 n37 n38 n39 n40 n41 l42=>
AK T.a0 a0 (Bw n36 n37 n38 n39 n40 n41 l42)<|
Bx T.a0 a0 λn43 n44 n45 n46 n47 n48 l49=>
Ab 0 [Bw n43 n44 n45 n46 n47 n48 l49,Ac 6])<|
Bx T.a0 a21 λn50 n51 n52 n53 n54 n55 l56=>
AA F.a99 [Bw n50 n51 n52 n53 n54 n55 l56] λb57=>
Az 1 (
Aa (not b57) (
Am F.a104 [Ad p2,Ac 64] λn58=>
Al n58 λn59=>
Aa (decide (n59>64)) (
Bx T.a0 a1 λn60 n61 n62 n63 n64 n65 l66=>
AK T.a0 a0 (Bw n60 n61 n62 n63 n64 n65 l66)<|
Bx T.a0 a0 λn67 n68 n69 n70 n71 n72 l73=>
Ab 0 [Bw n67 n68 n69 n70 n71 n72 l73,Ac 6])<|
Az 2 (
.loop 3 [.one .str,.one (.int .i64)] ((ByteArray.mk #[]),(0,())) (u2 λs74 (n75:Int)=>
Aa (decide (n75<n59)) (
AR T.a14 a21 5 λn76=>
.call F.a102 [Ad p2,Ac n76,.string s74] (.tup [.agg [.str,.str,.bool,.int .i64],.one .bool]) (u5 λs77 s78 b79 (n80:Int) b81=>
AH T.a2 λa82=>
AK T.a2 a82 (Bz s77 s78 b79 n80)<|
Aj b81 λb83=>
Aa (not b83) (
Bx T.a0 a1 λn84 n85 n86 n87 n88 n89 l90=>
AK T.a0 a0 (Bw n84 n85 n86 n87 n88 n89 l90)<|
Bx T.a0 a0 λn91 n92 n93 n94 n95 n96 l97=>
Ab 0 [Bw n91 n92 n93 n94 n95 n96 l97,Ac 6])<|
AN T.a42 a21 6 λl98=>
B0 T.a2 a82 λs99 s100 b101 n102=>
Bc (Instr.buildSlice T.a42 1 #[(0,Bz s99 s100 b101 n102)]) λl103=>
Bc (app T.a42 T.a42 T.a42 l98.v l103.v) λl104=>
AS T.a42 a21 6 l104.v<|
Bd T.a57 a82 0 λs105=>
Be s105 λs106=>
Ab 3 [.string s106,Ac (Av (n75+1))]))<|
Ab 2 []))<|
Ab 1 [])<|
Ab 1 [])<|
AB 1 (
Am F.a217 [Ad p2] λn107=>
B8 ((n107 != 0)=false) T.a0 a21 λn108 n109 n110 n111 n112 n113 l114=>
Aa (n107 != 0) (
Ab 1 [.bool true])<|
Am F.a96 [Bw n108 n109 n110 n111 n112 n113 l114] λn115=>
Ab 1 [.bool (n115 != 0)]) λb116=>
Aa b116 (
Bx T.a0 a1 λn117 n118 n119 n120 n121 n122 l123=>
AK T.a0 a0 (Bw n117 n118 n119 n120 n121 n122 l123)<|
Bx T.a0 a0 λn124 n125 n126 n127 n128 n129 l130=>
Ab 0 [Bw n124 n125 n126 n127 n128 n129 l130,Ac 6])<|
Bx T.a0 a21 λn131 n132 n133 n134 n135 n136 l137=>
AK T.a0 a0 (Bw n131 n132 n133 n134 n135 n136 l137)<|
Bx T.a0 a0 λn138 n139 n140 n141 n142 n143 l144=>
Ab 0 [Bw n138 n139 n140 n141 n142 n143 l144,Ac 0]
theorem zzp (raw:Sl):FnS (z0fu raw) F.a90 #[.slice raw.a raw.len raw.cap]:=dV ⟨[(985162418487330,[]),(1123700883587100,[]),(19807040591672596250983170100,[])],[(0,[])],[(27,[(89,.one .bool)])],[(0,[(8,.one .str),(59,.one (.int .i64))])]⟩ Go.Proofs.Tryz.func235 (by kernel_rfl)
def z07m (s:Option Addr) (b_0 b_1 b_2 b_3 b_4 b_5:Int) (b_6:Sl) (size:Int):Prog :=
Af T.a0 (Bw b_0 b_1 b_2 b_3 b_4 b_5 b_6) λa0=>
Bx T.a0 a0 λn1 n2 n3 n4 n5 n6 l7=>
Am F.a129 [Bw n1 n2 n3 n4 n5 n6 l7] λn8=>
Al n8 λn9=>
AC<|
Ao s λa11=>
Bq T.a31 a11 0 λp12=>
AR T.a14 a0 0 λn13=>
Ao s λa15=>
AR T.a13 a15 5 λn16=>
Am F.a49 [Ad p12,Ac n13,Ac n16,Ac n9] λn17=>
AE<|
Bx T.a0 a0 λn18 n19 n20 n21 n22 n23 l24=>
Am F.a94 [Bw n18 n19 n20 n21 n22 n23 l24] λn25=>
Ao s λa27=>
AS T.a14 a27 3 (Ac n25)<|
Ao s λa29=>
AR T.a14 a29 4 λn30=>
Ao s λa32=>
AS T.a14 a32 4 (Ac (if n9>n30 then n9 else n30))<|
Ao s λa34=>
AR T.a13 a34 5 λn35=>
Ao s λa37=>
AS T.a13 a37 5 (Ac (Av (n35+size)))<|
Ab 0 []
theorem zrn (s:Option Addr) (b_0 b_1 b_2 b_3 b_4 b_5:Int) (b_6:Sl) (size:Int):FnS (z07m s b_0 b_1 b_2 b_3 b_4 b_5 b_6 size) F.a133 #[.pointer s,.agg #[.int .i64 b_0,.int .i64 b_1,.int .i64 b_2,.int .i64 b_3,.int .i64 b_4,.int .i64 b_5,.slice b_6.a b_6.len b_6.cap],.int .i64 size]:=dV ⟨[],[],[],[]⟩ Go.Proofs.Tryz.func236 (by kernel_rfl)
def z07a (l:Option Addr) (s:Option Addr):Prog :=
Ao l λa1=>
AN T.a47 a1 4 λl2=>
Bc (Instr.buildSlice T.a47 1 #[(0,Ad s)]) λl3=>
Bc (app T.a47 T.a47 T.a47 l2.v l3.v) λl4=>
Ao l λa6=>
AS T.a47 a6 4 l4.v<|
Ab 0 []
theorem zrb (l s:Option Addr):FnS (z07a l s) F.a121 #[.pointer l,.pointer s]:=dV ⟨[],[],[],[]⟩ Go.Proofs.Tryz.func237 (by kernel_rfl)
def z095 (r:Option Addr) (lo:Int) (hi:Int):Prog :=
AA F.a224 [Ad r] λb0=>
Aa (not b0) (
Ab 0 [Ac 0])<|
Ao r λa2=>
AR T.a13 (Addr.add a2 0) 1 λn3=>
Al n3 λn4=>
Am F.a220 [Ad r] λn5=>
Al n5 λn6=>
Ao r λa8=>
AR T.a1 (Addr.add a8 0) 2 λn9=>
Az 1 (
Aa (n9 == 0 && (decide (n6<lo) || decide (n6>hi))) (
Ao r λa11=>
AS T.a13 (Addr.add a11 0) 1 (Ac n4)<|
Ao r λa13=>
An F.a227 [Ar a13 0,Ac 8]<|
Ab 1 [])<|
Ab 1 [])<|
Ao r λa15=>
AR T.a1 (Addr.add a15 0) 2 λn16=>
Aa (n16 != 0) (
Ab 0 [Ac 0])<|
Al n6 λn17=>
Ab 0 [Ac n17]
theorem zt9 (r:Option Addr) (lo hi:Int):FnS (z095 r lo hi) F.a223 #[.pointer r,.int .i64 lo,.int .i64 hi]:=dV ⟨[(71916856549572642,[])],[],[],[]⟩ Go.Proofs.Tryz.func240 (by kernel_rfl)
def z079 (l:Option Addr) (bs:Sl):Prog :=
Am F.a109 [Ad l] λn0=>
Al n0 λn1=>
.bind 1 [.one .slc,.one .slc] (
.loop 2 [.one (.int .i64),.one .slc,.one .slc,.one (.int .i64)] (n1,(⟨none,0,0⟩,(⟨none,0,0⟩,(0,())))) (u4 λ(n2:Int) l3 l4 (n5:Int)=>
Aa (decide (n5<(Ak bs))) (
.ex [.adr] (c1 λa6=>0<=n5/\n5<(Ak bs)/\bs.a=some a6) (u1 λa7=>
Bv T.a0 a7 (Int.toNat n5*7) λn8 n9 n10 n11 n12 n13 l14=>
AH T.a0 λa15=>
AK T.a0 a15 (Bw n8 n9 n10 n11 n12 n13 l14)<|
AS T.a14 a15 0 (Ac n2)<|
Bx T.a0 a15 λn16 n17 n18 n19 n20 n21 l22=>
Bo F.a91 [Bw n16 n17 n18 n19 n20 n21 l22] λl23 n24=>
Al n24 λn25=>
Aa (n25 != 0) (
Al n25 λn26=>
Ab 0 [.slice none 0 0,.slice none 0 0,Ac n26])<|
Bx T.a0 a15 λn27 n28 n29 n30 n31 n32 l33=>
Bc (Instr.buildSlice T.a41 1 #[(0,Bw n27 n28 n29 n30 n31 n32 l33)]) λl34=>
Bc (app T.a41 T.a41 T.a41 l3.v l34.v) λl35=>
Bc (Instr.buildSlice T.a49 1 #[(0,l23.v)]) λl36=>
AO F.a43 [l36.v] λl37=>
Bc (Instr.buildSlice T.a49 1 #[(0,l37.v)]) λl38=>
Bc (app T.a49 T.a49 T.a49 l4.v l38.v) λl39=>
Bx T.a0 a15 λn40 n41 n42 n43 n44 n45 l46=>
Am F.a94 [Bw n40 n41 n42 n43 n44 n45 l46] λn47=>
Al n47 λn48=>
Ab 2 [Ac n48,l35.v,l39.v,Ac (Av (n5+1))]))<|
Ab 1 [l3.v,l4.v])) (u2 λl49 l50=>
Ab 0 [l49.v,l50.v,Ac 0])
theorem zra (l:Option Addr) (bs:Sl):FnS (z079 l bs) F.a120 #[.pointer l,.slice bs.a bs.len bs.cap]:=dV ⟨[],[(0,[(8,.one .slc),(9,.one .slc)])],[],[(0,[(7,.one (.int .i64)),(8,.one .slc),(9,.one .slc),(18,.one (.int .i64))])]⟩ Go.Proofs.Tryz.func249 (by kernel_rfl)
def z076 (l:Option Addr) (n:Int):Prog :=
B2 F.a118 [Ad l] λp0=>
AC<|
Ah (not (Option.isNone p0)=true) p0 λa2=>
AD (not (Option.isNone p0)=true) T.a14 a2 3 λn3=>
Ah (not (Option.isNone p0)=true/\(n3 == 0)=false) p0 λa5=>
AD (not (Option.isNone p0)=true/\(n3 == 0)=false) T.a13 a5 5 λn6=>
Ah (not (Option.isNone p0)=true/\(n3 == 0)=false) l λa8=>
AD (not (Option.isNone p0)=true/\(n3 == 0)=false) T.a13 (Addr.add a8 2) 0 λn9=>
Aj (not (Option.isNone p0) && (n3 == 0 || decide (Av (n6+n)<=n9))) λb10=>
AE<|
Ab 0 [.bool b10]
theorem zr7 (l:Option Addr) (n:Int):FnS (z076 l n) F.a117 #[.pointer l,.int .i64 n]:=dV ⟨[],[],[],[]⟩ Go.Proofs.Tryz.func250 (by kernel_rfl)
def z07g (base:Int) (end_:Int):Prog :=
Bc (Instr.buildSlice T.a53 1 #[(0,.int .u8 83)]) λl0=>
AO F.a226 [.int .u64 (IntKind.wrap .u64 base)] λl1=>
AO F.a226 [.int .u64 (IntKind.wrap .u64 end_)] λl2=>
Bc (Instr.buildSlice T.a49 3 #[(0,l0.v),(1,l1.v),(2,l2.v)]) λl3=>
AO F.a43 [l3.v] λl4=>
Ab 0 [l4.v]
theorem zrh (base end_:Int):FnS (z07g base end_) F.a127 #[.int .i64 base,.int .i64 end_]:=dV ⟨[],[],[],[]⟩ Go.Proofs.Tryz.func252 (by kernel_rfl)
def z0ew (x:Option Addr) (offset:Int):Prog :=
Af T.a31 (Ad x) λa0=>
Af T.a14 (Ac offset) λa1=>
AH T.a10 λa2=>
Bt T.a31 a0 λp3=>
Aa (Option.isNone p3) (
AK T.a10 a2 (B9 0 0 0)<|
BE T.a10 a2 λn4 n5 n6=>
Ab 0 [B9 n4 n5 n6,.bool false])<|
AB 1 (
AC<|
.hold True (ld T.a31 a0) sP (u1 λp7=>
Bt T.a31 a0 λp8=>
Ao p8 λa10=>
AN T.a43 a10 4 λl11=>
Am F.a177 [Ac (Ak l11),.func (Fn.func 304) #[] #[Ag a0,Ag a1]] λn12=>
AE<|
.call F.a50 [Ad p7,Ac (Av (n12-1))] (.tup [.agg [.int .i64,.int .i64,.int .i64],.one .bool]) (u4 λ(n13 n14 n15:Int) b16=>
AK T.a10 a2 (B9 n13 n14 n15)<|
Aj b16 λb17=>
AE<|
Ab 1 [.bool b17]))) λb18=>
BE T.a10 a2 λn19 n20 n21=>
Ab 0 [B9 n19 n20 n21,.bool b18]
theorem zyq (x:Option Addr) (offset:Int):FnS (z0ew x offset) F.a47 #[.pointer x,.int .i64 offset]:=dV ⟨[],[],[(3,[(5,.one .bool)])],[]⟩ Go.Proofs.Tryz.func255 (by kernel_rfl)
def z06q (b_0 b_1 b_2 b_3 b_4 b_5:Int) (b_6:Sl) (from_:Int) (to_:Int):Prog :=
Af T.a0 (Bw b_0 b_1 b_2 b_3 b_4 b_5 b_6) λa0=>
AH T.a0 λa1=>
Bx T.a0 a0 λn2 n3 n4 n5 n6 n7 l8=>
AH T.a0 λa9=>
AK T.a0 a9 (Bw n2 n3 n4 n5 n6 n7 l8)<|
AN T.a42 a0 6 λl10=>
.must (0<=from_/\from_<=to_/\to_<=((l10.cap:Nat):Int)) <|
Bc (app T.a42 T.a42 T.a42 (.slice none 0 0) (.slice (z0k l10.a 4 (Int.toNat from_) l10.cap) (Int.toNat to_-Int.toNat from_) (l10.cap-Int.toNat from_))) λl11=>
AS T.a42 a9 6 l11.v<|
AR T.a14 a9 0 λn12=>
AS T.a14 a9 0 (Ac (Av (n12+from_)))<|
AR T.a14 a9 1 λn13=>
Az 1 (
Aa (decide (n13>0)) (
AR T.a13 a9 3 λn14=>
AS T.a13 a9 3 (Ac (Av (n14+from_)))<|
Ab 1 [])<|
Ab 1 [])<|
Bx T.a0 a9 λn15 n16 n17 n18 n19 n20 l21=>
AK T.a0 a1 (Bw n15 n16 n17 n18 n19 n20 l21)<|
Bx T.a0 a1 λn22 n23 n24 n25 n26 n27 l28=>
Ab 0 [Bw n22 n23 n24 n25 n26 n27 l28]
theorem zqr (b_0 b_1 b_2 b_3 b_4 b_5:Int) (b_6:Sl) (from_ to_:Int):FnS (z06q b_0 b_1 b_2 b_3 b_4 b_5 b_6 from_ to_) F.a101 #[.agg #[.int .i64 b_0,.int .i64 b_1,.int .i64 b_2,.int .i64 b_3,.int .i64 b_4,.int .i64 b_5,.slice b_6.a b_6.len b_6.cap],.int .i64 from_,.int .i64 to_]:=dV ⟨[(2130303778839,[])],[],[],[]⟩ Go.Proofs.Tryz.func256 (by kernel_rfl)
def z06p (b_0 b_1 b_2 b_3 b_4 b_5:Int) (b_6:Sl):Prog :=
Af T.a0 (Bw b_0 b_1 b_2 b_3 b_4 b_5 b_6) λa0=>
AB 1 (
AR T.a13 a0 4 λn1=>
AD (decide (n1>=0)=true) T.a13 a0 4 λn2=>
AD ((decide (n1>=0) && decide (n2<=3))=true) T.a14 a0 0 λn3=>
Aa (decide (n1>=0) && decide (n2<=3)) (
AA F.a105 [Ac n3,Ac 0,Ac 1099511627776] λb4=>
AD (b4=true) T.a14 a0 1 λn5=>
Aa b4 (
AA F.a105 [Ac n5,Ac 0,Ac 1048576] λb6=>
AD (b6=true) T.a13 a0 2 λn7=>
AD ((b6 && decide (n7>=0))=true) T.a13 a0 2 λn8=>
AD ((b6 && decide (n7>=0) && decide (n8<=32767))=true) T.a13 a0 3 λn9=>
AD ((b6 && decide (n7>=0) && decide (n8<=32767) && decide (n9>=0))=true) T.a13 a0 3 λn10=>
AD ((b6 && decide (n7>=0) && decide (n8<=32767) && decide (n9>=0) && decide (n10<=2147483647))=true) T.a14 a0 5 λn11=>
Aa (b6 && decide (n7>=0) && decide (n8<=32767) && decide (n9>=0) && decide (n10<=2147483647)) (
AA F.a105 [Ac n11,Ac 0,Ac 1099511627776] λb12=>
Aj b12 λb13=>
Ab 1 [.bool b13])<|
Ab 1 [.bool false])<|
Ab 1 [.bool false])<|
Ab 1 [.bool false]) λb14=>
Ab 0 [.bool b14]
theorem zqq (b_0 b_1 b_2 b_3 b_4 b_5:Int) (b_6:Sl):FnS (z06p b_0 b_1 b_2 b_3 b_4 b_5 b_6) F.a100 #[.agg #[.int .i64 b_0,.int .i64 b_1,.int .i64 b_2,.int .i64 b_3,.int .i64 b_4,.int .i64 b_5,.slice b_6.a b_6.len b_6.cap]]:=dV ⟨[],[],[(1,[(2,.one .bool)])],[]⟩ Go.Proofs.Tryz.func261 (by kernel_rfl)
def z0g2 (b_0 b_1 b_2 b_3 b_4 b_5:Int) (b_6:Sl):Prog :=
Af T.a0 (Bw b_0 b_1 b_2 b_3 b_4 b_5 b_6) λa0=>
AR T.a14 a0 1 λn1=>
AD ((n1 == 0)=true) T.a13 a0 4 λn2=>
AD ((n1 == 0)=true/\(n2 != 0)=false) T.a13 a0 2 λn3=>
AD ((n1 == 0)=true/\(n2 != 0 || n3 != 0)=false) T.a13 a0 3 λn4=>
Aa (n1 == 0 && (n2 != 0 || n3 != 0 || n4 != 0)) (
Ab 0 [.bool false])<|
Bx T.a0 a0 λn5 n6 n7 n8 n9 n10 l11=>
AA F.a99 [Bw n5 n6 n7 n8 n9 n10 l11] λb12=>
Aa b12 (
AR T.a13 a0 3 λn13=>
AZ ((n13 == 0)=true) T.a42 a0 6 λl14=>
Aj (n13 == 0 && (Ak l14) == 0) λb15=>
Ab 0 [.bool b15])<|
AN T.a42 a0 6 λl16=>
Aj (decide ((Ak l16)>0)) λb17=>
Ab 0 [.bool b17]
theorem zzx (b_0 b_1 b_2 b_3 b_4 b_5:Int) (b_6:Sl):FnS (z0g2 b_0 b_1 b_2 b_3 b_4 b_5 b_6) F.a98 #[.agg #[.int .i64 b_0,.int .i64 b_1,.int .i64 b_2,.int .i64 b_3,.int .i64 b_4,.int .i64 b_5,.slice b_6.a b_6.len b_6.cap]]:=dV ⟨[],[],[],[]⟩ Go.Proofs.Tryz.func262 (by kernel_rfl)
def z06s (r_0 r_1:ByteArray) (r_2:Bool) (r_3:Int):Prog :=
Af T.a2 (Bz r_0 r_1 r_2 r_3) λa0=>
Bd T.a57 a0 0 λs1=>
BF (decide (((ByteArray.size s1:Nat):Int)>1024)=false) T.a57 a0 1 λs2=>
AP (decide (((ByteArray.size s1:Nat):Int)>1024) || decide (((ByteArray.size s2:Nat):Int)>1024)) (
Ab 0 [Ac 7])<|
AR T.a14 a0 3 λn4=>
AA F.a105 [Ac n4,Ac 0,Ac 1099511627776] λb5=>
Ai (not b5=false) T.a3 a0 2 λb6=>
BF (not b5=false/\b6=true) T.a57 a0 1 λs7=>
AP (not b5 || b6 && not (ByteArray.toList s7 == ByteArray.toList (ByteArray.mk #[]))) (
Ab 0 [Ac 2])<|
Ab 0 [Ac 0]
theorem zqt (r_0 r_1:ByteArray) (r_2:Bool) (r_3:Int):FnS (z06s r_0 r_1 r_2 r_3) F.a103 #[.agg #[.string r_0,.string r_1,.bool r_2,.int .i64 r_3]]:=dV ⟨[],[],[],[]⟩ Go.Proofs.Tryz.func263 (by kernel_rfl)
def z0ev (b:Sl):Prog :=
AC<|
.ex [.adr] (c1 λa0=>(0:Int)<=0/\0<(Ak b)/\b.a=some a0) (u1 λa1=>
Bg T.a63 a1 0 λn2=>
.ex [.adr] (c1 λa3=>(0:Int)<=1/\1<(Ak b)/\b.a=some a3) (u1 λa4=>
Bg T.a63 a4 1 λn5=>
.ex [.adr] (c1 λa6=>(0:Int)<=2/\2<(Ak b)/\b.a=some a6) (u1 λa7=>
Bg T.a63 a7 2 λn8=>
.ex [.adr] (c1 λa9=>(0:Int)<=3/\3<(Ak b)/\b.a=some a9) (u1 λa10=>
Bg T.a63 a10 3 λn11=>
BC (IntKind.wrap .u32 (((BitVec.toNat (BitVec.ofInt 32 (IntKind.wrap .u32 (((BitVec.toNat (BitVec.ofInt 32 (IntKind.wrap .u32 (((BitVec.toNat (BitVec.ofInt 32 (IntKind.wrap .u32 n2) ||| BitVec.ofInt 32 (IntKind.wrap .u32 (IntKind.wrap .u32 n5*256))):Nat):Int))) ||| BitVec.ofInt 32 (IntKind.wrap .u32 (IntKind.wrap .u32 n8*65536))):Nat):Int))) ||| BitVec.ofInt 32 (IntKind.wrap .u32 (IntKind.wrap .u32 n11*16777216))):Nat):Int))) λn12=>
AE<|
Ab 0 [.int .u32 n12]))))
theorem zyp (b:Sl):FnS (z0ev b) F.a46 #[.slice b.a b.len b.cap]:=dV ⟨[],[],[],[]⟩ Go.Proofs.Tryz.func284 (by kernel_rfl)
def z0et (parts:Sl):Prog :=
BB F.a41 [.int .u32 0,parts.v] λn0=>
BC n0 λn1=>
Ab 0 [.int .u32 n1]
theorem zyn (parts:Sl):FnS (z0et parts) F.a44 #[.slice parts.a parts.len parts.cap]:=dV ⟨[],[],[],[]⟩ Go.Proofs.Tryz.func285 (by kernel_rfl)
def z08y (r:Option Addr):Prog :=
AA F.a224 [Ad r] λb0=>
Aa (not b0) (
Ab 0 [Ac 0])<|
Ao r λa2=>
Am F.a228 [Ar a2 0] λn3=>
Aa (n3 == 0) (
Ao r λa5=>
An F.a227 [Ar a5 0,Ac 6]<|
Ab 0 [Ac 0])<|
Ao r λa7=>
AO F.a229 [Ar a7 0,Ac 1] λl8=>
.ex [.adr] (c1 λa9=>(0:Int)<=0/\0<(Ak l8)/\l8.a=some a9) (u1 λa10=>
Bg T.a63 a10 0 λn11=>
Al (Av n11) λn12=>
Ab 0 [Ac n12])
theorem zt2 (r:Option Addr):FnS (z08y r) F.a216 #[.pointer r]:=dV ⟨[],[],[],[]⟩ Go.Proofs.Tryz.func286 (by kernel_rfl)
def z0f0 (gap:Int):Prog :=
Aa (decide (gap<1) || decide (gap>4194304)) (
Ab 0 [Ad none,Ac 2])<|
Af T.a11 (.agg #[Ac (-1),Ac (-1),Ac (-1),Ac gap,.slice none 0 0]) λa0=>
Ab 0 [Ag a0,Ac 0]
theorem zyu (gap:Int):FnS (z0f0 gap) F.a51 #[.int .i64 gap]:=dV ⟨[],[],[],[]⟩ Go.Proofs.Tryz.func287 (by kernel_rfl)
def z06t (r:Option Addr) (most:Int):Prog :=
Bs F.a222 [Ad r] λn0=>
AY n0 λn1=>
Aa (decide (n1>IntKind.wrap .u64 most)) (
Al (Av (most+1)) λn2=>
Ab 0 [Ac n2])<|
Al (Av n1) λn3=>
Ab 0 [Ac n3]
theorem zqu (r:Option Addr) (most:Int):FnS (z06t r most) F.a104 #[.pointer r,.int .i64 most]:=dV ⟨[],[],[],[]⟩ Go.Proofs.Tryz.func288 (by kernel_rfl)
def z06r (r:Option Addr) (time:Int) (ahead:ByteArray):Prog :=
AH T.a2 λa0=>
Am F.a223 [Ad r,Ac (-1099511627776),Ac 1099511627776] λn1=>
Al n1 λn2=>
AA F.a219 [Ad r] λb3=>
AH T.a2 λa4=>
AK T.a2 a4 (.agg #[.string (ByteArray.mk #[]),.string (ByteArray.mk #[]),.bool b3,Ac (Av (time+n2))])<|
Am F.a104 [Ad r,Ac 1024] λn5=>
Al n5 λn6=>
Bp F.a221 [Ad r,Ac 1024] λs7=>
Be s7 λs8=>
Aa (decide (n6>((ByteArray.size ahead:Nat):Int))) (
B0 T.a2 a4 λs9 s10 b11 n12=>
AK T.a2 a0 (Bz s9 s10 b11 n12)<|
B0 T.a2 a0 λs13 s14 b15 n16=>
Ab 0 [Bz s13 s14 b15 n16,.bool false])<|
.must (0<=n6/\n6<=((ByteArray.size ahead:Nat):Int)) <|
.must (((ByteArray.size (ByteArray.extract ahead 0 (Int.toNat n6))+ByteArray.size s8:Nat):Int)<=9223372036854775807) <|
AS T.a57 a4 0 (.string (ByteArray.extract ahead 0 (Int.toNat n6)++s8))<|
AQ T.a3 a4 2 λb17=>
Az 1 (
Aa (not b17) (
Bp F.a221 [Ad r,Ac 1024] λs18=>
AS T.a57 a4 1 (.string s18)<|
Ab 1 [])<|
Ab 1 [])<|
AB 1 (
AC<|
.hold True (ld T.a2 a4) (sG [.str,.str,.bool,.int .i64]) (u4 λs19 s20 b21 (n22:Int)=>
Am F.a218 [Ad r] λn23=>
BF ((n23 == 0)=true) T.a57 a4 0 λs24=>
Aa (n23 == 0) (
Am F.a97 [.string ahead,.string s24] λn25=>
AE<|
AK T.a2 a0 (Bz s19 s20 b21 n22)<|
Aj (n25 == n6) λb26=>
AE<|
Ab 1 [.bool b26])<|
AE<|
AK T.a2 a0 (Bz s19 s20 b21 n22)<|
AE<|
Ab 1 [.bool false])) λb27=>
B0 T.a2 a0 λs28 s29 b30 n31=>
Ab 0 [Bz s28 s29 b30 n31,.bool b27]
theorem zqs (r:Option Addr) (time:Int) (ahead:ByteArray):FnS (z06r r time ahead) F.a102 #[.pointer r,.int .i64 time,.string ahead]:=dV ⟨[(7881299347898405,[])],[],[(10,[(7,.one .bool)])],[]⟩ Go.Proofs.Tryz.func289 (by kernel_rfl)
def z07i (b_0 b_1 b_2 b_3 b_4 b_5:Int) (b_6:Sl):Prog :=
Af T.a0 (Bw b_0 b_1 b_2 b_3 b_4 b_5 b_6) λa0=>
AN T.a42 a0 6 λl1=>
Aw 1 (
AU 2 (-1,(0,())) λn2 n3=>
Aa (decide (n3<(Ak l1))) (
.ex [.adr] (c1 λa4=>0<=n3/\n3<(Ak l1)/\l1.a=some a4) (u1 λa5=>
By T.a2 a5 (Int.toNat n3*4) λs6 s7 b8 n9=>
AH T.a2 λa10=>
AK T.a2 a10 (Bz s6 s7 b8 n9)<|
AR T.a14 a10 3 λn11=>
Al (if n11>n2 then n11 else n2) λn12=>
Ab 2 [Ac n12,Ac (Av (n3+1))]))<|
Ab 1 [Ac n2]) λn13=>
AN T.a42 a0 6 λl14=>
Aw 1 (
Aa ((Ak l14) == 0) (
AR T.a14 a0 5 λn15=>
Al n15 λn16=>
Ab 1 [Ac n16])<|
Ab 1 [Ac n13]) λn17=>
Al n17 λn18=>
Ab 0 [Ac n18]
theorem zrj (b_0 b_1 b_2 b_3 b_4 b_5:Int) (b_6:Sl):FnS (z07i b_0 b_1 b_2 b_3 b_4 b_5 b_6) F.a129 #[.agg #[.int .i64 b_0,.int .i64 b_1,.int .i64 b_2,.int .i64 b_3,.int .i64 b_4,.int .i64 b_5,.slice b_6.a b_6.len b_6.cap]]:=dV ⟨[(51539640341,[(3,.one (.int .i64))])],[(0,[(3,.one (.int .i64))])],[],[(0,[(3,.one (.int .i64)),(9,.one (.int .i64))])]⟩ Go.Proofs.Tryz.func290 (by kernel_rfl)
def z0ey (x:Option Addr) (offset place:Int) (time:Int):Prog :=
AP (Option.isNone x) (
Ab 0 [Ac 1])<|
AA F.a52 [Ac offset,Ac place,Ac time] λb1=>
AP (not b1) (
Ab 0 [Ac 2])<|
Ao x λa4=>
AR T.a14 (Addr.add a4 0) 0 λn5=>
Ah (decide (offset<=n5)=false) x λa7=>
AD (decide (offset<=n5)=false) T.a13 (Addr.add a7 0) 1 λn8=>
AP (decide (offset<=n5) || decide (place<=n8)) (
Ab 0 [Ac 21])<|
Ao x λa11=>
AN T.a43 a11 4 λl12=>
Al (Ak l12) λn13=>
AC<|
Ah ((n13 == 0)=false) x λa15=>
AZ ((n13 == 0)=false) T.a43 a15 4 λl16=>
.ex [.adr] (c1 λa17=>(n13 == 0)=false->0<=Av (n13-1)/\Av (n13-1)<(Ak l16)/\l16.a=some a17) (u1 λa18=>
AD ((n13 == 0)=false) T.a13 (Addr.add a18 (Int.toNat (Av (n13-1))*3)) 1 λn19=>
Ah ((n13 == 0)=false) x λa21=>
AD ((n13 == 0)=false) T.a13 a21 3 λn22=>
AE<|
Az 1 (
Aa (n13 == 0 || decide (Av (place-n19)>=n22)) (
Bf 2 (
AC<|
Ao x λa24=>
BG T.a43 a24 4 λl25=>
Ao x λa27=>
AR T.a14 (Addr.add a27 0) 2 λn28=>
Bc (Instr.buildSlice T.a43 1 #[(0,B9 offset place n28)]) λl29=>
AE<|
Bc (app T.a43 T.a43 T.a43 l25.v l29.v) λl30=>
AE<|
Ab 2 [l30.v]) λl31=>
Ao x λa33=>
AS T.a43 a33 4 l31.v<|
Ab 1 [])<|
Ab 1 [])<|
Ao x λa35=>
AR T.a14 (Addr.add a35 0) 2 λn36=>
Ao x λa38=>
AS T.a12 a38 0 (.agg #[Ac offset,Ac place,Ac (if time>n36 then time else n36)])<|
Ab 0 [Ac 0])
theorem zys (x:Option Addr) (offset place time:Int):FnS (z0ey x offset place time) F.a49 #[.pointer x,.int .i64 offset,.int .i64 place,.int .i64 time]:=dV ⟨[(4951741267675589621019836477,[])],[],[(9,[(10,.one .slc)])],[]⟩ Go.Proofs.Tryz.func291 (by kernel_rfl)
def z092 (r:Option Addr):Prog :=
Bs F.a222 [Ad r] λn0=>
AY n0 λn1=>
Al (Av (((BitVec.toNat (BitVec.ofInt 64 (Av (Int.fdiv n1 2)) ^^^ BitVec.ofInt 64 (Av (0-Av (IntKind.wrap .u64 (((BitVec.toNat (BitVec.ofInt 64 n1 &&& BitVec.ofInt 64 1):Nat):Int)))))):Nat):Int))) λn2=>
Ab 0 [Ac n2]
theorem zt6 (r:Option Addr):FnS (z092 r) F.a220 #[.pointer r]:=dV ⟨[],[],[],[]⟩ Go.Proofs.Tryz.func292 (by kernel_rfl)
def z0fv (b_0 b_1 b_2 b_3 b_4 b_5:Int) (b_6:Sl):Prog :=
Af T.a0 (Bw b_0 b_1 b_2 b_3 b_4 b_5 b_6) λa0=>
Bx T.a0 a0 λn1 n2 n3 n4 n5 n6 l7=>
Am F.a96 [Bw n1 n2 n3 n4 n5 n6 l7] λn8=>
Al n8 λn9=>
Aa (n9 != 0) (
Al n9 λn10=>
Ab 0 [.slice none 0 0,Ac n10])<|
Bf 1 (
AC<|
B1 T.a13 a0 4 λn11=>
B1 T.a14 a0 0 λn12=>
B1 T.a14 a0 1 λn13=>
.both (
Bc (Instr.buildSlice T.a53 2 #[(0,.int .u8 1),(1,.int .u8 (IntKind.wrap .u8 n11))]) λl14=>
AO F.a226 [.int .u64 (IntKind.wrap .u64 n12)] λl15=>
AO F.a226 [.int .u64 (IntKind.wrap .u64 n13)] λl16=>
AE<|
Bc (Instr.buildSlice T.a49 3 #[(0,l14.v),(1,l15.v),(2,l16.v)]) λl17=>
AO F.a214 [l17.v] λl18=>
AE<|
Ab 1 [l18.v]) <|
AO F.a226 [.int .u64 (IntKind.wrap .u64 n12)] λl19=>
.both (
Bc (Instr.buildSlice T.a53 2 #[(0,.int .u8 1),(1,.int .u8 (IntKind.wrap .u8 n11))]) λl20=>
AO F.a226 [.int .u64 (IntKind.wrap .u64 n13)] λl21=>
AE<|
Bc (Instr.buildSlice T.a49 3 #[(0,l20.v),(1,l19.v),(2,l21.v)]) λl22=>
AO F.a214 [l22.v] λl23=>
AE<|
Ab 1 [l23.v]) <|
AO F.a226 [.int .u64 (IntKind.wrap .u64 n13)] λl24=>
Bc (Instr.buildSlice T.a53 2 #[(0,.int .u8 1),(1,.int .u8 (IntKind.wrap .u8 n11))]) λl25=>
AE<|
Bc (Instr.buildSlice T.a49 3 #[(0,l25.v),(1,l19.v),(2,l24.v)]) λl26=>
AO F.a214 [l26.v] λl27=>
AE<|
Ab 1 [l27.v]) λl28=>
AR T.a14 a0 1 λn29=>
Bf 1 (
Aa (decide (n29>0)) (
AR T.a13 a0 2 λn30=>
AO F.a226 [.int .u64 (IntKind.wrap .u64 n30)] λl31=>
Bc (app T.a53 T.a53 T.a53 l28.v l31.v) λl32=>
Bx T.a0 a0 λn33 n34 n35 n36 n37 n38 l39=>
AA F.a99 [Bw n33 n34 n35 n36 n37 n38 l39] λb40=>
Bf 2 (
Aa (not b40) (
AR T.a13 a0 3 λn41=>
AO F.a226 [.int .u64 (IntKind.wrap .u64 n41)] λl42=>
Bc (app T.a53 T.a53 T.a53 l32.v l42.v) λl43=>
Ab 2 [l43.v])<|
Ab 2 [l32.v]) λl44=>
Ab 1 [l44.v])<|
Ab 1 [l28.v]) λl45=>
AR T.a14 a0 5 λn46=>
AO F.a226 [.int .u64 (IntKind.wrap .u64 n46)] λl47=>
Bc (app T.a53 T.a53 T.a53 l45.v l47.v) λl48=>
Bx T.a0 a0 λn49 n50 n51 n52 n53 n54 l55=>
AA F.a99 [Bw n49 n50 n51 n52 n53 n54 l55] λb56=>
Aa b56 (
Ab 0 [l48.v,Ac 0])<|
AN T.a42 a0 6 λl57=>
AO F.a226 [.int .u64 (IntKind.wrap .u64 (Ak l57))] λl58=>
Bc (app T.a53 T.a53 T.a53 l48.v l58.v) λl59=>
AN T.a42 a0 6 λl60=>
Bf 1 (
.loop 2 [.one .slc,.one .str,.one (.int .i64)] ({ a:=l59.a,len:=l59.len,cap:=l59.cap },((ByteArray.mk #[]),(0,()))) (u3 λl61 s62 (n63:Int)=>
Aa (decide (n63<(Ak l60))) (
.ex [.adr] (c1 λa64=>0<=n63/\n63<(Ak l60)/\l60.a=some a64) (u1 λa65=>
By T.a2 a65 (Int.toNat n63*4) λs66 s67 b68 n69=>
AH T.a2 λa70=>
AK T.a2 a70 (Bz s66 s67 b68 n69)<|
Bd T.a57 a70 0 λs71=>
Am F.a97 [.string s62,.string s71] λn72=>
Al n72 λn73=>
Bf 3 (
AC<|
AR T.a14 a70 3 λn74=>
AR T.a14 a0 5 λn75=>
.hold True (ld T.a3 (Addr.add a70 2)) sB (u1 λb76=>
.hold True (ld T.a57 (Addr.add a70 0)) sS (u1 λs77=>
.must (0<=n73/\n73<=((ByteArray.size s77:Nat):Int)) <|
AO F.a213 [Ac (Av (n74-n75))] λl78=>
AO F.a212 [.bool b76] λl79=>
AO F.a226 [.int .u64 (IntKind.wrap .u64 n73)] λl80=>
AE<|
AO F.a225 [.string (ByteArray.extract s77 (Int.toNat n73) (ByteArray.size s77))] λl81=>
Bc (Instr.buildSlice T.a49 4 #[(0,l78.v),(1,l79.v),(2,l80.v),(3,l81.v)]) λl82=>
AO F.a214 [l82.v] λl83=>
Bc (app T.a53 T.a53 T.a53 l61.v l83.v) λl84=>
AE<|
Ab 3 [l84.v]))) λl85=>
AQ T.a3 a70 2 λb86=>
Bf 3 (
Aa (not b86) (
Bd T.a57 a70 1 λs87=>
AO F.a225 [.string s87] λl88=>
Bc (app T.a53 T.a53 T.a53 l85.v l88.v) λl89=>
Ab 3 [l89.v])<|
Ab 3 [l85.v]) λl90=>
Bd T.a57 a70 0 λs91=>
Be s91 λs92=>
Ab 2 [l90.v,.string s92,Ac (Av (n63+1))]))<|
Ab 1 [l61.v])) λl93=>
Ab 0 [l93.v,Ac 0]
theorem zzq (b_0 b_1 b_2 b_3 b_4 b_5:Int) (b_6:Sl):FnS (z0fv b_0 b_1 b_2 b_3 b_4 b_5 b_6) F.a91 #[.agg #[.int .i64 b_0,.int .i64 b_1,.int .i64 b_2,.int .i64 b_3,.int .i64 b_4,.int .i64 b_5,.slice b_6.a b_6.len b_6.cap]]:=dV ⟨[(567453553048813608,[(5,.one .slc)]),(576443160117510175,[(5,.one .slc)]),(40240300653644914121111346551586913,[(5,.one .slc)])],[(0,[(5,.one .slc)])],[(4,[(5,.one .slc)]),(18,[(5,.one .slc)])],[(0,[(5,.one .slc),(6,.one .str),(66,.one (.int .i64))])]⟩ Go.Proofs.Tryz.func299 (by kernel_rfl)
def z0es (parts:Sl):Prog :=
Aw 1 (
AU 2 (0,(0,())) λn0 n1=>
Aa (decide (n1<(Ak parts))) (
.ex [.adr] (c1 λa2=>0<=n1/\n1<(Ak parts)/\parts.a=some a2) (u1 λa3=>
AN T.a53 a3 (Int.toNat n1*1) λl4=>
Al (Av (n0+(Ak l4))) λn5=>
Aa (decide (n5>262144)) (
Ab 0 [.slice none 0 0])<|
Ab 2 [Ac n5,Ac (Av (n1+1))]))<|
Ab 1 [Ac n0]) λn6=>
Bc (Instr.makeSlice T.a53 (Ac 0) (Ac (Av (n6+8)))) λl7=>
AO F.a45 [.int .u32 (IntKind.wrap .u32 n6)] λl8=>
Bc (app T.a53 T.a53 T.a53 l7.v l8.v) λl9=>
Bf 1 (
Br 2 ({ a:=l9.a,len:=l9.len,cap:=l9.cap },(0,())) λl10 n11=>
Aa (decide (n11<(Ak parts))) (
.ex [.adr] (c1 λa12=>0<=n11/\n11<(Ak parts)/\parts.a=some a12) (u1 λa13=>
AN T.a53 a13 (Int.toNat n11*1) λl14=>
Bc (app T.a53 T.a53 T.a53 l10.v l14.v) λl15=>
Ab 2 [l15.v,Ac (Av (n11+1))]))<|
Ab 1 [l10.v]) λl16=>
Bc (Instr.buildSlice T.a49 1 #[(0,l16.v)]) λl17=>
BB F.a44 [l17.v] λn18=>
AO F.a45 [.int .u32 n18] λl19=>
Bc (app T.a53 T.a53 T.a53 l16.v l19.v) λl20=>
Ab 0 [l20.v]
theorem zym (parts:Sl):FnS (z0es parts) F.a43 #[.slice parts.a parts.len parts.cap]:=dV ⟨[],[(0,[(3,.one (.int .i64))]),(2,[(6,.one .slc)])],[],[(0,[(3,.one (.int .i64)),(11,.one (.int .i64))]),(2,[(6,.one .slc),(32,.one (.int .i64))])]⟩ Go.Proofs.Tryz.func300 (by kernel_rfl)
def z0ez (x:Option Addr) (i:Int):Prog :=
AH T.a10 λa0=>
Aa (decide (i<0)) (
AK T.a10 a0 (B9 0 0 0)<|
BE T.a10 a0 λn1 n2 n3=>
Ab 0 [B9 n1 n2 n3,.bool false])<|
Ao x λa5=>
AN T.a43 a5 4 λl6=>
.ex [.adr] (c1 λa7=>0<=i/\i<(Ak l6)/\l6.a=some a7) (u1 λa8=>
.read True (ld T.a10 (Addr.add a8 (Int.toNat i*3))) (sG [.int .i64,.int .i64,.int .i64]) (u3 λ(n9 n10 n11:Int)=>
AK T.a10 a0 (B9 n9 n10 n11)<|
BE T.a10 a0 λn12 n13 n14=>
Ab 0 [B9 n12 n13 n14,.bool true]))
theorem zyt (x:Option Addr) (i:Int):FnS (z0ez x i) F.a50 #[.pointer x,.int .i64 i]:=dV ⟨[],[],[],[]⟩ Go.Proofs.Tryz.func303 (by kernel_rfl)
def z0ex (i:Int) (fv0:Option Addr) (fv1:Option Addr):Prog :=
AC<|
B6 T.a31 fv0 λp0=>
Ao p0 λa2=>
AN T.a43 a2 4 λl3=>
.ex [.adr] (c1 λa4=>0<=i/\i<(Ak l3)/\l3.a=some a4) (u1 λa5=>
AR T.a14 (Addr.add a5 (Int.toNat i*3)) 0 λn6=>
B7 T.a14 fv1 λn7=>
Aj (decide (n6>n7)) λb8=>
AE<|
Ab 0 [.bool b8])
theorem zyr (i:Int) (fv0 fv1:Option Addr):FnS (z0ex i fv0 fv1) F.a48 #[.int .i64 i,.pointer fv0,.pointer fv1]:=dV ⟨[],[],[],[]⟩ Go.Proofs.Tryz.func304 (by kernel_rfl)
def z06u (n lo:Int) (hi:Int):Prog :=
Aj (decide (n>=lo) && decide (n<=hi)) λb0=>
Ab 0 [.bool b0]
theorem zqv (n lo hi:Int):FnS (z06u n lo hi) F.a105 #[.int .i64 n,.int .i64 lo,.int .i64 hi]:=dV ⟨[],[],[],[]⟩ Go.Proofs.Tryz.func307 (by kernel_rfl)
def z0eq (sum:Int) (parts:Sl):Prog :=
BC (IntKind.wrap .u32 (((BitVec.toNat (BitVec.ofInt 32 4294967295 ^^^ BitVec.ofInt 32 sum):Nat):Int))) λn0=>
BH 1 (
BI 2 (n0,(0,())) λn1 n2=>
Aa (decide (n2<(Ak parts))) (
BH 3 (
.ex [.adr] (c1 λa3=>0<=n2/\n2<(Ak parts)/\parts.a=some a3) (u1 λa4=>
AN T.a53 a4 (Int.toNat n2*1) λl5=>
BH 4 (
BI 5 (n1,(0,())) λn6 n7=>
Aa (decide (n7<(Ak l5))) (
BH 6 (
.ex [.adr] (c1 λa8=>0<=n7/\n7<(Ak l5)/\l5.a=some a8) (u1 λa9=>
Bg T.a63 a9 (Int.toNat n7*1) λn10=>
Bh n10 λn11=>
BC (IntKind.wrap .u32 (((BitVec.toNat (BitVec.ofInt 32 n6 ^^^ BitVec.ofInt 32 (IntKind.wrap .u32 n11)):Nat):Int))) λn12=>
BH 7 (
BI 8 (n12,(0,())) λn13 n14=>
Aa (decide (n14<8)) (
BC (IntKind.wrap .u32 (((BitVec.toNat (BitVec.ofInt 32 (Int.fdiv n13 2) ^^^ BitVec.ofInt 32 (IntKind.wrap .u32 (((BitVec.toNat (BitVec.ofInt 32 3988292384 &&& BitVec.ofInt 32 (IntKind.wrap .u32 (0-IntKind.wrap .u32 (((BitVec.toNat (BitVec.ofInt 32 n13 &&& BitVec.ofInt 32 1):Nat):Int))))):Nat):Int)))):Nat):Int))) λn15=>
Ab 8 [.int .u32 n15,Ac (Av (n14+1))])<|
Ab 7 [.int .u32 n13]) λn16=>
Ab 6 [.int .u32 n16])) λn17=>
Ab 5 [.int .u32 n17,Ac (Av (n7+1))])<|
Ab 4 [.int .u32 n6]) λn18=>
Ab 3 [.int .u32 n18])) λn19=>
Ab 2 [.int .u32 n19,Ac (Av (n2+1))])<|
Ab 1 [.int .u32 n1]) λn20=>
BC (IntKind.wrap .u32 (((BitVec.toNat (BitVec.ofInt 32 4294967295 ^^^ BitVec.ofInt 32 n20):Nat):Int))) λn21=>
Ab 0 [.int .u32 n21]
theorem zyk (sum:Int) (parts:Sl):FnS (z0eq sum parts) F.a41 #[.int .u32 sum,.slice parts.a parts.len parts.cap]:=dV ⟨[],[(0,[(5,.one (.int .u32))]),(1,[(5,.one (.int .u32))]),(2,[(5,.one (.int .u32))]),(3,[(5,.one (.int .u32))]),(4,[(5,.one (.int .u32))])],[],[(0,[(5,.one (.int .u32)),(14,.one (.int .i64))]),(2,[(5,.one (.int .u32)),(20,.one (.int .i64))]),(4,[(5,.one (.int .u32)),(28,.one (.int .i64))])]⟩ Go.Proofs.Tryz.func316 (by kernel_rfl)
def z0g1 (a:ByteArray) (b:ByteArray):Prog :=
Al (if ((ByteArray.size b:Nat):Int)<((ByteArray.size a:Nat):Int) then ((ByteArray.size b:Nat):Int) else ((ByteArray.size a:Nat):Int)) λn0=>
Az 1 (
AW 2 (0,()) λn1=>
Aa (decide (n1<n0)) (
Al n1 λn2=>
AC<|
.must (0<=n2/\n2<((ByteArray.size a:Nat):Int)) <|
.must (0<=n2/\n2<((ByteArray.size b:Nat):Int)) <|
AE<|
Aa (bt a n2 != bt b n2) (
Al n2 λn3=>
Ab 0 [Ac n3])<|
Ab 2 [Ac (Av (n1+1))])<|
Ab 1 [])<|
Al n0 λn4=>
Ab 0 [Ac n4]
theorem zzw (a b:ByteArray):FnS (z0g1 a b) F.a97 #[.string a,.string b]:=dV ⟨[],[(0,[])],[],[(0,[(13,.one (.int .i64))])]⟩ Go.Proofs.Tryz.func317 (by kernel_rfl)
def z0f1 (offset place:Int) (time:Int):Prog :=
Aj (decide (offset>=0) && decide (offset<=1099511627776) && decide (place>=0) && decide (place<=4194304) && decide (time>=0) && decide (time<=1099511627776)) λb0=>
Ab 0 [.bool b0]
theorem zyv (offset place time:Int):FnS (z0f1 offset place time) F.a52 #[.int .i64 offset,.int .i64 place,.int .i64 time]:=dV ⟨[],[],[],[]⟩ Go.Proofs.Tryz.func318 (by kernel_rfl)
def z08v (n:Int):Prog :=
AO F.a226 [.int .u64 (IntKind.wrap .u64 (((BitVec.toNat (BitVec.ofInt 64 (IntKind.wrap .u64 (IntKind.wrap .u64 n*2)) ^^^ BitVec.ofInt 64 (IntKind.wrap .u64 (Int.fdiv n 9223372036854775808))):Nat):Int)))] λl0=>
Ab 0 [l0.v]
theorem zsz (n:Int):FnS (z08v n) F.a213 #[.int .i64 n]:=dV ⟨[],[],[],[]⟩ Go.Proofs.Tryz.func319 (by kernel_rfl)
def z097 (s:ByteArray):Prog :=
AO F.a226 [.int .u64 (IntKind.wrap .u64 (((ByteArray.size s:Nat):Int)))] λl0=>
Bc (app T.a53 T.a57 T.a53 l0.v (.string s)) λl1=>
Ab 0 [l1.v]
theorem ztb (s:ByteArray):FnS (z097 s) F.a225 #[.string s]:=dV ⟨[],[],[],[]⟩ Go.Proofs.Tryz.func320 (by kernel_rfl)
def z0eu (n:Int):Prog :=
Bc (Instr.buildSlice T.a53 4 #[(0,.int .u8 (IntKind.wrap .u8 n)),(1,.int .u8 (IntKind.wrap .u8 (Int.fdiv n 256))),(2,.int .u8 (IntKind.wrap .u8 (Int.fdiv n 65536))),(3,.int .u8 (IntKind.wrap .u8 (Int.fdiv n 16777216)))]) λl0=>
Ab 0 [l0.v]
theorem zyo (n:Int):FnS (z0eu n) F.a45 #[.int .u32 n]:=dV ⟨[],[],[],[]⟩ Go.Proofs.Tryz.func321 (by kernel_rfl)
end Go.Dec
