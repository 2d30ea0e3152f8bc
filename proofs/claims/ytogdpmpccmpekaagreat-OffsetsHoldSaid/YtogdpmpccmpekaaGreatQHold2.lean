/- What the claim of this folder leans on: our own texts, joined, without what it does not use. -/
import Derived.Test.YtogdpmpccmpekaaGreatQHold1
set_option linter.unusedVariables false
set_option linter.unusedSimpArgs false
namespace Go.Dec
theorem z04g {W w':World} {l:List HP} (hs:Sat w' (whole W::l)) (may:MemPlace->Prop):W.keptBut w' may:=by
 obtain ⟨h,ho,hu,hz⟩:=hs.of_whole
 refine ⟨ho,hu,λi hi=>?_⟩
 have hg:W.heap[i]? = some W.heap[i]:=by simp [hi]
 have hg':=h i _ hg
 rw [hg,hg']
 cases W.heap[i] with
 | cells c t fr=>exact ⟨rfl,rfl,rfl,λ_ _=>rfl⟩
 | map es c=>exact .inr ⟨rfl,rfl⟩
 | _=>rfl
section
open Go.ChangeShapes
variable {H:Type} {enc:TypeId × Value->H} {P:Program}
theorem z0ai {f:Func} {s:ChangeSpec} {apart fresh handsOn again:Bool} {W W':World} {args:Array Value} {v:Value} {ds gs:List (DataW H)} {before pa pv:List MemPlace} {l:List HP}
  (hW:DataW.Whole enc P f.params.toList s.vars apart W args.toList ds gs before) (hs:Sat W' (whole W::l))
  (hres:∀ (b:Nat) (sp:Nat->Bool) (hd:Bool),DataW.TrodAll enc P W' b sp hd f.resultTypes.toList (v.resultList f.resultTypes.size) (s.fn H (ds++gs)).results [])
  (hargs:∀ sp:Nat->Bool,(∀ p ∈ before,sp p.block=true)->DataW.TrodAll enc P W' 0 sp true f.params.toList args.toList (s.fn H (ds++gs)).args pa)
  (hvars:∀ sp:Nat->Bool,(∀ p ∈ before,sp p.block=true)->DataW.TrodVars enc P W' sp s.vars (s.fn H (ds++gs)).vars pv)
  (hps:before=pa++pv)
  (hok:∀ (j:Nat) (t:TypeId) (r:Value),f.resultTypes[j]? = some t->(v.resultList f.resultTypes.size)[j]? = some r->Value.okWide P W' .any 0 t r) :
  s.post enc P f apart fresh handsOn again W args v W':=by
 have hlt:=hW.lt
 have hz:=hs.of_whole.2.2.2
 have hkeep:=z04g hs
 refine ⟨ds,gs,before,[],pa,pv,hW,hres _ _ _,hargs _ λp hp=>decide_eq_true (hlt p hp),hvars _ λp hp=>decide_eq_true (hlt p hp),World.keptBut_mono (λp hp=>⟨hp,.inr (by rw [hps] at hp;exact List.mem_append.1 hp)⟩) (hkeep (· ∈ before)),λ_=>?_⟩
 obtain ⟨_,_,_,_,_,hfz,hnd⟩:=hW
 refine ⟨hok,_,_,([]++pa)++pv,⟨[]++pa,pv,trodAll_append (hargs _ λ_ _=>rfl) (hres _ _ _),hvars _ λ_ _=>rfl,rfl,λb off hp=>?_,λha=>?_⟩,λp hp _=>?_⟩
 ·have hmem:MemPlace.cell b off ∈ before:=by rw [hps];simpa using hp
  rw [hz _ (hlt _ hmem)]
  exact hfz b off hmem
 ·have:=hnd ha
  rw [hps] at this
  simpa using this
 ·rw [hps];simpa using hp
end
theorem z6b {α β:Type} {f g:α->Option β}:∀ {l:List α} {ys:List β},l.mapM f=some ys->(∀ a y,a ∈ l->y ∈ ys->f a=some y->g a=some y)->l.mapM g=some ys
 | [],ys,h,_=>by simpa using h
 | a::r,ys,h,hk=>by
  rw [List.mapM_cons] at h ⊢
  cases ha:f a with
  | none=>rw [ha] at h;cases h
  | some y =>
   rw [ha] at h
   cases hr:r.mapM f with
   | none=>rw [hr] at h;cases h
   | some zs =>
    rw [hr] at h
    obtain rfl:y::zs=ys:=by simpa using h
    rw [hk a y (List.mem_cons_self ..) (List.mem_cons_self ..) ha,z6b hr λb z hb hz hf=>hk b z (List.mem_cons_of_mem _ hb) (List.mem_cons_of_mem _ hz) hf]
    rfl
section
variable {H:Type} {enc:TypeId × Value->H} {P:Program} {W W':World} {base:Nat} {sp:Nat->Bool} {L:List TypeId}
theorem zvu (hb:∀ (b:Nat) (o:Obj),W.heap[b]? = some o->W'.heap[b]? = some o) {a:Addr} {v:Value} (h:W.cell? a=some v):W'.cell? a=some v:=by
 unfold World.cell? at h ⊢
 cases ho:W.heap[a.block]? with
 | none=>rw [ho] at h;cases h
 | some o=>rw [ho] at h;rw [hb _ _ ho];exact h
theorem zru (hb:∀ (b:Nat) (o:Obj),W.heap[b]? = some o->W'.heap[b]? = some o) {a:Addr} {n:Nat} {cs:List Value} (h:W.cells? base a n=some cs):W'.cells? base a n=some cs:=by
 unfold World.cells? at h ⊢
 split at h
 ·rename_i hc
  rw [if_pos hc]
  exact z6b h λi v _ _ hv=>zvu hb hv
 ·cases h
def zq0 (P:Program) (L:List TypeId):Bool:=L.all λt=>match P.underlying t with
 | some (.pointer e)=>L.any (Nat.beq e)
 | some (.slice e)=>L.any (Nat.beq e) && Nat.blt 0 (P.cellsOf e)
 | some (.array _ e)=>L.any (Nat.beq e)
 | some (.struct fs)=>fs.toList.all λf=>L.any (Nat.beq f.type)
 | some (.map _ e)=>L.any (Nat.beq e)
 | _=>true
theorem zm1 {L:List TypeId} {e:TypeId} (h:L.any (Nat.beq e)=true):e ∈ L:=by
 obtain ⟨x,hx,he⟩:=List.any_eq_true.1 h
 rwa [Nat.eq_of_beq_eq_true he]
theorem zk7 (hz:zq0 P L=true) (hb:∀ (b:Nat) (o:Obj),W.heap[b]? = some o->W'.heap[b]? = some o):∀ (fuel:Nat) (t:TypeId) (cs:List Value) (x:DataW H × List MemPlace),t ∈ L ->
  DataW.trod enc P W base (λ_=>true) true fuel t cs=some x->(∀ p ∈ x.2,sp p.block=true)->DataW.trod enc P W' base sp true fuel t cs=some x
 | 0,t,cs,x,ht,h,hp=>by simp [DataW.trod] at h
 | fuel+1,t,cs,x,ht,h,hp=>by
  have ih:=zk7 hz hb fuel
  have hk:=List.all_eq_true.1 hz t ht
  unfold DataW.trod at h ⊢
  have here:∀ {e:TypeId} {a:Addr} {n:Nat} {y:DataW H × List MemPlace},e ∈ L->(W.cells? base a n).bind (DataW.trod enc P W base (λ_=>true) true fuel e)=some y->(∀ p ∈ y.2,sp p.block=true) ->
    (W'.cells? base a n).bind (DataW.trod enc P W' base sp true fuel e)=some y:=λ{e a n y} he h hp=>by
   cases hc:W.cells? base a n with
   | none=>rw [hc] at h;cases h
   | some cs=>rw [hc] at h;rw [zru hb hc];exact ih e cs y he h hp
  split at h
  all_goals first|exact h|skip
  case h_6 =>
   rename_i e a hu
   rw [hu] at hk
   have he:e ∈ L:=zm1 hk
   cases hc:(W.cells? base a (P.cellsOf e)).bind (DataW.trod enc P W base (λ_=>true) true fuel e) with
   | none=>rw [hc] at h;cases h
   | some y =>
    rw [hc] at h
    obtain rfl:=Option.some.inj h
    rw [here he hc λp h=>hp p (List.mem_append_right _ h)]
    rfl
  case h_8 =>
   rename_i e a len cap hu
   rw [hu] at hk
   have hk:(L.any (Nat.beq e) && Nat.blt 0 (P.cellsOf e))=true:=hk
   rw [Bool.and_eq_true] at hk
   have he:e ∈ L:=zm1 hk.1
   dsimp only at h ⊢
   split at h
   ·rename_i hc
    rw [if_pos rfl] at h
    cases h1:(List.range len).mapM (λi=>(W.cells? base (a.add (i*P.cellsOf e)) (P.cellsOf e)).bind (DataW.trod enc P W base (λ_=>true) true fuel e)) with
    | none=>rw [h1] at h;cases h
    | some elems =>
     rw [h1] at h
     simp only [Option.bind_some] at h
     cases h2:(List.range (cap-len)).mapM (λj=>(W.cells? base (a.add ((len+j)*P.cellsOf e)) (P.cellsOf e)).bind (DataW.trod enc P W base (λ_=>true) true fuel e)) with
     | none=>rw [h2] at h;cases h
     | some rest =>
      rw [h2] at h
      obtain rfl:=Option.some.inj h
      have hin:∀ y,y ∈ elems++rest->∀ p ∈ y.2,sp p.block=true:=λy hy p hpy=>hp p (List.mem_append_right _ (List.mem_flatMap.2 ⟨y,hy,hpy⟩))
      rw [z6b h1 λi y _ hy hf=>here he hf (hin y (List.mem_append_left _ hy))]
      simp only [Option.bind_some]
      have hs:(if sp a.block=true then (List.range (cap-len)).mapM (λj=>(W'.cells? base (a.add ((len+j)*P.cellsOf e)) (P.cellsOf e)).bind (DataW.trod enc P W' base sp true fuel e)) else some [])=some rest:=by
       split
       ·exact z6b h2 λi y _ hy hf=>here he hf (hin y (List.mem_append_right _ hy))
       ·rename_i hsp
        cases hr:rest with
        | nil=>rfl
        | cons y r =>
         exfalso
         have hpos:0<P.cellsOf e:=Nat.le_of_ble_eq_true hk.2
         refine hsp (hp (.cell a.block (a.off+0)) (List.mem_append_left _ ?_))
         unfold MemPlace.row
         refine List.mem_map.2 ⟨0,List.mem_range.2 ?_,rfl⟩
         rw [hr]
         exact Nat.mul_pos (by rw [List.length_cons];omega) hpos
      rw [hs,if_pos hc]
      rfl
   ·cases h
  case h_9 =>
   rename_i fs hu
   rw [hu] at hk
   have hk:=List.all_eq_true.1 hk
   split at h
   ·rename_i hc
    rw [if_pos hc]
    obtain ⟨xs,h1,rfl⟩:=Option.map_eq_some_iff.1 h
    rw [z6b h1 λf y hf' hy hf=>ih _ _ y (zm1 (hk f hf')) hf λp hpy=>hp p (List.mem_flatMap.2 ⟨y,hy,hpy⟩)]
    rfl
   ·cases h
  case h_10 =>
   rename_i n e hu
   rw [hu] at hk
   split at h
   ·rename_i hc
    rw [if_pos hc]
    obtain ⟨xs,h1,rfl⟩:=Option.map_eq_some_iff.1 h
    rw [z6b h1 λf y _ hy hf=>ih _ _ y (zm1 hk) hf λp hpy=>hp p (List.mem_flatMap.2 ⟨y,hy,hpy⟩)]
    rfl
   ·cases h
  case h_14 =>
   rename_i b hu
   rw [hu] at hk
   cases ho:W.heap[b]? with
   | none=>rw [ho] at h;cases h
   | some o =>
    rw [hb _ _ ho]
    rw [ho] at h
    cases o with
    | map es clock =>
     dsimp only at h ⊢
     split at h
     ·rename_i hc
      rw [if_pos hc]
      obtain ⟨entries,h1,h⟩:=Option.bind_eq_some_iff.1 h
      split at h
      ·rename_i hr
       obtain rfl:=Option.some.inj h
       rw [z6b h1 λf y _ hy hf=>?_]
       ·simp only [Option.bind_some]
        rw [if_pos hr]
       ·obtain ⟨key,hkey,hf⟩:=Option.bind_eq_some_iff.1 hf
        rw [hkey]
        simp only [Option.bind_some]
        split at hf
        ·rename_i hfm
         rw [if_pos hfm]
         obtain ⟨z,hz',rfl⟩:=Option.map_eq_some_iff.1 hf
         rw [ih _ _ z (zm1 hk) hz' λp hpz=>hp p (List.mem_cons_of_mem _ (List.mem_flatMap.2 ⟨_,hy,hpz⟩))]
         rfl
        ·cases hf
      ·cases h
     ·cases h
    | _=>cases h
theorem zmz (hz:zq0 P L=true) (hb:∀ (b:Nat) (o:Obj),W.heap[b]? = some o->W'.heap[b]? = some o):∀ (ts:List TypeId) (vs:List Value) (ds:List (DataW H)) (ps:List MemPlace),(∀ t ∈ ts,t ∈ L) ->
  DataW.TrodAll enc P W base (λ_=>true) true ts vs ds ps->(∀ p ∈ ps,sp p.block=true)->DataW.TrodAll enc P W' base sp true ts vs ds ps
 | [],[],[],ps,_,h,_=>h
 | t::ts,v::vs,d::ds,ps,hL,⟨p,q,⟨fuel,h1⟩,h2,he⟩,hp=>by
  subst he
  exact ⟨p,q,⟨fuel,zk7 hz hb fuel t _ (d,p) (hL t (List.mem_cons_self ..)) h1 λx hx=>hp x (List.mem_append_left _ hx)⟩,zmz hz hb ts vs ds q (λt ht=>hL t (List.mem_cons_of_mem _ ht)) h2 λx hx=>hp x (List.mem_append_right _ hx),rfl⟩
 | [],[],_::_,_,_,h,_=>h.elim
 | [],_::_,_,_,_,h,_=>h.elim
 | _::_,[],_,_,_,h,_=>h.elim
 | _::_,_::_,[],_,_,h,_=>h.elim
end
open Go.ChangeShapes Go.WideShapes Go.RowKit
section
variable {H:Type} {enc:TypeId × Value->H} {P:Program} {w:World} {base:Nat} {sp:Nat->Bool} {held:Bool}
theorem z054 {W W':World} (hb:∀ (b:Nat) (o:Obj),W.heap[b]? = some o->W'.heap[b]? = some o) {sz:Nat} {x:Sl} {cs:List Value} (h:Rd W sz x cs):Rd W' sz x cs :=
 ⟨h.1,h.2.imp id λ⟨b,off,arr,T,fr,ha,h1,h2⟩=>⟨b,off,arr,T,fr,ha,hb _ _ h1,h2⟩⟩
end
open Go.ChangeShapes Go.WideShapes Go.RowKit Go.Deep
section
variable {H:Type} {enc:TypeId × Value->H} {P:Program} {w:World} {base:Nat} {spare:Nat->Bool} {held:Bool}
theorem z001 {a:Addr} {cs:List Value} {len cap sz:Nat} (hlen:cs.length=len*sz) (hpos:0<sz) (hcell:∀ i,i<cs.length->w.cell? (a.add i)=cs[i]?):Rd w sz ⟨some a,len,cap⟩ cs:=by
 refine ⟨hlen,?_⟩
 by_cases h0:len=0
 ·exact .inl h0
 ·right
  have hpos2:0<cs.length:=by rw [hlen];exact Nat.mul_pos (by omega) hpos
  have hc0:=hcell 0 hpos2
  obtain ⟨b,off,spot⟩:=a
  have e0:(Addr.mk b off spot).add 0=⟨b,off,spot⟩:=rfl
  rw [e0,List.getElem?_eq_getElem hpos2] at hc0
  unfold World.cell? at hc0
  dsimp only at hc0
  cases hb:w.heap[b]? with
  | none=>rw [hb] at hc0;cases hc0
  | some o =>
   rw [hb] at hc0
   cases o with
   | cells arr T fr =>
    dsimp only at hc0
    cases spot with
    | some x=>simp at hc0
    | none =>
     refine ⟨b,off,arr,T,fr,rfl,hb,λi hi=>?_⟩
     have hci:=hcell i hi
     rw [z2a,z37 hb] at hci
     rw [hci]
   | _=>cases hc0
end
open Go.ChangeShapes Go.WideShapes Go.RowKit Go.Deep
section
variable {H:Type} {enc:TypeId × Value->H} {P:Program} {w:World} {base:Nat} {spare:Nat->Bool} {held:Bool}
theorem zxn {α:Type} {encA:α->List Value} {good:α->Prop} {C:Nat} {t e:TypeId} {fuel:Nat} {v:Value} {y:DataW H × List MemPlace} (ht:P.underlying t=some (.slice e)) (hC:P.cellsOf e=C) (hpos:0<C)
  (hread:∀ (n:Nat) (cs:List Value) (y:DataW H × List MemPlace),cs.length=C->DataW.trod enc P w base spare held n e cs=some y->∃ o:α,cs=encA o/\good o)
  (hd:DataW.trod enc P w base spare held fuel t [v]=some y) :
  ∃ (x:Sl) (xs:List α),v=x.v/\x.len<=x.cap/\x.len=xs.length/\x.cap<=maxLen/\(∀ o ∈ xs,good o)/\Rd w C x (xs.flatMap encA):=by
 rcases DataW.trod_slice ht hd with ⟨hcs,-⟩|⟨a,len,cap,elems,rest,n,_,hcs,-,hb,hl,hm,hlen,hel,-,-⟩
 ·obtain rfl:v=.slice none 0 0:=by simpa using hcs
  exact ⟨⟨none,0,0⟩,[],rfl,Nat.le_refl _,rfl,Nat.zero_le _,(λo ho=>by cases ho),(Nat.zero_mul _).symm,.inl rfl⟩
 ·obtain rfl:v=.slice (some a) len cap:=by simpa using hcs
  have each:∀ i,i<len->∃ o:α,good o/\(encA o).length=C/\∀ j,j<C->w.cell? (a.add (i*C+j))=(encA o)[j]? := by
   intro i hi
   have h1:=hel i hi
   rw [List.getElem?_eq_getElem (by omega),Option.bind_eq_some_iff] at h1
   obtain ⟨cs',hc,ht'⟩:=h1
   rw [hC] at hc
   obtain ⟨_,hcl,hat⟩:=World.cells?_some hc
   obtain ⟨o,ho,hg⟩:=hread n cs' _ hcl ht'
   refine ⟨o,hg,by rw [<- ho];exact hcl,λj hj=>?_⟩
   rw [<- Go.Deep.add_add,hat j hj,ho]
  have hall:∀ k,k<=len->∃ xs:List α,xs.length=k/\(∀ o ∈ xs,good o)/\(xs.flatMap encA).length=k*C/\∀ i,i<k*C->w.cell? (a.add i)=(xs.flatMap encA)[i]? := by
   intro k
   induction k with
   | zero=>exact λ_=>⟨[],rfl,(λo ho=>by cases ho),by simp,λi hi=>by omega⟩
   | succ k ih =>
    intro hk
    obtain ⟨xs,h1,h2,h3,h4⟩:=ih (by omega)
    obtain ⟨o,ho,hol,hc⟩:=each k (by omega)
    refine ⟨xs++[o],by simp [h1],λu hu=>?_,by simp [h3,hol,Nat.succ_mul],λi hi=>?_⟩
    ·rcases List.mem_append.1 hu with hu|hu
     ·exact h2 u hu
     ·rw [List.mem_singleton.1 hu];exact ho
    ·rw [List.flatMap_append,List.flatMap_singleton]
     by_cases hik:i<k*C
     ·rw [List.getElem?_append_left (by omega),h4 i hik]
     ·rw [List.getElem?_append_right (by omega),h3]
      rw [Nat.succ_mul] at hi
      have:=hc (i-k*C) (by omega)
      rw [show k*C+(i-k*C)=i by omega] at this
      exact this
  obtain ⟨xs,h1,h2,h3,h4⟩:=hall len (Nat.le_refl _)
  exact ⟨⟨some a,len,cap⟩,xs,rfl,hl,h1.symm,hm,h2,z001 h3 hpos λi hi=>h4 i (by rw [<- h3];exact hi)⟩
end
def z58:Nat->Nat->List UInt8
 | 0,_=>[]
 | k+1,n=>if n<128 then [UInt8.ofNat n] else UInt8.ofNat (n % 128+128)::z58 k (n / 128)
def z2f (n:Nat):List UInt8:=z58 10 n
def z2u (i:Nat):List UInt8->Option (Nat × Nat)
 | []=>none
 | c::r=>if i>=10\/(i=9/\1<c.toNat) then none else if 128<=c.toNat then (z2u (i+1) r).map λp=>(c.toNat % 128+128*p.1,p.2+1) else if c.toNat=0/\0<i then none else some (c.toNat,1)
theorem z94 (i:Nat) (c:UInt8) (r:List UInt8):z2u i (c::r)=if i>=10\/(i=9/\1<c.toNat) then none else if 128<=c.toNat then (z2u (i+1) r).map λp=>(c.toNat % 128+128*p.1,p.2+1) else if c.toNat=0/\0<i then none else some (c.toNat,1):=rfl
theorem zhh:∀ (k n:Nat),0<k->n<128 ^ k->z58 (k+1) n=z58 k n
 | k+1,n,_,h=>by
  show (if n<128 then _ else _::z58 (k+1) (n / 128))=if n<128 then _ else _::z58 k (n / 128)
  by_cases h1:n<128
  ·rw [if_pos h1,if_pos h1]
  ·rw [if_neg h1,if_neg h1]
   have hk:0<k:=by
    apply Nat.pos_of_ne_zero
    rintro rfl
    simp at h;omega
   rw [zhh k (n / 128) hk]
   rw [Nat.pow_succ] at h
   omega
theorem zcg {n:Nat} (h:n<18446744073709551616):z2f n=if n<128 then [UInt8.ofNat n] else UInt8.ofNat (n % 128+128)::z2f (n / 128):=by
 unfold z2f
 rw [zhh 9 (n / 128) (by decide) (by omega)]
 rfl
theorem zk8:∀ (k n:Nat),(z58 k n).length<=k
 | 0,_=>Nat.le_refl _
 | k+1,n=>by
  have:=zk8 k (n / 128)
  unfold z58
  split <;> simp <;> omega
theorem zxp (k n:Nat):0<(z58 (k+1) n).length:=by
 unfold z58
 split <;> simp
theorem z9a (n:Nat):0<(z2f n).length/\(z2f n).length<=10:=⟨zxp 9 n,zk8 10 n⟩
theorem zft:∀ (bs:List UInt8) (i v k:Nat),z2u i bs=some (v,k)->0<k/\k<=bs.length/\i+k<=10
 | [],i,v,k,h=>by cases h
 | c::r,i,v,k,h=>by
  unfold z2u at h
  split at h
  ·cases h
  rename_i h1
  split at h
  ·rename_i h2
   cases hr:z2u (i+1) r with
   | none=>rw [hr] at h;cases h
   | some p =>
    rw [hr] at h
    simp only [Option.map_some,Option.some.injEq,Prod.mk.injEq] at h
    have:=zft r (i+1) p.1 p.2 hr
    simp;omega
  ·split at h
   ·cases h
   ·simp only [Option.some.injEq,Prod.mk.injEq] at h
    simp;omega
theorem zm7:∀ (k i n:Nat) (rest:List UInt8),n<128 ^ k->0<k->n*128 ^ i<18446744073709551616->(0<i->0<n)->i<10->z2u i (z58 k n++rest)=some (n,(z58 k n).length)
 | k+1,i,n,rest,hn,_,h64,hi,hi10=>by
  have hcase:i=0\/i=1\/i=2\/i=3\/i=4\/i=5\/i=6\/i=7\/i=8\/i=9:=by omega
  have h9:i=9->n<2:=λe=>by subst e;simp at h64;omega
  unfold z58
  by_cases h:n<128
  ·rw [if_pos h]
   show (if _ then _ else if _ then _ else if _ then _ else _)=_
   have e:(UInt8.ofNat n).toNat=n:=by simp;omega
   rw [e,if_neg (by omega),if_neg (by omega),if_neg (by omega)]
   rfl
  ·rw [if_neg h]
   have e:(UInt8.ofNat (n % 128+128)).toNat=n % 128+128:=by simp;omega
   have h64':n / 128*128 ^ (i+1)<18446744073709551616:=by
    rw [Nat.pow_succ,Nat.mul_comm (128 ^ i),<- Nat.mul_assoc]
    exact Nat.lt_of_le_of_lt (Nat.mul_le_mul_right _ (Nat.div_mul_le_self n 128)) h64
   have hk:0<k:=by
    apply Nat.pos_of_ne_zero
    rintro rfl
    simp at hn;omega
   have ih:=zm7 k (i+1) (n / 128) rest (by rw [Nat.pow_succ] at hn;omega) hk h64' (λ_=>by omega) (by omega)
   rw [List.cons_append]
   show (if _ then _ else if _ then _ else _)=_
   have e3:(n % 128+128) % 128+128*(n / 128)=n:=by omega
   rw [e,if_neg (by omega),if_pos (by omega),ih,Option.map_some,e3,List.length_cons]
theorem zar {n:Nat} (h:n<18446744073709551616) (rest:List UInt8):z2u 0 (z2f n++rest)=some (n,(z2f n).length) :=
 zm7 10 0 n rest (by omega) (by decide) (by omega) (λh=>absurd h (by decide)) (by decide)
theorem zqq:∀ (bs:List UInt8) (i v k:Nat),i<10->z2u i bs=some (v,k)->bs.take k=z58 (10-i) v/\v*128 ^ i<18446744073709551616/\(0<i->0<v)
 | [],i,v,k,_,h=>by cases h
 | c::r,i,v,k,hi10,h=>by
  have hcase:i=0\/i=1\/i=2\/i=3\/i=4\/i=5\/i=6\/i=7\/i=8\/i=9:=by omega
  have hc:=c.toNat_lt
  unfold z2u at h
  split at h
  ·cases h
  rename_i h1
  split at h
  ·rename_i h2
   cases hr:z2u (i+1) r with
   | none=>rw [hr] at h;cases h
   | some p =>
    rw [hr] at h
    simp only [Option.map_some,Option.some.injEq,Prod.mk.injEq] at h
    obtain ⟨rfl,rfl⟩:=h
    obtain ⟨g1,g2,g3⟩:=zqq r (i+1) p.1 p.2 (by omega) hr
    have hp:=g3 (by omega)
    obtain ⟨m,hm⟩:∃ m,10-i=m+1:=⟨9-i,by omega⟩
    have hm':10-(i+1)=m:=by omega
    rw [hm'] at g1
    refine ⟨?_,?_,λ_=>by omega⟩
    ·rw [hm]
     unfold z58
     rw [if_neg (by omega),List.take_succ_cons,g1]
     have e1:(c.toNat % 128+128*p.1) % 128+128=c.toNat:=by omega
     have e2:(c.toNat % 128+128*p.1) / 128=p.1:=by omega
     rw [e1,e2]
     simp
    ·obtain ⟨m,hm⟩:∃ m,18446744073709551616=m*128 ^ (i+1):=by
      rcases hcase with rfl|rfl|rfl|rfl|rfl|rfl|rfl|rfl|rfl|rfl
      ·exact ⟨2 ^ 57,rfl⟩
      ·exact ⟨2 ^ 50,rfl⟩
      ·exact ⟨2 ^ 43,rfl⟩
      ·exact ⟨2 ^ 36,rfl⟩
      ·exact ⟨2 ^ 29,rfl⟩
      ·exact ⟨2 ^ 22,rfl⟩
      ·exact ⟨2 ^ 15,rfl⟩
      ·exact ⟨2 ^ 8,rfl⟩
      ·exact ⟨2 ^ 1,rfl⟩
      ·omega
     rw [hm] at g2 ⊢
     have hlt:=Nat.lt_of_mul_lt_mul_right g2
     have h5:(p.1+1)*128 ^ (i+1)<=m*128 ^ (i+1):=Nat.mul_le_mul_right _ hlt
     refine Nat.lt_of_lt_of_le ?_ h5
     rw [Nat.pow_succ,Nat.mul_comm (128 ^ i),<- Nat.mul_assoc]
     exact Nat.mul_lt_mul_of_pos_right (by omega) (Nat.pow_pos (by decide))
  ·split at h
   ·cases h
   ·simp only [Option.some.injEq,Prod.mk.injEq] at h
    obtain ⟨rfl,rfl⟩:=h
    obtain ⟨m,hm⟩:∃ m,10-i=m+1:=⟨9-i,by omega⟩
    refine ⟨?_,?_,λ_=>by omega⟩
    ·rw [hm]
     unfold z58
     rw [if_pos (by omega)]
     simp
    ·rcases hcase with rfl|rfl|rfl|rfl|rfl|rfl|rfl|rfl|rfl|rfl <;> simp <;> omega
theorem zfu {bs:List UInt8} {v k:Nat} (h:z2u 0 bs=some (v,k)):bs.take k=z2f v/\v<18446744073709551616:=by
 obtain ⟨h1,h2,-⟩:=zqq bs 0 v k (by decide) h
 exact ⟨h1,by simpa using h2⟩
def z0w:List UInt8->Nat
 | []=>0
 | c::r=>if 128<=c.toNat then z0w r+1 else 0
def z71:List UInt8->Nat
 | []=>0
 | c::r=>c.toNat % 128+128*z71 r
theorem zc5:∀ bs:List UInt8,z0w bs<=bs.length
 | []=>Nat.le_refl _
 | c::r=>by
  have:=zc5 r
  unfold z0w
  split <;> simp <;> omega
theorem zjf:∀ (bs:List UInt8) (i:Nat) (h:i<z0w bs),128<=(bs[i]'(Nat.lt_of_lt_of_le h (zc5 bs))).toNat
 | [],i,h=>by cases h
 | c::r,i,h=>by
  unfold z0w at h
  split at h
  ·rename_i h1
   cases i with
   | zero=>exact h1
   | succ i=>exact zjf r i (by omega)
  ·cases h
theorem zdg:∀ (bs:List UInt8) (h:z0w bs<bs.length),(bs[z0w bs]'h).toNat<128
 | [],h=>by cases h
 | c::r,h=>by
  by_cases h1:128<=c.toNat
  ·have e:z0w (c::r)=z0w r+1:=by show (if _ then _ else _)=_;rw [if_pos h1]
   simp only [e,List.getElem_cons_succ]
   exact zdg r (by rw [e] at h;simpa using h)
  ·have e:z0w (c::r)=0:=by show (if _ then _ else _)=_;rw [if_neg h1]
   simp only [e,List.getElem_cons_zero]
   omega
theorem zm6:∀ (bs:List UInt8) (i:Nat),z2u i bs=if h:z0w bs<bs.length/\i+z0w bs<10 then
  if ((bs[z0w bs]'h.1).toNat=0/\0<i+z0w bs)\/(i+z0w bs=9/\1<(bs[z0w bs]'h.1).toNat) then none else some (z71 (bs.take (z0w bs+1)),z0w bs+1) else none
 | [],i=>by simp [z2u,z0w]
 | c::r,i=>by
  have ih:=zm6 r (i+1)
  have hl:=zc5 r
  unfold z2u
  by_cases h1:128<=c.toNat
  ·have e:z0w (c::r)=z0w r+1:=by show (if _ then _ else _)=_;rw [if_pos h1]
   rw [if_pos h1,ih]
   simp only [e,List.length_cons,List.getElem_cons_succ,List.take_succ_cons,z71]
   by_cases h2:z0w r<r.length/\i+1+z0w r<10
   ·rw [if_neg (by omega),dif_pos h2,dif_pos (by omega)]
    have e2:i+(z0w r+1)=i+1+z0w r:=by omega
    simp only [e2]
    split <;> rfl
   ·rw [dif_neg h2,dif_neg (by omega)]
    split <;> rfl
  ·have e:z0w (c::r)=0:=by show (if _ then _ else _)=_;rw [if_neg h1]
   rw [if_neg h1]
   simp only [e,List.length_cons,List.getElem_cons_zero,List.take_succ_cons,z71,List.take_zero,Nat.add_zero]
   by_cases h2:i<10
   ·rw [dif_pos ⟨by omega,h2⟩]
    by_cases h3:i=9/\1<c.toNat
    ·rw [if_pos (.inr h3),if_pos (.inr h3)]
    ·rw [if_neg (by omega)]
     by_cases h4:c.toNat=0/\0<i
     ·rw [if_pos h4,if_pos (.inl h4)]
     ·rw [if_neg h4,if_neg (by omega)]
      have:c.toNat % 128=c.toNat:=by omega
      simp [this]
   ·rw [if_pos (by omega),dif_neg (by omega)]
end Go.Dec
namespace Go.T
abbrev a59:Go.TypeId:=0
abbrev a14:Go.TypeId:=2
abbrev a13:Go.TypeId:=3
abbrev a3:Go.TypeId:=4
abbrev a58:Go.TypeId:=5
abbrev a54:Go.TypeId:=9
abbrev a51:Go.TypeId:=24
abbrev a35:Go.TypeId:=26
abbrev a28:Go.TypeId:=28
abbrev a1:Go.TypeId:=29
abbrev a43:Go.TypeId:=35
abbrev a49:Go.TypeId:=36
abbrev a55:Go.TypeId:=38
abbrev a57:Go.TypeId:=43
abbrev a23:Go.TypeId:=44
abbrev a38:Go.TypeId:=48
abbrev a39:Go.TypeId:=52
abbrev a0:Go.TypeId:=54
abbrev a2:Go.TypeId:=56
abbrev a48:Go.TypeId:=77
abbrev a50:Go.TypeId:=81
abbrev a46:Go.TypeId:=84
abbrev a37:Go.TypeId:=87
abbrev a22:Go.TypeId:=133
abbrev a8:Go.TypeId:=135
abbrev a32:Go.TypeId:=136
abbrev a26:Go.TypeId:=140
abbrev a24:Go.TypeId:=143
abbrev a56:Go.TypeId:=157
abbrev a44:Go.TypeId:=161
abbrev a25:Go.TypeId:=164
abbrev a41:Go.TypeId:=190
abbrev a29:Go.TypeId:=208
abbrev a9:Go.TypeId:=211
abbrev a33:Go.TypeId:=213
abbrev a27:Go.TypeId:=218
abbrev a31:Go.TypeId:=219
abbrev a36:Go.TypeId:=221
abbrev a4:Go.TypeId:=227
abbrev a45:Go.TypeId:=265
abbrev a52:Go.TypeId:=267
abbrev a30:Go.TypeId:=286
abbrev a53:Go.TypeId:=288
abbrev a34:Go.TypeId:=289
abbrev a7:Go.TypeId:=291
abbrev a47:Go.TypeId:=297
abbrev a60:Go.TypeId:=301
abbrev a42:Go.TypeId:=308
abbrev a17:Go.TypeId:=311
abbrev a18:Go.TypeId:=313
abbrev a20:Go.TypeId:=315
abbrev a21:Go.TypeId:=316
abbrev a16:Go.TypeId:=318
abbrev a19:Go.TypeId:=351
abbrev a6:Go.TypeId:=353
abbrev a5:Go.TypeId:=356
abbrev a10:Go.TypeId:=369
abbrev a15:Go.TypeId:=374
abbrev a12:Go.TypeId:=408
abbrev a40:Go.TypeId:=409
abbrev a11:Go.TypeId:=411
end Go.T
namespace Go.F
abbrev a161:Go.FuncId:=3
abbrev a163:Go.FuncId:=12
abbrev a36:Go.FuncId:=13
abbrev a75:Go.FuncId:=14
abbrev a70:Go.FuncId:=15
abbrev a164:Go.FuncId:=16
abbrev a165:Go.FuncId:=17
abbrev a72:Go.FuncId:=18
abbrev a68:Go.FuncId:=19
abbrev a69:Go.FuncId:=20
abbrev a71:Go.FuncId:=21
abbrev a171:Go.FuncId:=22
abbrev a166:Go.FuncId:=23
abbrev a162:Go.FuncId:=24
abbrev a26:Go.FuncId:=56
abbrev a80:Go.FuncId:=57
abbrev a83:Go.FuncId:=58
abbrev a3:Go.FuncId:=59
abbrev a74:Go.FuncId:=60
abbrev a84:Go.FuncId:=61
abbrev a77:Go.FuncId:=62
abbrev a81:Go.FuncId:=63
abbrev a4:Go.FuncId:=64
abbrev a76:Go.FuncId:=65
abbrev a82:Go.FuncId:=66
abbrev a6:Go.FuncId:=67
abbrev a79:Go.FuncId:=68
abbrev a167:Go.FuncId:=69
abbrev a172:Go.FuncId:=70
abbrev a73:Go.FuncId:=71
abbrev a86:Go.FuncId:=72
abbrev a5:Go.FuncId:=73
abbrev a169:Go.FuncId:=78
abbrev a27:Go.FuncId:=107
abbrev a133:Go.FuncId:=111
abbrev a30:Go.FuncId:=112
abbrev a93:Go.FuncId:=113
abbrev a94:Go.FuncId:=114
abbrev a29:Go.FuncId:=115
abbrev a89:Go.FuncId:=116
abbrev a114:Go.FuncId:=117
abbrev a92:Go.FuncId:=118
abbrev a116:Go.FuncId:=119
abbrev a90:Go.FuncId:=120
abbrev a101:Go.FuncId:=121
abbrev a67:Go.FuncId:=122
abbrev a176:Go.FuncId:=123
abbrev a188:Go.FuncId:=124
abbrev a95:Go.FuncId:=125
abbrev a142:Go.FuncId:=126
abbrev a177:Go.FuncId:=127
abbrev a184:Go.FuncId:=128
abbrev a179:Go.FuncId:=129
abbrev a7:Go.FuncId:=130
abbrev a170:Go.FuncId:=131
abbrev a168:Go.FuncId:=132
abbrev a173:Go.FuncId:=133
abbrev a78:Go.FuncId:=134
abbrev a118:Go.FuncId:=135
abbrev a87:Go.FuncId:=136
abbrev a54:Go.FuncId:=137
abbrev a99:Go.FuncId:=138
abbrev a102:Go.FuncId:=139
abbrev a11:Go.FuncId:=140
abbrev a10:Go.FuncId:=141
abbrev a181:Go.FuncId:=143
abbrev a180:Go.FuncId:=144
abbrev a8:Go.FuncId:=147
abbrev a65:Go.FuncId:=153
abbrev a64:Go.FuncId:=158
abbrev a160:Go.FuncId:=159
abbrev a148:Go.FuncId:=160
abbrev a0:Go.FuncId:=161
abbrev a134:Go.FuncId:=162
abbrev a138:Go.FuncId:=163
abbrev a124:Go.FuncId:=164
abbrev a117:Go.FuncId:=165
abbrev a127:Go.FuncId:=166
abbrev a130:Go.FuncId:=167
abbrev a123:Go.FuncId:=168
abbrev a32:Go.FuncId:=169
abbrev a28:Go.FuncId:=170
abbrev a34:Go.FuncId:=171
abbrev a33:Go.FuncId:=172
abbrev a37:Go.FuncId:=173
abbrev a13:Go.FuncId:=174
abbrev a53:Go.FuncId:=175
abbrev a91:Go.FuncId:=176
abbrev a40:Go.FuncId:=177
abbrev a183:Go.FuncId:=178
abbrev a85:Go.FuncId:=179
abbrev a12:Go.FuncId:=180
abbrev a17:Go.FuncId:=181
abbrev a52:Go.FuncId:=182
abbrev a56:Go.FuncId:=183
abbrev a18:Go.FuncId:=184
abbrev a60:Go.FuncId:=185
abbrev a88:Go.FuncId:=186
abbrev a115:Go.FuncId:=187
abbrev a121:Go.FuncId:=188
abbrev a96:Go.FuncId:=189
abbrev a186:Go.FuncId:=190
abbrev a192:Go.FuncId:=191
abbrev a190:Go.FuncId:=192
abbrev a189:Go.FuncId:=193
abbrev a143:Go.FuncId:=194
abbrev a159:Go.FuncId:=196
abbrev a119:Go.FuncId:=197
abbrev a132:Go.FuncId:=198
abbrev a139:Go.FuncId:=199
abbrev a120:Go.FuncId:=200
abbrev a100:Go.FuncId:=201
abbrev a57:Go.FuncId:=202
abbrev a59:Go.FuncId:=203
abbrev a63:Go.FuncId:=204
abbrev a107:Go.FuncId:=205
abbrev a104:Go.FuncId:=206
abbrev a103:Go.FuncId:=207
abbrev a144:Go.FuncId:=208
abbrev a146:Go.FuncId:=209
abbrev a191:Go.FuncId:=210
abbrev a9:Go.FuncId:=211
abbrev a174:Go.FuncId:=214
abbrev a66:Go.FuncId:=225
abbrev a51:Go.FuncId:=227
abbrev a122:Go.FuncId:=229
abbrev a126:Go.FuncId:=230
abbrev a140:Go.FuncId:=231
abbrev a38:Go.FuncId:=232
abbrev a136:Go.FuncId:=233
abbrev a131:Go.FuncId:=234
abbrev a97:Go.FuncId:=235
abbrev a141:Go.FuncId:=236
abbrev a129:Go.FuncId:=237
abbrev a24:Go.FuncId:=238
abbrev a185:Go.FuncId:=240
abbrev a16:Go.FuncId:=245
abbrev a20:Go.FuncId:=246
abbrev a15:Go.FuncId:=247
abbrev a55:Go.FuncId:=248
abbrev a128:Go.FuncId:=249
abbrev a125:Go.FuncId:=250
abbrev a23:Go.FuncId:=251
abbrev a135:Go.FuncId:=252
abbrev a31:Go.FuncId:=253
abbrev a145:Go.FuncId:=254
abbrev a45:Go.FuncId:=255
abbrev a109:Go.FuncId:=256
abbrev a62:Go.FuncId:=257
abbrev a147:Go.FuncId:=258
abbrev a58:Go.FuncId:=259
abbrev a1:Go.FuncId:=260
abbrev a108:Go.FuncId:=261
abbrev a106:Go.FuncId:=262
abbrev a111:Go.FuncId:=263
abbrev a158:Go.FuncId:=265
abbrev a44:Go.FuncId:=284
abbrev a42:Go.FuncId:=285
abbrev a178:Go.FuncId:=286
abbrev a49:Go.FuncId:=287
abbrev a112:Go.FuncId:=288
abbrev a110:Go.FuncId:=289
abbrev a137:Go.FuncId:=290
abbrev a47:Go.FuncId:=291
abbrev a182:Go.FuncId:=292
abbrev a14:Go.FuncId:=293
abbrev a22:Go.FuncId:=295
abbrev a21:Go.FuncId:=296
abbrev a19:Go.FuncId:=297
abbrev a61:Go.FuncId:=298
abbrev a98:Go.FuncId:=299
abbrev a41:Go.FuncId:=300
abbrev a35:Go.FuncId:=301
abbrev a25:Go.FuncId:=302
abbrev a48:Go.FuncId:=303
abbrev a46:Go.FuncId:=304
abbrev a156:Go.FuncId:=305
abbrev a2:Go.FuncId:=306
abbrev a113:Go.FuncId:=307
abbrev a39:Go.FuncId:=316
abbrev a105:Go.FuncId:=317
abbrev a50:Go.FuncId:=318
abbrev a175:Go.FuncId:=319
abbrev a187:Go.FuncId:=320
abbrev a43:Go.FuncId:=321
abbrev a152:Go.FuncId:=322
abbrev a151:Go.FuncId:=323
abbrev a149:Go.FuncId:=324
abbrev a150:Go.FuncId:=325
abbrev a157:Go.FuncId:=326
abbrev a153:Go.FuncId:=327
abbrev a155:Go.FuncId:=328
abbrev a154:Go.FuncId:=329
end Go.F
namespace Go.Dec
noncomputable abbrev P:Program:=Go.Proofs.Tryz.prog
def zi5:List FuncId:=[2,3,4,5,6,7,8,9,10,11,12,13,14,15,16,17,18,19,20,21,22,23,24,25,26,27,28,29,30,31,32,33,34,35,36,37,38,39,40,41,42,43,44,45,46,47,48,49,50,51,52,53,54,55,56,57,58,59,60,61,62,63,64,65,66,67,68,69,70,71,72,73,74,75,76,77,78,79,80,81,82,83,84,85,86,87,88,89,90,91,92,93,94,95,96,97,98,99,100,101,102,103,104,105,106,107,108,109,110,111,112,113,114,115,116,117,118,119,120,121,122,123,124,125,126,127,128,129,130,131,132,133,134,135,136,137,138,139,140,141,142,143,144,145,146,147,148,149,150,151,152,153,154,155,156,157,158,159,160,161,162,163,164,165,166,167,168,169,170,171,172,173,174,175,176,177,178,179,180,181,182,183,184,185,186,187,188,189,190,191,192,193,194,195,196,197,198,199,200,201,202,203,204,205,206,207,208,209,210,211,212,213,214,215,216,217,218,219,220,221,222,223,224,225,226,227,228,229,230,231,232,233,234,235,236,237,238,239,240,241,242,243,244,245,246,247,248,249,250,251,252,253,254,255,256,257,258,259,260,261,262,263,265,266,267,268,269,270,271,272,273,274,275,276,277,278,279,280,281,282,283,284,285,286,287,288,289,290,291,292,293,294,295,296,297,298,299,300,301,302,303,304,305,306,307,308,309,310,311,312,313,314,315,316,317,318,319,320,321,322,323,324,325,326,327,328,329,330,331,332,333,334,335,336,337,338,339,340,341,342,343,344,345,346,347,348]
theorem zzi:zi5.all (z4n P)=true:=by kernel_rfl
theorem zi6:∀ f ∈ zi5,z4n P f=true:=List.all_eq_true.1 zzi
theorem mix:P.follows .mixedOrders=true:=by kernel_rfl
instance:One P T.a14:=⟨by kernel_rfl,by kernel_rfl⟩
instance:One P T.a13:=⟨by kernel_rfl,by kernel_rfl⟩
instance:One P T.a3:=⟨by kernel_rfl,by kernel_rfl⟩
instance:One P T.a58:=⟨by kernel_rfl,by kernel_rfl⟩
instance:One P T.a54:=⟨by kernel_rfl,by kernel_rfl⟩
instance:Agg P T.a51 2:=⟨by kernel_rfl,by kernel_rfl⟩
instance:Agg P T.a35 3:=⟨by kernel_rfl,by kernel_rfl⟩
instance:One P T.a28:=⟨by kernel_rfl,by kernel_rfl⟩
instance:One P T.a1:=⟨by kernel_rfl,by kernel_rfl⟩
instance:One P T.a49:=⟨by kernel_rfl,by kernel_rfl⟩
instance:Agg P T.a55 7:=⟨by kernel_rfl,by kernel_rfl⟩
instance:Agg P T.a57 4:=⟨by kernel_rfl,by kernel_rfl⟩
instance:Agg P T.a23 4:=⟨by kernel_rfl,by kernel_rfl⟩
instance:One P T.a38:=⟨by kernel_rfl,by kernel_rfl⟩
instance:One P T.a39:=⟨by kernel_rfl,by kernel_rfl⟩
instance:Agg P T.a0 7:=⟨by kernel_rfl,by kernel_rfl⟩
instance:Agg P T.a2 4:=⟨by kernel_rfl,by kernel_rfl⟩
instance:One P T.a50:=⟨by kernel_rfl,by kernel_rfl⟩
instance:One P T.a46:=⟨by kernel_rfl,by kernel_rfl⟩
instance:Agg P T.a37 5:=⟨by kernel_rfl,by kernel_rfl⟩
instance:One P T.a22:=⟨by kernel_rfl,by kernel_rfl⟩
instance:One P T.a32:=⟨by kernel_rfl,by kernel_rfl⟩
instance:One P T.a26:=⟨by kernel_rfl,by kernel_rfl⟩
instance:Agg P T.a9 2:=⟨by kernel_rfl,by kernel_rfl⟩
instance:One P T.a33:=⟨by kernel_rfl,by kernel_rfl⟩
instance:One P T.a27:=⟨by kernel_rfl,by kernel_rfl⟩
instance:One P T.a31:=⟨by kernel_rfl,by kernel_rfl⟩
instance:One P T.a45:=⟨by kernel_rfl,by kernel_rfl⟩
instance:One P T.a30:=⟨by kernel_rfl,by kernel_rfl⟩
instance:One P T.a34:=⟨by kernel_rfl,by kernel_rfl⟩
instance:Agg P T.a7 2:=⟨by kernel_rfl,by kernel_rfl⟩
instance:Agg P T.a17 2:=⟨by kernel_rfl,by kernel_rfl⟩
instance:Agg P T.a18 4:=⟨by kernel_rfl,by kernel_rfl⟩
instance:One P T.a20:=⟨by kernel_rfl,by kernel_rfl⟩
instance:One P T.a21:=⟨by kernel_rfl,by kernel_rfl⟩
instance:One P T.a19:=⟨by kernel_rfl,by kernel_rfl⟩
instance:Agg P T.a5 7:=⟨by kernel_rfl,by kernel_rfl⟩
instance:Agg P T.a10 3:=⟨by kernel_rfl,by kernel_rfl⟩
instance:Agg P T.a15 4:=⟨by kernel_rfl,by kernel_rfl⟩
instance:Agg P T.a12 3:=⟨by kernel_rfl,by kernel_rfl⟩
instance:One P T.a40:=⟨by kernel_rfl,by kernel_rfl⟩
instance:Zer P T.a58 (.int .u8 0):=⟨by kernel_rfl⟩
instance:Zer P T.a35 (.agg #[.int .i64 0,.int .i64 0,.int .i64 0]):=⟨by kernel_rfl⟩
instance:Zer P T.a55 (.agg #[.int .i64 0,.int .i64 0,.int .i64 0,.int .i64 0,.int .i64 0,.bool false,.slice none 0 0]):=⟨by kernel_rfl⟩
instance:Zer P T.a57 (.agg #[.int .i64 0,.int .i64 0,.int .i64 0,.int .i64 0]):=⟨by kernel_rfl⟩
instance:Zer P T.a23 (.agg #[.int .i64 0,.int .i64 0,.int .i64 0,.int .i64 0]):=⟨by kernel_rfl⟩
instance:Zer P T.a38 (.slice none 0 0):=⟨by kernel_rfl⟩
instance:Zer P T.a0 (.agg #[.int .i64 0,.int .i64 0,.int .i64 0,.int .i64 0,.int .i64 0,.int .i64 0,.slice none 0 0]):=⟨by kernel_rfl⟩
instance:Zer P T.a2 (.agg #[.string ⟨#[]⟩,.string ⟨#[]⟩,.bool false,.int .i64 0]):=⟨by kernel_rfl⟩
instance:Zer P T.a37 (.agg #[.int .i64 0,.string ⟨#[]⟩,.string ⟨#[]⟩,.bool false,.int .i64 0]):=⟨by kernel_rfl⟩
instance:Zer P T.a9 (.agg #[.slice none 0 0,.int .i64 0]):=⟨by kernel_rfl⟩
instance:Zer P T.a7 (.agg #[.bool false,.int .i64 0]):=⟨by kernel_rfl⟩
instance:Zer P T.a17 (.agg #[.int .i64 0,.int .i64 0]):=⟨by kernel_rfl⟩
instance:Zer P T.a18 (.agg #[.int .i64 0,.int .i64 0,.int .i64 0,.int .i64 0]):=⟨by kernel_rfl⟩
instance:Zer P T.a5 (.agg #[.int .i64 0,.int .i64 0,.int .i64 0,.int .i64 0,.int .i64 0,.int .i64 0,.int .i64 0]):=⟨by kernel_rfl⟩
instance:Zer P T.a10 (.agg #[.int .i64 0,.int .i64 0,.int .i64 0]):=⟨by kernel_rfl⟩
instance:Zer P T.a15 (.agg #[.int .i64 0,.int .i64 0,.int .i64 0,.int .i64 0]):=⟨by kernel_rfl⟩
instance:SlT P T.a43 T.a23 4 32:=⟨by kernel_rfl,by kernel_rfl⟩
instance:SlT P T.a38 T.a0 7 72:=⟨by kernel_rfl,by kernel_rfl⟩
instance:SlT P T.a39 T.a2 4 48:=⟨by kernel_rfl,by kernel_rfl⟩
instance:SlT P T.a48 T.a54 1 16:=⟨by kernel_rfl,by kernel_rfl⟩
instance:SlT P T.a50 T.a58 1 1:=⟨by kernel_rfl,by kernel_rfl⟩
instance:SlT P T.a46 T.a37 5 56:=⟨by kernel_rfl,by kernel_rfl⟩
instance:SlT P T.a44 T.a25 6 48:=⟨by kernel_rfl,by kernel_rfl⟩
instance:SlT P T.a41 T.a14 1 8:=⟨by kernel_rfl,by kernel_rfl⟩
instance:SlT P T.a45 T.a34 1 8:=⟨by kernel_rfl,by kernel_rfl⟩
instance:SlT P T.a47 T.a50 1 24:=⟨by kernel_rfl,by kernel_rfl⟩
instance:SlT P T.a42 T.a15 4 32:=⟨by kernel_rfl,by kernel_rfl⟩
instance:SlT P T.a40 T.a10 3 24:=⟨by kernel_rfl,by kernel_rfl⟩
theorem dS {f:FuncId} {fn:Func} {n:Nat} {rv:List RV} {p:Prog} {w:World} {R:List Value->World->Prop} (H:Hints) (args:List Base) (hf:P.funcs[f]? = some fn) (hb:fn.body.isSome=true) (hn:fn.ntmps=n) (hr:zb4 fn.results.toList=rv) (he:zio P n ⟨zi5,[]⟩ H rv (zb7 fn) args=p) (h:p.wp P (λ_=>True) w λe vs w'=>e=0/\R vs w'):Ret P f (args.map Base.v).toArray w R:=z9y (zhz hf hb hn hr) zi6 mix args (by rw [he];exact h)
abbrev FnS (p:Prog) (f:FuncId) (vs:Array Value):Prop:=∀ {w:World} {R:List Value->World->Prop},p.wp P (λ_=>True) w (λe vs w'=>e=0/\R vs w')->Ret P f vs w R
theorem dV {f:FuncId} {fn:Func} {p:Prog} {vs:List Value} (H:Hints) (hf:P.funcs[f]? = some fn) (he:(fn.body.isSome,zio P fn.ntmps ⟨zi5,[]⟩ H (zb4 fn.results.toList) (zb7 fn) (vs.map Base.val))=(true,p)):FnS p f vs.toArray:=λh=>by
 have e:=dS H (vs.map Base.val) hf (congrArg Prod.fst he) rfl rfl (congrArg Prod.snd he) h
 rwa [List.map_map,show Base.v∘Base.val=id from rfl,List.map_id] at e
abbrev Aa (s:Option Addr) (k:Addr->Prog):Prog:=.ex [.adr] (c1 λa=>s=some a) (u1 k)
abbrev Ab (t:TypeId) (a:Addr) (i:Nat) (k:Int->Prog):Prog:=.read True (ld t (Addr.add a i)) (sI .i64) (u1 k)
abbrev Ac (b:Bool) (p q:Prog):Prog:=.ite b p q
abbrev Ad (e:Nat) (l:List Value):Prog:=.done e l
abbrev Ae (k:Prog):Prog:=.tick k
abbrev Af (t:TypeId) (a:Addr) (i:Nat) (k:Sl->Prog):Prog:=.read True (ld t (Addr.add a i)) sL (u1 k)
abbrev Ag (l:Sl):Int:=((l.len:Nat):Int)
abbrev Ah (x:Int) (k:Int->Prog):Prog:=.lt (.int .u64) x k
abbrev Ai (x:Int) (k:Int->Prog):Prog:=.lt (.int .i64) x k
abbrev Aj (k:Prog):Prog:=.untick k
abbrev Ak (n:Int):Value:=.int .i64 n
abbrev Al (p:Option Addr):Value:=.pointer p
abbrev Am (f:FuncId) (l:List Value) (k:Prog):Prog:=.call f l (.tup []) (u0 k)
abbrev An (t:TypeId) (a:Addr) (i:Nat) (v:Value) (k:Prog):Prog:=.actU (st t (Addr.add a i) v) k
abbrev Ao (n:Int):Int:=IntKind.wrap .i64 n
abbrev Ap (m:Sem Value) (k:Sl->Prog):Prog:=.act m sL (u1 k)
abbrev Aq (f:FuncId) (l:List Value) (k:Sl->Prog):Prog:=.call f l sL (u1 k)
abbrev Ar (x0:Int) (x1:Int):Value:=.agg #[.int .i64 x0,.int .i64 x1]
abbrev As (t:TypeId) (v:Value) (k:Addr->Prog):Prog:=.act (Instr.box t v) sA (u1 k)
abbrev Au (x:Bool) (p q:Prog):Prog:=.lt .bool x λb=>.ite b p q
abbrev Av (e:Nat) (p:Prog) (k:Bool->Prog):Prog:=.bind e [.one .bool] p (u1 k)
abbrev Aw (f:FuncId) (l:List Value) (k:Bool->Prog):Prog:=.call f l sB (u1 k)
abbrev Ax (g:Prop) (m:Sem Value) (k:Int->Int->Prog):Prog:=.read g m (sG [.int .i64,.int .i64]) (u2 k)
abbrev Ay (x:Bool) (k:Bool->Prog):Prog:=.lt (.bool) x k
abbrev Az (m:Sem Value) (k:Int->Int->Prog):Prog:=.read True m (sG [.int .i64,.int .i64]) (u2 k)
abbrev A8 (a:Addr):Value:=.pointer (some a)
abbrev A9 (f:FuncId) (l:List Value) (k:Sl->Int->Prog):Prog:=.call f l (.tup [.one .slc,.one (.int .i64)]) (u2 k)
abbrev AA (e:Nat) (p:Prog) (k:Int->Prog):Prog:=.bind e [.one (.int .i64)] p (u1 k)
abbrev AB (e:Nat) (x:Int × Int × Unit) (k:Int->Int->Prog):Prog:=.loop e [.one (.int .i64),.one (.int .i64)] x (u2 k)
abbrev AC (f:FuncId) (l:List Value) (k:Int->Prog):Prog:=.call f l (sI .i64) (u1 k)
abbrev AD (f:FuncId) (l:List Value) (k:ByteArray->Prog):Prog:=.call f l sS (u1 k)
abbrev AE (f:FuncId) (l:List Value) (k:Bool->Int->Prog):Prog:=.call f l (.tup [.one .bool,.one (.int .i64)]) (u2 k)
abbrev AF (g:Prop) (s:Option Addr) (k:Addr->Prog):Prog:=.ex [.adr] (c1 λa=>g->s=some a) (u1 k)
abbrev AG (g:Prop) (t:TypeId) (a:Addr) (i:Nat) (k:Sl->Prog):Prog:=.read g (ld t (Addr.add a i)) sL (u1 k)
abbrev AH (t:TypeId) (a:Addr) (i:Nat) (k:(Option Addr)->Prog):Prog:=.read True (ld t (Addr.add a i)) sP (u1 k)
abbrev AI (t:TypeId) (k:Addr->Prog):Prog:=.act (new t) sA (u1 k)
abbrev AJ (t:TypeId) (a:Addr) (v:Value) (k:Prog):Prog:=.actU (st t a v) k
abbrev AK (e:Nat) (p:Prog) (k:Prog):Prog:=.bind e [] p (u0 k)
abbrev AL (t:TypeId) (a:Addr) (k:Int->Int->Int->Int->Int->Int->Sl->Prog):Prog:=.read True (ld t a) (sG [.int .i64,.int .i64,.int .i64,.int .i64,.int .i64,.int .i64,.slc]) (u7 k)
abbrev AM (x0:Int) (x1:Int) (x2:Int) (x3:Int) (x4:Int) (x5:Int) (x6:Sl):Value:=.agg #[.int .i64 x0,.int .i64 x1,.int .i64 x2,.int .i64 x3,.int .i64 x4,.int .i64 x5,x6.v]
abbrev AN (e:Nat) (p:Prog) (k:Sl->Prog):Prog:=.bind e [.one .slc] p (u1 k)
abbrev AO (e:Nat) (x:Sl × Int × Unit) (k:Sl->Int->Prog):Prog:=.loop e [.one .slc,.one (.int .i64)] x (u2 k)
abbrev AP (a:Addr) (i:Nat):Value:=.pointer (some (Addr.add a i))
abbrev AQ (f:FuncId) (l:List Value) (k:Int->Prog):Prog:=.call f l (sI .u64) (u1 k)
abbrev AR (e:Nat) (x:Int × Unit) (k:Int->Prog):Prog:=.loop e [.one (.int .i64)] x (u1 k)
abbrev AS (g:Prop) (t:TypeId) (a:Addr) (i:Nat) (k:Int->Prog):Prog:=.read g (ld t (Addr.add a i)) (sI .u8) (u1 k)
abbrev AT (t:TypeId) (a:Addr) (i:Nat) (k:Int->Prog):Prog:=.read True (ld t (Addr.add a i)) (sI .u8) (u1 k)
abbrev AU (t:TypeId) (a:Addr) (k:(Option Addr)->Prog):Prog:=.read True (ld t a) sP (u1 k)
abbrev AV (g:Prop) (m:Sem Value) (k:Int->Prog):Prog:=.hold g m (sI .i64) (u1 k)
abbrev AW (m:Sem Value) (k:Sl->Prog):Prog:=.read True m sL (u1 k)
abbrev AX (t:TypeId) (a:Addr) (i:Nat) (k:Int->Int->Int->Int->Int->Int->Sl->Prog):Prog:=.read True (ld t (Addr.add a i)) (sG [.int .i64,.int .i64,.int .i64,.int .i64,.int .i64,.int .i64,.slc]) (u7 k)
abbrev AY (t:TypeId) (a:Addr) (i:Nat) (k:ByteArray->ByteArray->Bool->Int->Prog):Prog:=.read True (ld t (Addr.add a i)) (sG [.str,.str,.bool,.int .i64]) (u4 k)
abbrev AZ (x0:ByteArray) (x1:ByteArray) (x2:Bool) (x3:Int):Value:=.agg #[.string x0,.string x1,.bool x2,.int .i64 x3]
abbrev Ba (t:TypeId) (a:Addr) (k:ByteArray->ByteArray->Bool->Int->Prog):Prog:=.read True (ld t a) (sG [.str,.str,.bool,.int .i64]) (u4 k)
abbrev Bb (t:TypeId) (a:Addr) (i:Nat) (k:Int->Prog):Prog:=.hold True (ld t (Addr.add a i)) (sI .i64) (u1 k)
abbrev Bc (g:Prop) (t:TypeId) (a:Addr) (i:Nat) (k:Int->Prog):Prog:=.read g (ld t (Addr.add a i)) (sI .i64) (u1 k)
abbrev Bd (x:Int) (k:Int->Prog):Prog:=.lt (.int .u8) x k
abbrev Be (t:TypeId) (a:Addr) (i:Nat) (k:ByteArray->Prog):Prog:=.read True (ld t (Addr.add a i)) sS (u1 k)
abbrev Bf (x:ByteArray) (k:ByteArray->Prog):Prog:=.lt (.str) x k
abbrev Bg (f:FuncId) (l:List Value) (k:Int->Bool->Prog):Prog:=.call f l (.tup [.one (.int .i64),.one .bool]) (u2 k)
abbrev Bh (f:FuncId) (l:List Value) (k:(Option Addr)->Prog):Prog:=.call f l sP (u1 k)
abbrev Bi (m:Sem Value) (k:ByteArray->Prog):Prog:=.read True m sS (u1 k)
abbrev Bj (f:FuncId) (l:List Value) (k:Sl->Int->Bool->Prog):Prog:=.call f l (.tup [.one .slc,.one (.int .i64),.one .bool]) (u3 k)
abbrev Bk (t:TypeId) (a:Addr) (i:Nat) (k:(Option Addr)->Prog):Prog:=.hold True (ld t (Addr.add a i)) sP (u1 k)
abbrev Bl (t:TypeId) (p:Option Addr) (k:(Option Addr)->Prog):Prog:=.read True (Instr.loadAt t (.pointer p)) sP (u1 k)
abbrev Bn (t:TypeId) (p:Option Addr) (k:Int->Prog):Prog:=.read True (Instr.loadAt t (.pointer p)) (sI .i64) (u1 k)
abbrev Bo (g:Prop) (t:TypeId) (a:Addr) (k:Int->Int->Int->Int->Int->Int->Sl->Prog):Prog:=.read g (ld t a) (sG [.int .i64,.int .i64,.int .i64,.int .i64,.int .i64,.int .i64,.slc]) (u7 k)
abbrev Bp (f:Value) (l:List Value) (k:Bool->Prog):Prog:=.callv f l sB (u1 k)
abbrev Bq (x0:Int) (x1:Int) (x2:Int):Value:=.agg #[.int .i64 x0,.int .i64 x1,.int .i64 x2]
abbrev Br (m:Sem Unit) (k:Prog):Prog:=.actU m k
abbrev Bs (f:FuncId) (l:List Value) (k:Int->Int->Int->Int->Int->Int->Sl->Prog):Prog:=.call f l (sG [.int .i64,.int .i64,.int .i64,.int .i64,.int .i64,.int .i64,.slc]) (u7 k)
abbrev Bt (f:FuncId) (l:List Value) (k:Int->Prog):Prog:=.call f l (sI .u32) (u1 k)
abbrev Bu (x:Int) (k:Int->Prog):Prog:=.lt (.int .u32) x k
abbrev Bv (f:FuncId) (l:List Value) (k:(Option Addr)->Int->Prog):Prog:=.call f l (.tup [.one .ptr,.one (.int .i64)]) (u2 k)
abbrev Bw (t:TypeId) (a:Addr) (k:Int->Int->Int->Prog):Prog:=.read True (ld t a) (sG [.int .i64,.int .i64,.int .i64]) (u3 k)
abbrev Bx (g:Prop) (t:TypeId) (a:Addr) (i:Nat) (k:ByteArray->Prog):Prog:=.read g (ld t (Addr.add a i)) sS (u1 k)
abbrev By (g:Prop) (t:TypeId) (a:Addr) (i:Nat) (k:Bool->Prog):Prog:=.read g (ld t (Addr.add a i)) sB (u1 k)
abbrev Bz (t:TypeId) (a:Addr) (i:Nat) (k:Bool->Prog):Prog:=.read True (ld t (Addr.add a i)) sB (u1 k)
abbrev B0 (e:Nat) (p:Prog) (k:Int->Prog):Prog:=.bind e [.one (.int .u32)] p (u1 k)
abbrev B1 (e:Nat) (x:Int × Int × Unit) (k:Int->Int->Prog):Prog:=.loop e [.one (.int .u32),.one (.int .i64)] x (u2 k)
abbrev B2 (t:TypeId) (a:Addr) (i:Nat) (k:(Option Nat)->Prog):Prog:=.read True (ld t (Addr.add a i)) sM (u1 k)
abbrev B3 (m:Sem Value) (k:(Option Addr)->Prog):Prog:=.read True m sP (u1 k)
abbrev B4 (g:Prop) (t:TypeId) (a:Addr) (i:Nat) (k:(Option Nat)->Prog):Prog:=.read g (ld t (Addr.add a i)) sM (u1 k)
abbrev B5 (t:TypeId) (a:Addr) (k:Sl->Int->Prog):Prog:=.read True (ld t a) (sG [.slc,.int .i64]) (u2 k)
abbrev B6 (x0:Sl) (x1:Int):Value:=.agg #[x0.v,.int .i64 x1]
abbrev B7 (m:Sem Value) (k:Prog):Prog:=.act m (.tup []) (u0 k)
abbrev B8 (e:Nat) (p:Prog) (k:Int->Int->Prog):Prog:=.bind e [.one (.int .i64),.one (.int .i64)] p (u2 k)
abbrev B9 (e:Nat) (p:Prog) (k:Int->Int->Prog):Prog:=.bind e [.one (.int .u64),.one (.int .i64)] p (u2 k)
abbrev BA (g:Prop) (t:TypeId) (a:Addr) (i:Nat) (k:Int->Int->Int->Int->Prog):Prog:=.read g (ld t (Addr.add a i)) (sG [.int .i64,.int .i64,.int .i64,.int .i64]) (u4 k)
abbrev BB (x0:Int) (x1:Int) (x2:Int) (x3:Int):Value:=.agg #[.int .i64 x0,.int .i64 x1,.int .i64 x2,.int .i64 x3]
abbrev BC (t:TypeId) (a:Addr) (i:Nat) (k:Int->Int->Int->Int->Prog):Prog:=.read True (ld t (Addr.add a i)) (sG [.int .i64,.int .i64,.int .i64,.int .i64]) (u4 k)
abbrev BD (f:FuncId) (l:List Value) (k:Int->Bool->Int->Prog):Prog:=.call f l (.tup [.one (.int .i64),.one .bool,.one (.int .i64)]) (u3 k)
abbrev BE (t:TypeId) (a:Addr) (k:Int->ByteArray->ByteArray->Bool->Int->Prog):Prog:=.read True (ld t a) (sG [.int .i64,.str,.str,.bool,.int .i64]) (u5 k)
abbrev BF (x0:Int) (x1:ByteArray) (x2:ByteArray) (x3:Bool) (x4:Int):Value:=.agg #[.int .i64 x0,.string x1,.string x2,.bool x3,.int .i64 x4]
abbrev BG (t:TypeId) (a:Addr) (i:Nat) (k:Int->ByteArray->ByteArray->Bool->Int->Prog):Prog:=.read True (ld t (Addr.add a i)) (sG [.int .i64,.str,.str,.bool,.int .i64]) (u5 k)
abbrev BH (f:FuncId) (l:List Value) (k:Bool->Int->Int->Prog):Prog:=.call f l (.tup [.agg [.bool,.int .i64],.one (.int .i64)]) (u3 k)
abbrev BI (x0:Bool) (x1:Int):Value:=.agg #[.bool x0,.int .i64 x1]
abbrev BJ (e:Nat) (p:Prog) (k:Addr->Bool->Prog):Prog:=.bind e [.one .adr,.one .bool] p (u2 k)
abbrev BK (t:TypeId) (a:Addr) (i:Nat) (k:(Option Nat)->Prog):Prog:=.hold True (ld t (Addr.add a i)) sM (u1 k)
abbrev BL (m:Sem Value) (k:Int->Int->Int->Int->Bool->Prog):Prog:=.hold True m (.tup [.agg [.int .i64,.int .i64,.int .i64,.int .i64],.one .bool]) (u5 k)
abbrev BM (x0:Int) (x1:Int) (x2:Int) (x3:Int) (x4:Int) (x5:Int) (x6:Int):Value:=.agg #[.int .i64 x0,.int .i64 x1,.int .i64 x2,.int .i64 x3,.int .i64 x4,.int .i64 x5,.int .i64 x6]
abbrev BN (t:TypeId) (a:Addr) (k:Int->Int->Int->Int->Int->Int->Int->Prog):Prog:=.read True (ld t a) (sG [.int .i64,.int .i64,.int .i64,.int .i64,.int .i64,.int .i64,.int .i64]) (u7 k)
abbrev BO (t:TypeId) (a:Addr) (k:Int->Int->Int->Int->Prog):Prog:=.read True (ld t a) (sG [.int .i64,.int .i64,.int .i64,.int .i64]) (u4 k)
abbrev BQ (t:TypeId) (a:Addr) (k:Bool->Int->Prog):Prog:=.read True (ld t a) (sG [.bool,.int .i64]) (u2 k)
abbrev BR (f:FuncId) (l:List Value) (k:Int->Int->Int->Int->Prog):Prog:=.call f l (sG [.int .i64,.int .i64,.int .i64,.int .i64]) (u4 k)
abbrev BS (m:Sem Value) (k:Int->Prog):Prog:=.act m (sI .i64) (u1 k)
abbrev BT (g:Prop) (m:Sem Value) (k:Int->Prog):Prog:=.read g m (sI .i64) (u1 k)
abbrev BU (e:Nat) (x:Bool × Int × Unit) (k:Bool->Int->Prog):Prog:=.loop e [.one .bool,.one (.int .i64)] x (u2 k)
abbrev BV (f:FuncId) (l:List Value) (k:Int->Int->Int->Int->Int->Prog):Prog:=.call f l (.tup [.agg [.int .i64,.int .i64,.int .i64,.int .i64],.one (.int .i64)]) (u5 k)
abbrev BW (f:FuncId) (l:List Value) (k:Int->ByteArray->ByteArray->Bool->Int->Bool->Prog):Prog:=.call f l (.tup [.agg [.int .i64,.str,.str,.bool,.int .i64],.one .bool]) (u6 k)
def z02w (r:Option Addr):Prog :=
Aa r λa1=>
Ab T.a1 a1 2 λn2=>
Ac (n2 != 0) (
Ad 0 [.int .u64 0])<|
Ae<|
Aa r λa4=>
Af T.a50 a4 0 λl5=>
Aa r λa7=>
Ab T.a13 a7 1 λn8=>
.must (0<=n8/\n8<=(Ag l5)) <|
.call F.a170 [.slice (z0q l5.a 1 (Int.toNat n8) l5.cap) (l5.len-Int.toNat n8) (l5.cap-Int.toNat n8)] (.tup [.one (.int .u64),.one (.int .i64)]) (u2 λ(n9 n10:Int)=>
Ah n9 λn11=>
Ai n10 λn12=>
Aj<|
Ac (n12 == 0) (
Am F.a168 [Al r,Ak 6]<|
Ad 0 [.int .u64 0])<|
Aa r λa14=>
Ab T.a13 a14 1 λn15=>
Aa r λa17=>
An T.a13 a17 1 (Ak (Ao (n15+n12)))<|
Ah n11 λn18=>
Ad 0 [.int .u64 n18])
theorem zp4 (r:Option Addr):FnS (z02w r) F.a167 #[.pointer r]:=dV ⟨[],[],[],[]⟩ Go.Proofs.Tryz.func69 (by kernel_rfl)
def ztk (n:Int):Prog :=
Ac (decide (n<128)) (
Ap (Instr.buildSlice T.a50 1 #[(0,.int .u8 (IntKind.wrap .u8 n))]) λl0=>
Ad 0 [l0.v])<|
Ap (Instr.buildSlice T.a50 1 #[(0,.int .u8 (IntKind.wrap .u8 (IntKind.wrap .u64 (Int.tmod n 128+128))))]) λl1=>
Aq F.a169 [.int .u64 (IntKind.wrap .u64 (Int.tdiv n 128))] λl2=>
Ap (app T.a50 T.a50 T.a50 l1.v l2.v) λl3=>
Ad 0 [l3.v]
theorem zfa (n:Int):FnS (ztk n) F.a169 #[.int .u64 n]:=dV ⟨[],[],[],[]⟩ Go.Proofs.Tryz.func78 (by kernel_rfl)
def z029 (d:Option Addr) (prefix_:ByteArray) (c_0:Int) (c_1:Int):Prog :=
As T.a51 (Ar c_0 c_1) λa0=>
Au (Option.isNone d) (
Ad 0 [Al none,Ak 1])<|
Av 1 (
Aw F.a134 [.string prefix_] λb2=>
Ax (not b2=false) (ld T.a51 a0) λn3 n4=>
Ac (not b2) (
Ad 1 [.bool true])<|
Aw F.a138 [Ar n3 n4] λb5=>
Ay (not b5) λb6=>
Ad 1 [.bool b6]) λb7=>
Ac b7 (
Ad 0 [Al none,Ak 2])<|
Aw F.a26 [Al d] λb8=>
Au b8 (
Ad 0 [Al none,Ak 9])<|
Az (ld T.a51 a0) λn10 n11=>
As T.a52 (.agg #[Al d,.string prefix_,Ak n10,Ak n11,.slice none 0 0]) λa12=>
A9 F.a124 [A8 a12] λl13 n14=>
Ai n14 λn15=>
Ac (n15 != 0) (
Ai n15 λn16=>
Ad 0 [Al none,Ak n16])<|
AA 1 (
AB 2 (n15,(0,())) λn17 n18=>
Ac (decide (n18<(Ag l13))) (
AA 3 (
.ex [.adr] (c1 λa19=>0<=n18/\n18<(Ag l13)/\l13.a=some a19) (u1 λa20=>
Ab T.a14 a20 (Int.toNat n18*1) λn21=>
Ai n18 λn22=>
Ai n21 λn23=>
AC F.a117 [A8 a12] λn24=>
Ac (decide (n23<n24)) (
AD F.a127 [A8 a12,Ak n23,.string (ByteArray.mk #[46,108,111,103])] λs25=>
AC F.a29 [Al d,.string s25] λn26=>
Ai n26 λn27=>
Ac (n27 != 0) (
Ad 1 [Ak n27])<|
Ad 3 [Ak n27])<|
AE F.a130 [A8 a12,Ak n23] λb28 n29=>
Ay b28 λb30=>
Ai n29 λn31=>
Ac (n31 == 0 && not b30) (
.must (0<=Ao (n22+1)/\Ao (n22+1)<=(Ag l13)) <|
AC F.a123 [A8 a12,.slice (z0q l13.a 1 (Int.toNat (Ao (n22+1))) l13.cap) (l13.len-Int.toNat (Ao (n22+1))) (l13.cap-Int.toNat (Ao (n22+1)))] λn32=>
Ai n32 λn33=>
Ad 1 [Ak n33])<|
Ac (n31 != 0) (
Ad 1 [Ak n31])<|
Ad 3 [Ak n31])) λn34=>
Ad 2 [Ak n34,Ak (Ao (n18+1))])<|
Ad 1 [Ak n17]) λn35=>
Ac (n35 != 0) (
Ai n35 λn36=>
Ad 0 [Al none,Ak n36])<|
Ad 0 [A8 a12,Ak 0]
theorem zoh (d:Option Addr) (prefix_:ByteArray) (c_0 c_1:Int):FnS (z029 d prefix_ c_0 c_1) F.a133 #[.pointer d,.string prefix_,.agg #[.int .i64 c_0,.int .i64 c_1]]:=dV ⟨[],[(1,[(10,.one (.int .i64))]),(2,[(10,.one (.int .i64))])],[(3,[(17,.one .bool)])],[(1,[(10,.one (.int .i64)),(44,.one (.int .i64))])]⟩ Go.Proofs.Tryz.func111 (by kernel_rfl)
def z01q (l:Option Addr):Prog :=
Ac (Option.isNone l) (
Ad 0 [.slice none 0 0])<|
AC F.a116 [Al l] λn0=>
A9 F.a118 [Al l,Ak n0,Ak 1099511627776] λl1 n2=>
Ai n2 λn3=>
Ad 0 [l1.v]
theorem zny (l:Option Addr):FnS (z01q l) F.a114 #[.pointer l]:=dV ⟨[],[],[],[]⟩ Go.Proofs.Tryz.func117 (by kernel_rfl)
def z01s (l:Option Addr):Prog :=
AF (Option.isNone l=false) l λa1=>
AG (Option.isNone l=false) T.a45 a1 4 λl2=>
Ac (Option.isNone l || (Ag l2) == 0) (
Ad 0 [Ak 0])<|
Aa l λa4=>
Af T.a45 a4 4 λl5=>
.ex [.adr] (c1 λa6=>(0:Int)<=0/\0<(Ag l5)/\l5.a=some a6) (u1 λa7=>
AH T.a34 a7 0 λp8=>
Aa p8 λa10=>
Ab T.a14 a10 1 λn11=>
Ai n11 λn12=>
Ad 0 [Ak n12])
theorem zo0 (l:Option Addr):FnS (z01s l) F.a116 #[.pointer l]:=dV ⟨[],[],[],[]⟩ Go.Proofs.Tryz.func119 (by kernel_rfl)
def z01d (pid epoch:Int) (commit:Bool) (time:Int):Prog :=
AI T.a0 λa0=>
AI T.a0 λa1=>
AJ T.a0 a1 (.agg #[Ak 0,Ak pid,Ak epoch,Ak 0,Ak 3,Ak time,.slice none 0 0])<|
AK 1 (
Ac commit (
An T.a13 a1 4 (Ak 2)<|
Ad 1 [])<|
Ad 1 [])<|
AL T.a0 a1 λn2 n3 n4 n5 n6 n7 l8=>
AJ T.a0 a0 (AM n2 n3 n4 n5 n6 n7 l8)<|
AL T.a0 a0 λn9 n10 n11 n12 n13 n14 l15=>
Ad 0 [AM n9 n10 n11 n12 n13 n14 l15]
theorem znl (pid epoch:Int) (commit:Bool) (time:Int):FnS (z01d pid epoch commit time) F.a101 #[.int .i64 pid,.int .i64 epoch,.bool commit,.int .i64 time]:=dV ⟨[(134217742,[])],[],[],[]⟩ Go.Proofs.Tryz.func121 (by kernel_rfl)
def z034 (parts:Sl):Prog :=
AA 1 (
AB 2 (0,(0,())) λn0 n1=>
Ac (decide (n1<(Ag parts))) (
.ex [.adr] (c1 λa2=>0<=n1/\n1<(Ag parts)/\parts.a=some a2) (u1 λa3=>
Af T.a50 a3 (Int.toNat n1*1) λl4=>
Ai (Ao (n0+(Ag l4))) λn5=>
Ad 2 [Ak n5,Ak (Ao (n1+1))]))<|
Ad 1 [Ak n0]) λn6=>
Ap (Instr.makeSlice T.a50 (Ak 0) (Ak n6)) λl7=>
AN 1 (
AO 2 ({ a:=l7.a,len:=l7.len,cap:=l7.cap },(0,())) λl8 n9=>
Ac (decide (n9<(Ag parts))) (
.ex [.adr] (c1 λa10=>0<=n9/\n9<(Ag parts)/\parts.a=some a10) (u1 λa11=>
Af T.a50 a11 (Int.toNat n9*1) λl12=>
Ap (app T.a50 T.a50 T.a50 l8.v l12.v) λl13=>
Ad 2 [l13.v,Ak (Ao (n9+1))]))<|
Ad 1 [l8.v]) λl14=>
Ad 0 [l14.v]
theorem zpc (parts:Sl):FnS (z034 parts) F.a176 #[.slice parts.a parts.len parts.cap]:=dV ⟨[],[(0,[(3,.one (.int .i64))]),(2,[(6,.one .slc)])],[],[(0,[(3,.one (.int .i64)),(11,.one (.int .i64))]),(2,[(6,.one .slc),(24,.one (.int .i64))])]⟩ Go.Proofs.Tryz.func123 (by kernel_rfl)
def z03g (n:Int):Prog :=
.bind 1 [.one (.int .u64),.one .slc] (
.loop 2 [.one (.int .u64),.one .slc] (n,(⟨none,0,0⟩,())) (u2 λ(n0:Int) l1=>
Ac (decide (n0>=128)) (
Ap (Instr.buildSlice T.a50 1 #[(0,.int .u8 (IntKind.wrap .u8 (((BitVec.toNat (BitVec.ofInt 8 (IntKind.wrap .u8 n0) ||| BitVec.ofInt 8 128):Nat):Int))))]) λl2=>
Ap (app T.a50 T.a50 T.a50 l1.v l2.v) λl3=>
Ah (Int.fdiv n0 128) λn4=>
Ad 2 [.int .u64 n4,l3.v])<|
Ad 1 [.int .u64 n0,l1.v])) (u2 λ(n5:Int) l6=>
Ap (Instr.buildSlice T.a50 1 #[(0,.int .u8 (IntKind.wrap .u8 n5))]) λl7=>
Ap (app T.a50 T.a50 T.a50 l6.v l7.v) λl8=>
Ad 0 [l8.v])
theorem zpo (n:Int):FnS (z03g n) F.a188 #[.int .u64 n]:=dV ⟨[],[(0,[(0,.one (.int .u64)),(3,.one .slc)])],[],[(0,[(0,.one (.int .u64)),(3,.one .slc)])]⟩ Go.Proofs.Tryz.func124 (by kernel_rfl)
def z035 (b:Sl):Prog :=
Aq F.a0 [b.v] λl0=>
As T.a60 (.agg #[l0.v,Ak 0,Ak 0]) λa1=>
Ad 0 [A8 a1]
theorem zpd (b:Sl):FnS (z035 b) F.a177 #[.slice b.a b.len b.cap]:=dV ⟨[],[],[],[]⟩ Go.Proofs.Tryz.func127 (by kernel_rfl)
def z03c (r:Option Addr):Prog :=
Aw F.a186 [Al r] λb0=>
Ac (not b0) (
Ad 0 [.int .u64 0])<|
Aa r λa2=>
AQ F.a192 [AP a2 0] λn3=>
Ah n3 λn4=>
Ad 0 [.int .u64 n4]
theorem zpk (r:Option Addr):FnS (z03c r) F.a184 #[.pointer r]:=dV ⟨[],[],[],[]⟩ Go.Proofs.Tryz.func128 (by kernel_rfl)
def z037 (r:Option Addr):Prog :=
Ac (Option.isNone r) (
Ad 0 [Ak 1])<|
Aa r λa1=>
AC F.a190 [AP a1 0] λn2=>
AK 1 (
Ac (decide (n2>0)) (
Aa r λa4=>
Am F.a189 [AP a4 0,Ak 6]<|
Ad 1 [])<|
Ad 1 [])<|
Aa r λa6=>
Ab T.a1 (Addr.add a6 0) 2 λn7=>
Ai n7 λn8=>
Ad 0 [Ak n8]
theorem zpf (r:Option Addr):FnS (z037 r) F.a179 #[.pointer r]:=dV ⟨[(62914569,[])],[],[],[]⟩ Go.Proofs.Tryz.func129 (by kernel_rfl)
def z02y (b:Sl):Prog :=
AA 1 (
AR 2 (0,()) λn0=>
.ex [.adr] (c1 λa1=>(decide (n0<(Ag b)) && decide (n0<10))=true->0<=n0/\n0<(Ag b)/\b.a=some a1) (u1 λa2=>
AS ((decide (n0<(Ag b)) && decide (n0<10))=true) T.a58 a2 (Int.toNat n0*1) λn3=>
Ac (decide (n0<(Ag b)) && decide (n0<10) && decide (n3>=128)) (
Ai (Ao (n0+1)) λn4=>
Ad 2 [Ak n4])<|
Ad 1 [Ak n0])) λn5=>
Ac (decide (n5>=(Ag b)) || decide (n5>=10)) (
Ad 0 [.int .u64 0,Ak 0])<|
.ex [.adr] (c1 λa6=>decide (n5>0)=true->0<=n5/\n5<(Ag b)/\b.a=some a6) (u1 λa7=>
AS (decide (n5>0)=true) T.a58 a7 (Int.toNat n5*1) λn8=>
.ex [.adr] (c1 λa9=>(decide (n5>0) && n8 == 0)=false/\(n5 == 9)=true->0<=n5/\n5<(Ag b)/\b.a=some a9) (u1 λa10=>
AS ((decide (n5>0) && n8 == 0)=false/\(n5 == 9)=true) T.a58 a10 (Int.toNat n5*1) λn11=>
Ac (decide (n5>0) && n8 == 0 || n5 == 9 && decide (n11>1)) (
Ad 0 [.int .u64 0,Ak 0])<|
Ai n5 λn12=>
.bind 1 [.one (.int .u64)] (
.loop 2 [.one (.int .u64),.one (.int .i64)] (0,(n12,())) (u2 λ(n13 n14:Int)=>
Ac (decide (n14>=0)) (
.ex [.adr] (c1 λa15=>0<=n14/\n14<(Ag b)/\b.a=some a15) (u1 λa16=>
AT T.a58 a16 (Int.toNat n14*1) λn17=>
Ah (IntKind.wrap .u64 (IntKind.wrap .u64 (n13*128)+IntKind.wrap .u64 (Int.tmod n17 128))) λn18=>
Ai (Ao (n14-1)) λn19=>
Ad 2 [.int .u64 n18,Ak n19]))<|
Ad 1 [.int .u64 n13])) (u1 λ(n20:Int)=>
Ah n20 λn21=>
Ai (Ao (n5+1)) λn22=>
Ad 0 [.int .u64 n21,Ak n22])))
theorem zp6 (b:Sl):FnS (z02y b) F.a170 #[.slice b.a b.len b.cap]:=dV ⟨[],[(0,[(4,.one (.int .i64))]),(2,[(5,.one (.int .u64))])],[],[(0,[(4,.one (.int .i64))]),(2,[(5,.one (.int .u64)),(6,.one (.int .i64))])]⟩ Go.Proofs.Tryz.func131 (by kernel_rfl)
def z02x (r:Option Addr) (e_:Int):Prog :=
Aa r λa1=>
Ab T.a1 a1 2 λn2=>
AK 1 (
Ac (n2 == 0) (
Aa r λa4=>
An T.a1 a4 2 (Ak e_)<|
Ad 1 [])<|
Ad 1 [])<|
Ad 0 []
theorem zp5 (r:Option Addr) (e_:Int):FnS (z02x r e_) F.a168 #[.pointer r,.int .i64 e_]:=dV ⟨[(31457288,[])],[],[],[]⟩ Go.Proofs.Tryz.func132 (by kernel_rfl)
def z01u (l:Option Addr) (offset:Int) (most:Int):Prog :=
As T.a33 (Al l) λa0=>
As T.a14 (Ak offset) λa1=>
As T.a13 (Ak most) λa2=>
AU T.a33 a0 λp3=>
Au (Option.isNone p3) (
Ad 0 [.slice none 0 0,Ak 1])<|
.read True (ld T.a13 a2) (sI .i64) (u1 λ(n5:Int)=>
Au (decide (n5<1)) (
Ad 0 [.slice none 0 0,Ak 2])<|
Av 1 (
Ae<|
.hold True (ld T.a14 a1) (sI .i64) (u1 λ(n7:Int)=>
AU T.a33 a0 λp8=>
AC F.a116 [Al p8] λn9=>
AV (decide (n7<n9)=false) (ld T.a14 a1) λn10=>
.read (decide (n7<n9)=false) (ld T.a33 a0) sP (u1 λp11=>
Ac (decide (n7<n9)) (
Aj<|
Ad 1 [.bool true])<|
AC F.a117 [Al p11] λn12=>
Ay (decide (n10>n12)) λb13=>
Aj<|
Ad 1 [.bool b13]))) λb14=>
Ac b14 (
Ad 0 [.slice none 0 0,Ak 8])<|
AI T.a38 λa15=>
AU T.a33 a0 λp16=>
Aa p16 λa18=>
Af T.a45 a18 4 λl19=>
AC F.a159 [Ak (Ag l19),.func (Fn.func 197) #[] #[A8 a0,A8 a1]] λn20=>
Ai (Ao (n20-1)) λn21=>
Ai (if 0>n21 then 0 else n21) λn22=>
AK 1 (
AR 2 (n22,()) λn23=>
AU T.a33 a0 λp24=>
Aa p24 λa26=>
Af T.a45 a26 4 λl27=>
Ac (decide (n23<(Ag l27))) (
AU T.a33 a0 λp28=>
Aa p28 λa30=>
Af T.a45 a30 4 λl31=>
.ex [.adr] (c1 λa32=>0<=n23/\n23<(Ag l31)/\l31.a=some a32) (u1 λa33=>
AH T.a34 a33 (Int.toNat n23*1) λp34=>
Av 3 (
Ae<|
.hold True (ld T.a33 a0) sP (u1 λp35=>
.read True (ld T.a14 a1) (sI .i64) (u1 λ(n36:Int)=>
AC F.a139 [Al p34,Ak n36] λn37=>
Aj<|
Aw F.a132 [Al p35,Al p34,Ak n37,.func (Fn.func 200) #[] #[A8 a1,A8 a15,A8 a2]] λb38=>
Ay b38 λb39=>
Aj<|
Ad 3 [.bool b39]))) λb40=>
Ac (not b40) (
Ad 1 [])<|
Ai (Ao (n23+1)) λn41=>
Ad 2 [Ak n41]))<|
Ad 1 [])<|
AW (ld T.a38 a15) λl42=>
Ad 0 [l42.v,Ak 0])
theorem zo2 (l:Option Addr) (offset most:Int):FnS (z01u l offset most) F.a118 #[.pointer l,.int .i64 offset,.int .i64 most]:=dV ⟨[],[(1,[])],[(5,[(18,.one .bool)]),(13,[(11,.one .bool)])],[(1,[(9,.one (.int .i64))])]⟩ Go.Proofs.Tryz.func135 (by kernel_rfl)
def z01b (l:Sl):Prog :=
AN 1 (
AO 2 (⟨none,0,0⟩,(0,())) λl0 n1=>
Ac (decide (n1<(Ag l))) (
AN 3 (
.ex [.adr] (c1 λa2=>0<=n1/\n1<(Ag l)/\l.a=some a2) (u1 λa3=>
AX T.a0 a3 (Int.toNat n1*7) λn4 n5 n6 n7 n8 n9 l10=>
AI T.a0 λa11=>
AJ T.a0 a11 (AM n4 n5 n6 n7 n8 n9 l10)<|
AL T.a0 a11 λn12 n13 n14 n15 n16 n17 l18=>
Aw F.a107 [AM n12 n13 n14 n15 n16 n17 l18] λb19=>
Ac b19 (
Ad 3 [l0.v])<|
Af T.a39 a11 6 λl20=>
AN 4 (
AO 5 ({ a:=l0.a,len:=l0.len,cap:=l0.cap },(0,())) λl21 n22=>
Ac (decide (n22<(Ag l20))) (
.ex [.adr] (c1 λa23=>0<=n22/\n22<(Ag l20)/\l20.a=some a23) (u1 λa24=>
AY T.a2 a24 (Int.toNat n22*4) λs25 s26 b27 n28=>
AI T.a2 λa29=>
Ai n22 λn30=>
AJ T.a2 a29 (AZ s25 s26 b27 n28)<|
Ab T.a14 a11 0 λn31=>
Ba T.a2 a29 λs32 s33 b34 n35=>
Ap (Instr.buildSlice T.a46 1 #[(0,.agg #[Ak (Ao (n31+n30)),.string s32,.string s33,.bool b34,Ak n35])]) λl36=>
Ap (app T.a46 T.a46 T.a46 l21.v l36.v) λl37=>
Ad 5 [l37.v,Ak (Ao (n22+1))]))<|
Ad 4 [l21.v]) λl38=>
Ad 3 [l38.v])) λl39=>
Ad 2 [l39.v,Ak (Ao (n1+1))])<|
Ad 1 [l0.v]) λl40=>
Ad 0 [l40.v]
theorem znj (l:Sl):FnS (z01b l) F.a99 #[.slice l.a l.len l.cap]:=dV ⟨[],[(0,[(3,.one .slc)]),(1,[(3,.one .slc)]),(2,[(3,.one .slc)])],[],[(0,[(3,.one .slc),(10,.one (.int .i64))]),(2,[(3,.one .slc),(19,.one (.int .i64))])]⟩ Go.Proofs.Tryz.func138 (by kernel_rfl)
def z01e (b_0 b_1 b_2 b_3 b_4 b_5:Int) (b_6:Sl):Prog :=
As T.a0 (AM b_0 b_1 b_2 b_3 b_4 b_5 b_6) λa0=>
AL T.a0 a0 λn1 n2 n3 n4 n5 n6 l7=>
AC F.a104 [AM n1 n2 n3 n4 n5 n6 l7] λn8=>
Ac (n8 != 0) (
Ad 0 [Ak 0])<|
Ae<|
Bb T.a14 a0 0 λn9=>
AL T.a0 a0 λn10 n11 n12 n13 n14 n15 l16=>
AC F.a103 [AM n10 n11 n12 n13 n14 n15 l16] λn17=>
Ai (Ao (n9+n17)) λn18=>
Aj<|
Ad 0 [Ak n18]
theorem znm (b_0 b_1 b_2 b_3 b_4 b_5:Int) (b_6:Sl):FnS (z01e b_0 b_1 b_2 b_3 b_4 b_5 b_6) F.a102 #[.agg #[.int .i64 b_0,.int .i64 b_1,.int .i64 b_2,.int .i64 b_3,.int .i64 b_4,.int .i64 b_5,.slice b_6.a b_6.len b_6.cap]]:=dV ⟨[],[],[],[]⟩ Go.Proofs.Tryz.func139 (by kernel_rfl)
def z039 (r:Option Addr):Prog :=
Aw F.a186 [Al r] λb0=>
Ac (not b0) (
Ad 0 [.bool false])<|
Ae<|
Aa r λa2=>
AC F.a190 [AP a2 0] λn3=>
AF ((n3 == 0)=false) r λa5=>
AG ((n3 == 0)=false) T.a50 (Addr.add a5 0) 0 λl6=>
AF ((n3 == 0)=false) r λa8=>
Bc ((n3 == 0)=false) T.a13 (Addr.add a8 0) 1 λn9=>
.ex [.adr] (c1 λa10=>(n3 == 0)=false->0<=n9/\n9<(Ag l6)/\l6.a=some a10) (u1 λa11=>
AS ((n3 == 0)=false) T.a58 a11 (Int.toNat n9*1) λn12=>
Aj<|
Ac (n3 == 0 || decide (n12>1)) (
Aa r λa14=>
Am F.a189 [AP a14 0,Ak 6]<|
Ad 0 [.bool false])<|
Aa r λa16=>
Aq F.a191 [AP a16 0,Ak 1] λl17=>
.ex [.adr] (c1 λa18=>(0:Int)<=0/\0<(Ag l17)/\l17.a=some a18) (u1 λa19=>
AT T.a58 a19 0 λn20=>
Ay (n20 == 1) λb21=>
Ad 0 [.bool b21]))
theorem zph (r:Option Addr):FnS (z039 r) F.a181 #[.pointer r]:=dV ⟨[],[],[],[]⟩ Go.Proofs.Tryz.func143 (by kernel_rfl)
def z038 (r:Option Addr):Prog :=
Ac (Option.isNone r) (
Ad 0 [Ak 1])<|
Aa r λa1=>
Ab T.a1 (Addr.add a1 0) 2 λn2=>
Ai n2 λn3=>
Ad 0 [Ak n3]
theorem zpg (r:Option Addr):FnS (z038 r) F.a180 #[.pointer r]:=dV ⟨[],[],[],[]⟩ Go.Proofs.Tryz.func144 (by kernel_rfl)
def zf0 (b:Sl):Prog :=
Ac (Option.isNone b.a) (
Ad 0 [.slice none 0 0])<|
Ap (Instr.buildSlice T.a50 0 #[]) λl0=>
Ap (app T.a50 T.a50 T.a50 l0.v b.v) λl1=>
Ad 0 [l1.v]
theorem zkb (b:Sl):FnS (zf0 b) F.a0 #[.slice b.a b.len b.cap]:=dV ⟨[],[],[],[]⟩ Go.Proofs.Tryz.func161 (by kernel_rfl)
def z02a (s:ByteArray):Prog :=
Ac (decide (((ByteArray.size s:Nat):Int)<1) || decide (((ByteArray.size s:Nat):Int)>8)) (
Ad 0 [.bool false])<|
Ap (convert T.a54 T.a50 (.string s)) λl0=>
AK 1 (
AR 2 (0,()) λn1=>
Ac (decide (n1<(Ag l0))) (
.ex [.adr] (c1 λa2=>0<=n1/\n1<(Ag l0)/\l0.a=some a2) (u1 λa3=>
AT T.a58 a3 (Int.toNat n1*1) λn4=>
Bd n4 λn5=>
Ac (not (decide (n5>=97) && decide (n5<=122) || decide (n5>=48) && decide (n5<=57))) (
Ad 0 [.bool false])<|
Ad 2 [Ak (Ao (n1+1))]))<|
Ad 1 [])<|
Ad 0 [.bool true]
theorem zoi (s:ByteArray):FnS (z02a s) F.a134 #[.string s]:=dV ⟨[],[(0,[])],[],[(0,[(16,.one (.int .i64))])]⟩ Go.Proofs.Tryz.func162 (by kernel_rfl)
def z02e (c_0:Int) (c_1:Int):Prog :=
As T.a51 (Ar c_0 c_1) λa0=>
Ab T.a13 a0 0 λn1=>
Bc (decide (n1>=64)=true) T.a13 a0 0 λn2=>
Bc ((decide (n1>=64) && decide (n2<=4194304))=true) T.a13 a0 1 λn3=>
Bc ((decide (n1>=64) && decide (n2<=4194304) && decide (n3>=1))=true) T.a13 a0 1 λn4=>
Ay (decide (n1>=64) && decide (n2<=4194304) && decide (n3>=1) && decide (n4<=4194304)) λb5=>
Ad 0 [.bool b5]
theorem zom (c_0 c_1:Int):FnS (z02e c_0 c_1) F.a138 #[.agg #[.int .i64 c_0,.int .i64 c_1]]:=dV ⟨[],[],[],[]⟩ Go.Proofs.Tryz.func163 (by kernel_rfl)
def z020 (l:Option Addr):Prog :=
Ae<|
Aa l λa1=>
AH T.a28 a1 0 λp2=>
Aa l λa4=>
Be T.a54 a4 1 λs5=>
.must (((ByteArray.size s5+1:Nat):Int)<=9223372036854775807) <|
Aq F.a27 [Al p2,.string (s5++(ByteArray.mk #[45]))] λl6=>
Aj<|
AN 1 (
AO 2 (⟨none,0,0⟩,(0,())) λl7 n8=>
Ac (decide (n8<(Ag l6))) (
.ex [.adr] (c1 λa9=>0<=n8/\n8<(Ag l6)/\l6.a=some a9) (u1 λa10=>
Be T.a54 a10 (Int.toNat n8*1) λs11=>
Bf s11 λs12=>
Bg F.a122 [Al l,.string s12,.string (ByteArray.mk #[46,108,111,103])] λn13 b14=>
Ai n13 λn15=>
Ay b14 λb16=>
AN 3 (
Ac b16 (
Ap (Instr.buildSlice T.a41 1 #[(0,Ak n15)]) λl17=>
Ap (app T.a41 T.a41 T.a41 l7.v l17.v) λl18=>
Ad 3 [l18.v])<|
Ad 3 [l7.v]) λl19=>
Bg F.a122 [Al l,.string s12,.string (ByteArray.mk #[46,110,101,119])] λn20 b21=>
Ai n20 λn22=>
Ay b21 λb23=>
AK 3 (
Ac b23 (
Aa l λa25=>
AH T.a28 a25 0 λp26=>
AC F.a29 [Al p26,.string s12] λn27=>
Ai n27 λn28=>
Ac (n28 != 0) (
Ai n28 λn29=>
Ad 0 [.slice none 0 0,Ak n29])<|
Ad 3 [])<|
Ad 3 [])<|
Ad 2 [l19.v,Ak (Ao (n8+1))]))<|
Ad 1 [l7.v]) λl30=>
Ad 0 [l30.v,Ak 0]
theorem zo8 (l:Option Addr):FnS (z020 l) F.a124 #[.pointer l]:=dV ⟨[(1055531162730529,[(4,.one .slc)]),(73642861106770788396,[])],[(0,[(4,.one .slc)])],[],[(0,[(4,.one .slc),(23,.one (.int .i64))])]⟩ Go.Proofs.Tryz.func164 (by kernel_rfl)
def z01t (l:Option Addr):Prog :=
AF (Option.isNone l=false) l λa1=>
AG (Option.isNone l=false) T.a45 a1 4 λl2=>
Ac (Option.isNone l || (Ag l2) == 0) (
Ad 0 [Ak 0])<|
Bh F.a126 [Al l] λp3=>
AC F.a140 [Al p3] λn4=>
Ai n4 λn5=>
Ad 0 [Ak n5]
theorem zo1 (l:Option Addr):FnS (z01t l) F.a117 #[.pointer l]:=dV ⟨[],[],[],[]⟩ Go.Proofs.Tryz.func165 (by kernel_rfl)
def z023 (l:Option Addr) (base:Int) (end_:ByteArray):Prog :=
Ap (Instr.makeSlice T.a50 (Ak 11) (Ak 11)) λl0=>
AK 1 (
AB 2 (base,(10,())) λn1 n2=>
Ac (decide (n2>=0)) (
.must (0<=Ao (((BitVec.toNat (BitVec.ofInt 64 n1 &&& BitVec.ofInt 64 15):Nat):Int))/\Ao (((BitVec.toNat (BitVec.ofInt 64 n1 &&& BitVec.ofInt 64 15):Nat):Int))<16) <|
.ex [.adr] (c1 λa3=>0<=n2/\n2<(Ag l0)/\l0.a=some a3) (u1 λa4=>
An T.a58 a4 (Int.toNat n2*1) (.int .u8 (bt (ByteArray.mk #[48,49,50,51,52,53,54,55,56,57,97,98,99,100,101,102]) (Ao (((BitVec.toNat (BitVec.ofInt 64 n1 &&& BitVec.ofInt 64 15):Nat):Int)))))<|
Ai (Int.fdiv n1 16) λn5=>
Ai (Ao (n2-1)) λn6=>
Ad 2 [Ak n5,Ak n6]))<|
Ad 1 [])<|
Ae<|
Aa l λa8=>
Be T.a54 a8 1 λs9=>
.must (((ByteArray.size s9+1:Nat):Int)<=9223372036854775807) <|
Bi (convert T.a50 T.a54 l0.v) λs10=>
.must (((ByteArray.size (s9++(ByteArray.mk #[45]))+ByteArray.size s10:Nat):Int)<=9223372036854775807) <|
.must (((ByteArray.size (s9++(ByteArray.mk #[45])++s10)+ByteArray.size end_:Nat):Int)<=9223372036854775807) <|
Bf (s9++(ByteArray.mk #[45])++s10++end_) λs11=>
Aj<|
Ad 0 [.string s11]
theorem zob (l:Option Addr) (base:Int) (end_:ByteArray):FnS (z023 l base end_) F.a127 #[.pointer l,.int .i64 base,.string end_]:=dV ⟨[],[(0,[])],[],[(0,[(1,.one (.int .i64)),(8,.one (.int .i64))])]⟩ Go.Proofs.Tryz.func166 (by kernel_rfl)
def z026 (l:Option Addr) (base:Int):Prog :=
AD F.a127 [Al l,Ak base,.string (ByteArray.mk #[46,108,111,103])] λs0=>
Bf s0 λs1=>
Aa l λa3=>
AH T.a28 a3 0 λp4=>
A9 F.a28 [Al p4,.string s1] λl5 n6=>
Ai n6 λn7=>
Ac (n7 != 0) (
Ai n7 λn8=>
Ad 0 [.bool false,Ak n8])<|
Bj F.a38 [l5.v] λl9 n10 b11=>
Ai n10 λn12=>
Ay b11 λb13=>
.bind 1 [.one (.int .i64),.one .bool] (
Ac b13 (
Bg F.a136 [l9.v,Ak base] λn14 b15=>
Ai n14 λn16=>
Ay b15 λb17=>
Ad 1 [Ak n16,.bool b17])<|
Ad 1 [Ak 0,.bool false]) (u2 λ(n18:Int) b19=>
Ac (not b19) (
Aa l λa21=>
AH T.a28 a21 0 λp22=>
AC F.a29 [Al p22,.string s1] λn23=>
Ai n23 λn24=>
Ad 0 [.bool false,Ak n24])<|
Bh F.a131 [Al l,Ak base,Ak n18] λp25=>
Ai base λn26=>
AA 1 (
AB 2 (n12,(n26,())) λn27 n28=>
.must (0<=n27/\n27<=(Ag l5)) <|
Bj F.a38 [.slice (z0q l5.a 1 (Int.toNat n27) l5.cap) (l5.len-Int.toNat n27) (l5.cap-Int.toNat n27)] λl29 n30 b31=>
Ai n30 λn32=>
Ay b31 λb33=>
Ac (not b33) (
Ad 1 [Ak n27])<|
.call F.a97 [l29.v] (.tup [.agg [.int .i64,.int .i64,.int .i64,.int .i64,.int .i64,.int .i64,.slc],.one (.int .i64)]) (u8 λ(n34 n35 n36 n37 n38 n39:Int) l40 (n41:Int)=>
AI T.a0 λa42=>
AJ T.a0 a42 (AM n34 n35 n36 n37 n38 n39 l40)<|
Ai n41 λn43=>
Bc ((n43 != 0)=false) T.a14 a42 0 λn44=>
Ac (n43 != 0 || decide (n44<n28)) (
Ad 1 [Ak n27])<|
AL T.a0 a42 λn45 n46 n47 n48 n49 n50 l51=>
Am F.a141 [Al p25,AM n45 n46 n47 n48 n49 n50 l51,Ak n32]<|
Aa p25 λa53=>
Ab T.a14 a53 3 λn54=>
Ai n54 λn55=>
Ai (Ao (n27+n32)) λn56=>
Ad 2 [Ak n56,Ak n55])) λn57=>
Am F.a129 [Al l,Al p25]<|
Ac (n57 == (Ag l5)) (
Ad 0 [.bool true,Ak 0])<|
Aa l λa59=>
AH T.a28 a59 0 λp60=>
AC F.a24 [Al p60,.string s1,Ak n57] λn61=>
Ai n61 λn62=>
Ad 0 [.bool false,Ak n62])
theorem zoe (l:Option Addr) (base:Int):FnS (z026 l base) F.a130 #[.pointer l,.int .i64 base]:=dV ⟨[(2269814212245061674,[(12,.one (.int .i64)),(13,.one .bool)])],[(0,[(10,.one (.int .i64))])],[],[(0,[(10,.one (.int .i64)),(15,.one (.int .i64))])]⟩ Go.Proofs.Tryz.func167 (by kernel_rfl)
def z01z (l:Option Addr) (bases:Sl):Prog :=
AK 1 (
AR 2 (0,()) λn0=>
Ac (decide (n0<(Ag bases))) (
.ex [.adr] (c1 λa1=>0<=n0/\n0<(Ag bases)/\bases.a=some a1) (u1 λa2=>
Ab T.a14 a2 (Int.toNat n0*1) λn3=>
Ai n3 λn4=>
AA 3 (
Ae<|
Aa l λa6=>
Bk T.a28 a6 0 λp7=>
AD F.a127 [Al l,Ak n4,.string (ByteArray.mk #[46,108,111,103])] λs8=>
Aj<|
AC F.a29 [Al p7,.string s8] λn9=>
Ai n9 λn10=>
Aj<|
Ad 3 [Ak n10]) λn11=>
Ac (n11 != 0) (
Ai n11 λn12=>
Ad 0 [Ak n12])<|
Ad 2 [Ak (Ao (n0+1))]))<|
Ad 1 [])<|
Ad 0 [Ak 0]
theorem zo7 (l:Option Addr) (bases:Sl):FnS (z01z l bases) F.a123 #[.pointer l,.slice bases.a bases.len bases.cap]:=dV ⟨[],[(0,[])],[(4,[(7,.one (.int .i64))])],[(0,[(10,.one (.int .i64))])]⟩ Go.Proofs.Tryz.func168 (by kernel_rfl)
def z08r (b:Sl):Prog :=
Bj F.a38 [b.v] λl0 n1 b2=>
Ai n1 λn3=>
Ay b2 λb4=>
Ac (not b4 || n3 != (Ag b)) (
Ad 0 [.slice none 0 0,.bool false])<|
Ad 0 [l0.v,.bool true]
theorem zu7 (b:Sl):FnS (z08r b) F.a40 #[.slice b.a b.len b.cap]:=dV ⟨[],[],[],[]⟩ Go.Proofs.Tryz.func177 (by kernel_rfl)
def z03b (r:Option Addr) (most:Int):Prog :=
Aw F.a186 [Al r] λb0=>
Ac (not b0) (
Ad 0 [.string (ByteArray.mk #[])])<|
Aa r λa2=>
Ab T.a13 (Addr.add a2 0) 1 λn3=>
Ai n3 λn4=>
Aa r λa6=>
AQ F.a192 [AP a6 0] λn7=>
Ah n7 λn8=>
Aa r λa10=>
Ab T.a1 (Addr.add a10 0) 2 λn11=>
Ay (n11 != 0) λb12=>
AK 1 (
Ac b12 (
Ad 1 [])<|
Ay (decide (n8>IntKind.wrap .u64 (if 0>most then 0 else most))) λb13=>
AK 2 (
Ac b13 (
Aa r λa15=>
Am F.a189 [AP a15 0,Ak 7]<|
Ad 2 [])<|
Aa r λa17=>
AC F.a190 [AP a17 0] λn18=>
Au (decide (n8>IntKind.wrap .u64 n18)) (
Aa r λa21=>
Am F.a189 [AP a21 0,Ak 6]<|
Ad 2 [])<|
Aa r λa23=>
Aq F.a191 [AP a23 0,Ak (Ao n8)] λl24=>
Bi (convert T.a50 T.a54 l24.v) λs25=>
Bf s25 λs26=>
Ad 0 [.string s26])<|
Ad 1 [])<|
Aa r λa28=>
An T.a13 (Addr.add a28 0) 1 (Ak n4)<|
Ad 0 [.string (ByteArray.mk #[])]
theorem zpj (r:Option Addr) (most:Int):FnS (z03b r most) F.a183 #[.pointer r,.int .i64 most]:=dV ⟨[(147571701062593216545,[]),(147573917678034812954,[])],[],[],[]⟩ Go.Proofs.Tryz.func178 (by kernel_rfl)
def z01r (l:Option Addr) (bs:Sl):Prog :=
Ac (Option.isNone l) (
Ad 0 [Ak 0,Ak 1])<|
Ac ((Ag bs) == 0) (
Ad 0 [Ak 0,Ak 3])<|
.call F.a128 [Al l,bs.v] (.tup [.one .slc,.one .slc,.one (.int .i64)]) (u3 λl0 l1 (n2:Int)=>
Ai n2 λn3=>
Ac (n3 != 0) (
Ai n3 λn4=>
Ad 0 [Ak 0,Ak n4])<|
AA 1 (
AB 2 (0,(0,())) λn5 n6=>
Ac (decide (n6<(Ag l1))) (
.ex [.adr] (c1 λa7=>0<=n6/\n6<(Ag l1)/\l1.a=some a7) (u1 λa8=>
Af T.a50 a8 (Int.toNat n6*1) λl9=>
Ai (Ao (n5+(Ag l9))) λn10=>
Ad 2 [Ak n10,Ak (Ao (n6+1))]))<|
Ad 1 [Ak n5]) λn11=>
Bh F.a126 [Al l] λp12=>
Aw F.a125 [Al l,Ak n11] λb13=>
.bind 1 [.one .ptr] (
Ac (not b13) (
AC F.a121 [Al l] λn14=>
Ai n14 λn15=>
Ac (n15 != 0) (
Ai n15 λn16=>
Ad 0 [Ak 0,Ak n16])<|
AC F.a117 [Al l] λn17=>
Bh F.a131 [Al l,Ak n17,Ak 0] λp18=>
AA 2 (
Ae<|
Aa l λa20=>
Bk T.a28 a20 0 λp21=>
Aa p18 λa23=>
Ab T.a14 a23 1 λn24=>
Aa p18 λa26=>
Bb T.a14 a26 1 λn27=>
AD F.a127 [Al l,Ak n24,.string (ByteArray.mk #[46,108,111,103])] λs28=>
Aq F.a135 [Ak n27,Ak 0] λl29=>
Ap (Instr.buildSlice T.a47 1 #[(0,l29.v)]) λl30=>
Ap (app T.a47 T.a47 T.a47 l30.v l1.v) λl31=>
Aj<|
AC F.a23 [Al p21,.string s28,l31.v] λn32=>
Ai n32 λn33=>
Aj<|
Ad 2 [Ak n33]) λn34=>
Ac (n34 != 0) (
Ai n34 λn35=>
Ad 0 [Ak 0,Ak n35])<|
Am F.a129 [Al l,Al p18]<|
Ad 1 [Al p18])<|
AA 2 (
Ae<|
Aa l λa37=>
Bk T.a28 a37 0 λp38=>
Aa p12 λa40=>
Ab T.a14 a40 1 λn41=>
AD F.a127 [Al l,Ak n41,.string (ByteArray.mk #[46,108,111,103])] λs42=>
Aj<|
AC F.a23 [Al p38,.string s42,l1.v] λn43=>
Ai n43 λn44=>
Aj<|
Ad 2 [Ak n44]) λn45=>
Ac (n45 != 0) (
Ai n45 λn46=>
Ad 0 [Ak 0,Ak n46])<|
Ad 1 [Al p12]) (u1 λp47=>
AK 1 (
AR 2 (0,()) λn48=>
Ac (decide (n48<(Ag l0))) (
.ex [.adr] (c1 λa49=>0<=n48/\n48<(Ag l0)/\l0.a=some a49) (u1 λa50=>
AX T.a0 a50 (Int.toNat n48*7) λn51 n52 n53 n54 n55 n56 l57=>
AI T.a0 λa58=>
Ai n48 λn59=>
AJ T.a0 a58 (AM n51 n52 n53 n54 n55 n56 l57)<|
Ae<|
AL T.a0 a58 λn60 n61 n62 n63 n64 n65 l66=>
.ex [.adr] (c1 λa67=>0<=n59/\n59<(Ag l1)/\l1.a=some a67) (u1 λa68=>
Af T.a50 a68 (Int.toNat n59*1) λl69=>
Am F.a141 [Al p47,AM n60 n61 n62 n63 n64 n65 l66,Ak (Ag l69)]<|
Aj<|
Ad 2 [Ak (Ao (n48+1))])))<|
Ad 1 [])<|
.ex [.adr] (c1 λa70=>(0:Int)<=0/\0<(Ag l0)/\l0.a=some a70) (u1 λa71=>
Ab T.a14 (Addr.add a71 0) 0 λn72=>
Ai n72 λn73=>
Ad 0 [Ak n73,Ak 0])))
theorem znz (l:Option Addr) (bs:Sl):FnS (z01r l bs) F.a115 #[.pointer l,.slice bs.a bs.len bs.cap]:=dV ⟨[(2596148429267409202579229989077041,[(12,.one .ptr)])],[(0,[(9,.one (.int .i64))]),(2,[])],[(20,[(14,.one (.int .i64))]),(24,[(15,.one (.int .i64))])],[(0,[(9,.one (.int .i64)),(35,.one (.int .i64))]),(2,[(101,.one (.int .i64))])]⟩ Go.Proofs.Tryz.func187 (by kernel_rfl)
def z01x (l:Option Addr):Prog :=
Ac (Option.isNone l) (
Ad 0 [Ak 1])<|
Bh F.a126 [Al l] λp0=>
Ac (not (Option.isNone p0)) (
AA 1 (
Ae<|
Aa l λa2=>
Bk T.a28 a2 0 λp3=>
Aa p0 λa5=>
Ab T.a14 a5 1 λn6=>
AD F.a127 [Al l,Ak n6,.string (ByteArray.mk #[46,108,111,103])] λs7=>
Ap (Instr.buildSlice T.a48 1 #[(0,.string s7)]) λl8=>
Aj<|
AC F.a31 [Al p3,l8.v] λn9=>
Ai n9 λn10=>
Aj<|
Ad 1 [Ak n10]) λn11=>
Ad 0 [Ak n11])<|
Ad 0 [Ak 0]
theorem zo5 (l:Option Addr):FnS (z01x l) F.a121 #[.pointer l]:=dV ⟨[],[],[(5,[(2,.one (.int .i64))])],[]⟩ Go.Proofs.Tryz.func188 (by kernel_rfl)
def z0a1 (b_0 b_1 b_2 b_3 b_4 b_5:Int) (b_6:Sl):Prog :=
As T.a0 (AM b_0 b_1 b_2 b_3 b_4 b_5 b_6) λa0=>
AI T.a0 λa1=>
Af T.a39 a0 6 λl2=>
Ap (app T.a39 T.a39 T.a39 (.slice none 0 0) l2.v) λl3=>
An T.a39 a0 6 l3.v<|
AL T.a0 a0 λn4 n5 n6 n7 n8 n9 l10=>
AJ T.a0 a1 (AM n4 n5 n6 n7 n8 n9 l10)<|
AL T.a0 a1 λn11 n12 n13 n14 n15 n16 l17=>
Ad 0 [AM n11 n12 n13 n14 n15 n16 l17]
theorem zvi (b_0 b_1 b_2 b_3 b_4 b_5:Int) (b_6:Sl):FnS (z0a1 b_0 b_1 b_2 b_3 b_4 b_5 b_6) F.a96 #[.agg #[.int .i64 b_0,.int .i64 b_1,.int .i64 b_2,.int .i64 b_3,.int .i64 b_4,.int .i64 b_5,.slice b_6.a b_6.len b_6.cap]]:=dV ⟨[],[],[],[]⟩ Go.Proofs.Tryz.func189 (by kernel_rfl)
def z03e (r:Option Addr):Prog :=
AF (not (Option.isNone r)=true) r λa1=>
Bc (not (Option.isNone r)=true) T.a1 (Addr.add a1 0) 2 λn2=>
Ay (not (Option.isNone r) && n2 == 0) λb3=>
Ad 0 [.bool b3]
theorem zpm (r:Option Addr):FnS (z03e r) F.a186 #[.pointer r]:=dV ⟨[],[],[],[]⟩ Go.Proofs.Tryz.func190 (by kernel_rfl)
def z03k (p:Option Addr):Prog :=
AK 1 (
.loop 2 [.one (.int .u64),.one (.int .i64)] (0,(0,())) (u2 λ(n0 n1:Int)=>
Ac (decide (n1<10)) (
AC F.a190 [Al p] λn2=>
Ac (decide (n1>=n2)) (
Ad 1 [])<|
Ae<|
Aa p λa4=>
Af T.a50 a4 0 λl5=>
Aa p λa7=>
Ab T.a13 a7 1 λn8=>
.ex [.adr] (c1 λa9=>0<=Ao (n8+n1)/\Ao (n8+n1)<(Ag l5)/\l5.a=some a9) (u1 λa10=>
AT T.a58 a10 (Int.toNat (Ao (n8+n1))*1) λn11=>
Bd n11 λn12=>
Aj<|
Ac (n1 == 9 && decide (n12>1)) (
Ad 1 [])<|
.must (0<=Ao (7*n1)) <|
Ah (IntKind.wrap .u64 (((BitVec.toNat (BitVec.ofInt 64 n0 ||| BitVec.ofInt 64 (IntKind.wrap .u64 (IntKind.wrap .u64 (IntKind.wrap .u8 (((BitVec.toNat (BitVec.ofInt 8 n12 &&& BitVec.ofInt 8 127):Nat):Int)))*2 ^ min (Int.toNat (Ao (7*n1))) 64))):Nat):Int))) λn13=>
Ac (decide (n12>=128)) (
Ai (Ao (n1+1)) λn14=>
Ad 2 [.int .u64 n13,Ak n14])<|
Ac (n12 == 0 && decide (n1>0)) (
Ad 1 [])<|
Aa p λa16=>
Ab T.a13 a16 1 λn17=>
Aa p λa19=>
An T.a13 a19 1 (Ak (Ao (n17+Ao (n1+1))))<|
Ah n13 λn20=>
Ad 0 [.int .u64 n20]))<|
Ad 1 []))<|
Am F.a189 [Al p,Ak 6]<|
Ad 0 [.int .u64 0]
theorem zps (p:Option Addr):FnS (z03k p) F.a192 #[.pointer p]:=dV ⟨[],[(0,[])],[],[(0,[(3,.one (.int .u64)),(4,.one (.int .i64))])]⟩ Go.Proofs.Tryz.func191 (by kernel_rfl)
def z03i (p:Option Addr):Prog :=
Ae<|
Aa p λa1=>
Af T.a50 a1 0 λl2=>
Aa p λa4=>
Ab T.a13 a4 1 λn5=>
Ai (Ao ((Ag l2)-n5)) λn6=>
Aj<|
Ad 0 [Ak n6]
theorem zpq (p:Option Addr):FnS (z03i p) F.a190 #[.pointer p]:=dV ⟨[],[],[],[]⟩ Go.Proofs.Tryz.func192 (by kernel_rfl)
def z03h (p:Option Addr) (e_:Int):Prog :=
Aa p λa1=>
Ab T.a1 a1 2 λn2=>
AK 1 (
Ac (n2 == 0) (
Aa p λa4=>
An T.a1 a4 2 (Ak e_)<|
Ad 1 [])<|
Ad 1 [])<|
Ad 0 []
theorem zpp (p:Option Addr) (e_:Int):FnS (z03h p e_) F.a189 #[.pointer p,.int .i64 e_]:=dV ⟨[(31457288,[])],[],[],[]⟩ Go.Proofs.Tryz.func193 (by kernel_rfl)
def z01v (i:Int) (fv0:Option Addr) (fv1:Option Addr):Prog :=
Ae<|
Bl T.a33 fv0 λp0=>
Aa p0 λa2=>
Af T.a45 a2 4 λl3=>
.ex [.adr] (c1 λa4=>0<=i/\i<(Ag l3)/\l3.a=some a4) (u1 λa5=>
AH T.a34 a5 (Int.toNat i*1) λp6=>
Aa p6 λa8=>
Ab T.a14 a8 1 λn9=>
Bn T.a14 fv1 λn10=>
Ay (decide (n9>n10)) λb11=>
Aj<|
Ad 0 [.bool b11])
theorem zo3 (i:Int) (fv0 fv1:Option Addr):FnS (z01v i fv0 fv1) F.a119 #[.int .i64 i,.pointer fv0,.pointer fv1]:=dV ⟨[],[],[],[]⟩ Go.Proofs.Tryz.func197 (by kernel_rfl)
def z028 (l s:Option Addr) (place:Int) (told:Value):Prog :=
AN 1 (
Ae<|
Aa l λa1=>
Bk T.a28 a1 0 λp2=>
Aa s λa4=>
Ab T.a14 a4 1 λn5=>
AD F.a127 [Al l,Ak n5,.string (ByteArray.mk #[46,108,111,103])] λs6=>
Aj<|
A9 F.a28 [Al p2,.string s6] λl7 n8=>
Ai n8 λn9=>
Aj<|
Ad 1 [l7.v]) λl10=>
Ai place λn11=>
AK 1 (
AR 2 (n11,()) λn12=>
AF (decide (n12<(Ag l10))=true) s λa14=>
Bc (decide (n12<(Ag l10))=true) T.a13 a14 5 λn15=>
Ac (decide (n12<(Ag l10)) && decide (n12<n15)) (
.must (0<=n12/\n12<=(Ag l10)) <|
Bj F.a38 [.slice (z0q l10.a 1 (Int.toNat n12) l10.cap) (l10.len-Int.toNat n12) (l10.cap-Int.toNat n12)] λl16 n17 b18=>
Ai n17 λn19=>
Ay b18 λb20=>
Ac (not b20) (
Ad 0 [.bool true])<|
.call F.a97 [l16.v] (.tup [.agg [.int .i64,.int .i64,.int .i64,.int .i64,.int .i64,.int .i64,.slc],.one (.int .i64)]) (u8 λ(n21 n22 n23 n24 n25 n26:Int) l27 (n28:Int)=>
AI T.a0 λa29=>
AJ T.a0 a29 (AM n21 n22 n23 n24 n25 n26 l27)<|
Ai n28 λn30=>
Av 3 (
Bo ((n30 != 0)=false) T.a0 a29 λn31 n32 n33 n34 n35 n36 l37=>
Ac (n30 != 0) (
Ad 3 [.bool true])<|
Bp told [AM n31 n32 n33 n34 n35 n36 l37] λb38=>
Ad 3 [.bool (not b38)]) λb39=>
Ac b39 (
Ad 0 [.bool false])<|
Ai (Ao (n12+n19)) λn40=>
Ad 2 [Ak n40]))<|
Ad 1 [])<|
Ad 0 [.bool true]
theorem zog (l s:Option Addr) (place:Int) (told:Value) {w:World} {R:List Value->World->Prop} (h:(z028 l s place told).wp P (λ_=>True) w λe vs w'=>e=0/\R vs w'):Ret P F.a132 #[.pointer l,.pointer s,.int .i64 place,told] w R:=dS (n:=70) (rv:=[.tmp 8]) { cnd:=[],blk:=[(0,[])],reg:=[(1,[(9,.one .slc)]),(8,[(66,.one .bool)])],lps:=[(0,[(11,.one (.int .i64))])] } [.val (.pointer l),.val (.pointer s),.val (.int .i64 place),.any told] Go.Proofs.Tryz.func198 (by kernel_rfl) (by kernel_rfl) (by kernel_rfl) (by kernel_rfl) h
def z02f (s:Option Addr) (offset:Int):Prog :=
Aa s λa1=>
AH T.a30 a1 0 λp2=>
.call F.a45 [Al p2,Ak offset] (.tup [.agg [.int .i64,.int .i64,.int .i64],.one .bool]) (u4 λ(n3 n4 n5:Int) b6=>
AI T.a10 λa7=>
AJ T.a10 a7 (Bq n3 n4 n5)<|
Au b6 (
Ab T.a13 a7 1 λn9=>
Ai n9 λn10=>
Ad 0 [Ak n10])<|
Ae<|
Aa s λa12=>
Ab T.a14 a12 1 λn13=>
Aa s λa15=>
Ab T.a14 a15 2 λn16=>
Aq F.a135 [Ak n13,Ak n16] λl17=>
Ai (Ag l17) λn18=>
Aj<|
Ad 0 [Ak n18])
theorem zon (s:Option Addr) (offset:Int):FnS (z02f s offset) F.a139 #[.pointer s,.int .i64 offset]:=dV ⟨[],[],[],[]⟩ Go.Proofs.Tryz.func199 (by kernel_rfl)
def z01w (b_0 b_1 b_2 b_3 b_4 b_5:Int) (b_6:Sl) (fv0 fv1:Option Addr) (fv2:Option Addr):Prog :=
As T.a0 (AM b_0 b_1 b_2 b_3 b_4 b_5 b_6) λa0=>
AL T.a0 a0 λn1 n2 n3 n4 n5 n6 l7=>
Bn T.a14 fv0 λn8=>
.call F.a100 [AM n1 n2 n3 n4 n5 n6 l7,Ak n8] (.tup [.agg [.int .i64,.int .i64,.int .i64,.int .i64,.int .i64,.int .i64,.slc],.one .bool]) (u8 λ(n9 n10 n11 n12 n13 n14:Int) l15 b16=>
AI T.a0 λa17=>
AJ T.a0 a17 (AM n9 n10 n11 n12 n13 n14 l15)<|
Ay b16 λb18=>
AK 1 (
Ac b18 (
AW (Instr.loadAt T.a38 (Al fv1)) λl19=>
AL T.a0 a17 λn20 n21 n22 n23 n24 n25 l26=>
Ap (Instr.buildSlice T.a38 1 #[(0,AM n20 n21 n22 n23 n24 n25 l26)]) λl27=>
Ap (app T.a38 T.a38 T.a38 l19.v l27.v) λl28=>
Br (Instr.storeAt T.a38 (Al fv1) l28.v)<|
Ad 1 [])<|
Ad 1 [])<|
AW (Instr.loadAt T.a38 (Al fv1)) λl29=>
Bn T.a13 fv2 λn30=>
Ay (decide ((Ag l29)<n30)) λb31=>
Ad 0 [.bool b31])
theorem zo4 (b_0 b_1 b_2 b_3 b_4 b_5:Int) (b_6:Sl) (fv0 fv1 fv2:Option Addr):FnS (z01w b_0 b_1 b_2 b_3 b_4 b_5 b_6 fv0 fv1 fv2) F.a120 #[.agg #[.int .i64 b_0,.int .i64 b_1,.int .i64 b_2,.int .i64 b_3,.int .i64 b_4,.int .i64 b_5,.slice b_6.a b_6.len b_6.cap],.pointer fv0,.pointer fv1,.pointer fv2]:=dV ⟨[(2013265934,[])],[],[],[]⟩ Go.Proofs.Tryz.func200 (by kernel_rfl)
def z01c (b_0 b_1 b_2 b_3 b_4 b_5:Int) (b_6:Sl) (offset:Int):Prog :=
As T.a0 (AM b_0 b_1 b_2 b_3 b_4 b_5 b_6) λa0=>
AI T.a0 λa1=>
Av 1 (
AL T.a0 a0 λn2 n3 n4 n5 n6 n7 l8=>
AC F.a104 [AM n2 n3 n4 n5 n6 n7 l8] λn9=>
Bo ((n9 != 0)=false) T.a0 a0 λn10 n11 n12 n13 n14 n15 l16=>
Ac (n9 != 0) (
Ad 1 [.bool true])<|
AC F.a102 [AM n10 n11 n12 n13 n14 n15 l16] λn17=>
Ay (decide (offset>=n17)) λb18=>
Ad 1 [.bool b18]) λb19=>
Ac b19 (
AJ T.a0 a1 (.agg #[Ak 0,Ak 0,Ak 0,Ak 0,Ak 0,Ak 0,.slice none 0 0])<|
AL T.a0 a1 λn20 n21 n22 n23 n24 n25 l26=>
Ad 0 [AM n20 n21 n22 n23 n24 n25 l26,.bool false])<|
AL T.a0 a0 λn27 n28 n29 n30 n31 n32 l33=>
Aw F.a107 [AM n27 n28 n29 n30 n31 n32 l33] λb34=>
Bc (b34=false) T.a14 a0 0 λn35=>
Au (b34 || decide (offset<=n35)) (
AL T.a0 a0 λn37 n38 n39 n40 n41 n42 l43=>
Bs F.a96 [AM n37 n38 n39 n40 n41 n42 l43] λn44 n45 n46 n47 n48 n49 l50=>
AJ T.a0 a1 (AM n44 n45 n46 n47 n48 n49 l50)<|
AL T.a0 a1 λn51 n52 n53 n54 n55 n56 l57=>
Ad 0 [AM n51 n52 n53 n54 n55 n56 l57,.bool true])<|
AL T.a0 a0 λn58 n59 n60 n61 n62 n63 l64=>
Ab T.a14 a0 0 λn65=>
Af T.a39 a0 6 λl66=>
Bs F.a109 [AM n58 n59 n60 n61 n62 n63 l64,Ak (Ao (offset-n65)),Ak (Ag l66)] λn67 n68 n69 n70 n71 n72 l73=>
AJ T.a0 a1 (AM n67 n68 n69 n70 n71 n72 l73)<|
AL T.a0 a1 λn74 n75 n76 n77 n78 n79 l80=>
Ad 0 [AM n74 n75 n76 n77 n78 n79 l80,.bool true]
theorem znk (b_0 b_1 b_2 b_3 b_4 b_5:Int) (b_6:Sl) (offset:Int):FnS (z01c b_0 b_1 b_2 b_3 b_4 b_5 b_6 offset) F.a100 #[.agg #[.int .i64 b_0,.int .i64 b_1,.int .i64 b_2,.int .i64 b_3,.int .i64 b_4,.int .i64 b_5,.slice b_6.a b_6.len b_6.cap],.int .i64 offset]:=dV ⟨[],[],[(1,[(6,.one .bool)])],[]⟩ Go.Proofs.Tryz.func201 (by kernel_rfl)
def z01j (b_0 b_1 b_2 b_3 b_4 b_5:Int) (b_6:Sl):Prog :=
As T.a0 (AM b_0 b_1 b_2 b_3 b_4 b_5 b_6) λa0=>
Ab T.a13 a0 4 λn1=>
Bc ((n1 == 2)=false) T.a13 a0 4 λn2=>
Ay (n1 == 2 || n2 == 3) λb3=>
Ad 0 [.bool b3]
theorem znr (b_0 b_1 b_2 b_3 b_4 b_5:Int) (b_6:Sl):FnS (z01j b_0 b_1 b_2 b_3 b_4 b_5 b_6) F.a107 #[.agg #[.int .i64 b_0,.int .i64 b_1,.int .i64 b_2,.int .i64 b_3,.int .i64 b_4,.int .i64 b_5,.slice b_6.a b_6.len b_6.cap]]:=dV ⟨[],[],[],[]⟩ Go.Proofs.Tryz.func205 (by kernel_rfl)
def z01g (b_0 b_1 b_2 b_3 b_4 b_5:Int) (b_6:Sl):Prog :=
As T.a0 (AM b_0 b_1 b_2 b_3 b_4 b_5 b_6) λa0=>
Av 1 (
AL T.a0 a0 λn1 n2 n3 n4 n5 n6 l7=>
Aw F.a108 [AM n1 n2 n3 n4 n5 n6 l7] λb8=>
Bo (not b8=false) T.a0 a0 λn9 n10 n11 n12 n13 n14 l15=>
Ac (not b8) (
Ad 1 [.bool true])<|
Aw F.a106 [AM n9 n10 n11 n12 n13 n14 l15] λb16=>
Ay (not b16) λb17=>
Ad 1 [.bool b17]) λb18=>
Ac b18 (
Ad 0 [Ak 2])<|
Af T.a39 a0 6 λl19=>
Au (decide ((Ag l19)>64)) (
Ad 0 [Ak 7])<|
Af T.a39 a0 6 λl21=>
AK 1 (
AR 2 (0,()) λn22=>
Ac (decide (n22<(Ag l21))) (
.ex [.adr] (c1 λa23=>0<=n22/\n22<(Ag l21)/\l21.a=some a23) (u1 λa24=>
AY T.a2 a24 (Int.toNat n22*4) λs25 s26 b27 n28=>
AI T.a2 λa29=>
AJ T.a2 a29 (AZ s25 s26 b27 n28)<|
Ba T.a2 a29 λs30 s31 b32 n33=>
AC F.a111 [AZ s30 s31 b32 n33] λn34=>
Ai n34 λn35=>
Ac (n35 != 0) (
Ai n35 λn36=>
Ad 0 [Ak n36])<|
Ad 2 [Ak (Ao (n22+1))]))<|
Ad 1 [])<|
AL T.a0 a0 λn37 n38 n39 n40 n41 n42 l43=>
AC F.a103 [AM n37 n38 n39 n40 n41 n42 l43] λn44=>
Ai (Ao (n44-1)) λn45=>
Av 1 (
Ab T.a14 a0 0 λn46=>
Bc (decide (n46>Ao (1099511627776-n45))=false) T.a14 a0 1 λn47=>
Bo (decide (n46>Ao (1099511627776-n45))=false/\decide (n47>0)=true) T.a0 a0 λn48 n49 n50 n51 n52 n53 l54=>
Ac (decide (n46>Ao (1099511627776-n45))) (
Ad 1 [.bool true])<|
Ac (decide (n47>0)) (
Aw F.a107 [AM n48 n49 n50 n51 n52 n53 l54] λb55=>
Bc (not b55=true) T.a13 a0 3 λn56=>
Ad 1 [.bool (not b55 && decide (n56>Ao (2147483647-n45)))])<|
Ad 1 [.bool false]) λb57=>
Ac b57 (
Ad 0 [Ak 24])<|
Ad 0 [Ak 0]
theorem zno (b_0 b_1 b_2 b_3 b_4 b_5:Int) (b_6:Sl):FnS (z01g b_0 b_1 b_2 b_3 b_4 b_5 b_6) F.a104 #[.agg #[.int .i64 b_0,.int .i64 b_1,.int .i64 b_2,.int .i64 b_3,.int .i64 b_4,.int .i64 b_5,.slice b_6.a b_6.len b_6.cap]]:=dV ⟨[],[(1,[])],[(1,[(7,.one .bool)]),(13,[(58,.one .bool)])],[(1,[(24,.one (.int .i64))])]⟩ Go.Proofs.Tryz.func206 (by kernel_rfl)
def z01f (b_0 b_1 b_2 b_3 b_4 b_5:Int) (b_6:Sl):Prog :=
As T.a0 (AM b_0 b_1 b_2 b_3 b_4 b_5 b_6) λa0=>
AL T.a0 a0 λn1 n2 n3 n4 n5 n6 l7=>
Aw F.a107 [AM n1 n2 n3 n4 n5 n6 l7] λb8=>
Ac b8 (
Ad 0 [Ak 1])<|
Af T.a39 a0 6 λl9=>
Ai (Ag l9) λn10=>
Ad 0 [Ak n10]
theorem znn (b_0 b_1 b_2 b_3 b_4 b_5:Int) (b_6:Sl):FnS (z01f b_0 b_1 b_2 b_3 b_4 b_5 b_6) F.a103 #[.agg #[.int .i64 b_0,.int .i64 b_1,.int .i64 b_2,.int .i64 b_3,.int .i64 b_4,.int .i64 b_5,.slice b_6.a b_6.len b_6.cap]]:=dV ⟨[],[],[],[]⟩ Go.Proofs.Tryz.func207 (by kernel_rfl)
def z03j (p:Option Addr) (n:Int):Prog :=
Aa p λa1=>
Ab T.a13 a1 1 λn2=>
Aa p λa4=>
An T.a13 a4 1 (Ak (Ao (n2+n)))<|
Ae<|
Aa p λa6=>
Af T.a50 a6 0 λl7=>
Aa p λa9=>
Ab T.a13 a9 1 λn10=>
Aa p λa12=>
Ab T.a13 a12 1 λn13=>
.must (0<=Ao (n10-n)/\Ao (n10-n)<=n13/\n13<=((l7.cap:Nat):Int)) <|
Aj<|
Ad 0 [.slice (z0q l7.a 1 (Int.toNat (Ao (n10-n))) l7.cap) (Int.toNat n13-Int.toNat (Ao (n10-n))) (l7.cap-Int.toNat (Ao (n10-n)))]
theorem zpr (p:Option Addr) (n:Int):FnS (z03j p n) F.a191 #[.pointer p,.int .i64 n]:=dV ⟨[],[],[],[]⟩ Go.Proofs.Tryz.func210 (by kernel_rfl)
def z032 (on:Bool):Prog :=
Ac on (
Ap (Instr.buildSlice T.a50 1 #[(0,.int .u8 1)]) λl0=>
Ad 0 [l0.v])<|
Ap (Instr.buildSlice T.a50 1 #[(0,.int .u8 0)]) λl1=>
Ad 0 [l1.v]
theorem zpa (on:Bool):FnS (z032 on) F.a174 #[.bool on]:=dV ⟨[],[],[],[]⟩ Go.Proofs.Tryz.func214 (by kernel_rfl)
def z01y (l:Option Addr) (name:ByteArray) (end_:ByteArray):Prog :=
Aa l λa1=>
Be T.a54 a1 1 λs2=>
Ai (Ao (((ByteArray.size s2:Nat):Int)+1)) λn3=>
.must ((((ByteArray.size name:Nat):Int) != Ao (Ao (n3+11)+((ByteArray.size end_:Nat):Int)))=false->0<=Ao (n3+11)/\Ao (n3+11)<=((ByteArray.size name:Nat):Int)) <|
Ac (((ByteArray.size name:Nat):Int) != Ao (Ao (n3+11)+((ByteArray.size end_:Nat):Int)) || not (ByteArray.toList (ByteArray.extract name (Int.toNat (Ao (n3+11))) (ByteArray.size name)) == ByteArray.toList end_)) (
Ad 0 [Ak 0,.bool false])<|
.must (0<=n3/\n3<=Ao (n3+11)/\Ao (n3+11)<=((ByteArray.size name:Nat):Int)) <|
Ap (convert T.a54 T.a50 (.string (ByteArray.extract name (Int.toNat n3) (Int.toNat (Ao (n3+11)))))) λl4=>
AA 1 (
AB 2 (0,(0,())) λn5 n6=>
Ac (decide (n6<(Ag l4))) (
.ex [.adr] (c1 λa7=>0<=n6/\n6<(Ag l4)/\l4.a=some a7) (u1 λa8=>
AT T.a58 a8 (Int.toNat n6*1) λn9=>
Bd n9 λn10=>
Ay (decide (n10>=48) && decide (n10<=57)) λb11=>
AA 3 (
Ac b11 (
Ai (Ao (((BitVec.toNat (BitVec.ofInt 64 (Ao (n5*16)) ||| BitVec.ofInt 64 (Ao (IntKind.wrap .u8 (n10-48)))):Nat):Int))) λn12=>
Ad 3 [Ak n12])<|
Au (decide (n10>=97) && decide (n10<=102)) (
Ai (Ao (((BitVec.toNat (BitVec.ofInt 64 (Ao (n5*16)) ||| BitVec.ofInt 64 (Ao (IntKind.wrap .u8 (IntKind.wrap .u8 (n10-97)+10)))):Nat):Int))) λn14=>
Ad 3 [Ak n14])<|
Ad 0 [Ak 0,.bool false]) λn15=>
Ad 2 [Ak n15,Ak (Ao (n6+1))]))<|
Ad 1 [Ak n5]) λn16=>
Ai n16 λn17=>
Ad 0 [Ak n17,.bool true]
theorem zo6 (l:Option Addr) (name end_:ByteArray):FnS (z01y l name end_) F.a122 #[.pointer l,.string name,.string end_]:=dV ⟨[(19342794667089993088630829,[(9,.one (.int .i64))])],[(0,[(9,.one (.int .i64))])],[],[(0,[(9,.one (.int .i64)),(41,.one (.int .i64))])]⟩ Go.Proofs.Tryz.func229 (by kernel_rfl)
def z022 (l:Option Addr):Prog :=
Aa l λa1=>
Af T.a45 a1 4 λl2=>
Ac ((Ag l2) == 0) (
Ad 0 [Al none])<|
Ae<|
Aa l λa4=>
Af T.a45 a4 4 λl5=>
Aa l λa7=>
Af T.a45 a7 4 λl8=>
.ex [.adr] (c1 λa9=>0<=Ao ((Ag l8)-1)/\Ao ((Ag l8)-1)<(Ag l5)/\l5.a=some a9) (u1 λa10=>
AH T.a34 a10 (Int.toNat (Ao ((Ag l8)-1))*1) λp11=>
Aj<|
Ad 0 [Al p11])
theorem zoa (l:Option Addr):FnS (z022 l) F.a126 #[.pointer l]:=dV ⟨[],[],[],[]⟩ Go.Proofs.Tryz.func230 (by kernel_rfl)
def z02g (s:Option Addr):Prog :=
Ae<|
Aa s λa1=>
Ab T.a14 a1 1 λn2=>
Aa s λa4=>
Ab T.a14 a4 2 λn5=>
Aa s λa7=>
Ab T.a14 a7 3 λn8=>
Ai (if n8>if n5>n2 then n5 else n2 then n8 else if n5>n2 then n5 else n2) λn9=>
Aj<|
Ad 0 [Ak n9]
theorem zoo (s:Option Addr):FnS (z02g s) F.a140 #[.pointer s]:=dV ⟨[],[],[],[]⟩ Go.Proofs.Tryz.func231 (by kernel_rfl)
def z08p (b:Sl):Prog :=
Ac (decide ((Ag b)<8)) (
Ad 0 [.slice none 0 0,Ak 0,.bool false])<|
Bt F.a44 [b.v] λn0=>
Bu n0 λn1=>
Ac (decide (n1>262144) || decide (Ao n1>Ao ((Ag b)-8))) (
Ad 0 [.slice none 0 0,Ak 0,.bool false])<|
Ai (Ao (Ao n1+4)) λn2=>
Av 1 (
Ae<|
.must (0<=n2/\n2<=(Ag b)) <|
.must (0<=n2/\n2<=((b.cap:Nat):Int)) <|
.both (
Bt F.a44 [.slice (z0q b.a 1 (Int.toNat n2) b.cap) (b.len-Int.toNat n2) (b.cap-Int.toNat n2)] λn3=>
Ap (Instr.buildSlice T.a47 1 #[(0,.slice b.a (Int.toNat n2) b.cap)]) λl4=>
Bt F.a42 [l4.v] λn5=>
Aj<|
Ad 1 [.bool (n3 != n5)]) <|
Ap (Instr.buildSlice T.a47 1 #[(0,.slice b.a (Int.toNat n2) b.cap)]) λl6=>
Bt F.a44 [.slice (z0q b.a 1 (Int.toNat n2) b.cap) (b.len-Int.toNat n2) (b.cap-Int.toNat n2)] λn7=>
Bt F.a42 [l6.v] λn8=>
Aj<|
Ad 1 [.bool (n7 != n8)]) λb9=>
Ac b9 (
Ad 0 [.slice none 0 0,Ak 0,.bool false])<|
.must ((0:Int)<=4/\4<=n2/\n2<=((b.cap:Nat):Int)) <|
Aq F.a0 [.slice (z0q b.a 1 4 b.cap) (Int.toNat n2-4) (b.cap-4)] λl10=>
Ai (Ao (n2+4)) λn11=>
Ad 0 [l10.v,Ak n11,.bool true]
theorem zu5 (b:Sl):FnS (z08p b) F.a38 #[.slice b.a b.len b.cap]:=dV ⟨[],[],[(7,[(34,.one .bool)])],[]⟩ Go.Proofs.Tryz.func232 (by kernel_rfl)
def z02c (body:Sl) (base:Int):Prog :=
Bh F.a177 [body.v] λp0=>
AC F.a178 [Al p0] λn1=>
AQ F.a184 [Al p0] λn2=>
AQ F.a184 [Al p0] λn3=>
Ai n1 λn4=>
Ah n2 λn5=>
Ah n3 λn6=>
AC F.a179 [Al p0] λn7=>
Ac (n7 != 0 || n4 != 83 || n5 != IntKind.wrap .u64 base || decide (base>1099511627776) || decide (n6>1099511627776)) (
Ad 0 [Ak 0,.bool false])<|
Ai (Ao n6) λn8=>
Ay (n6 == 0 || decide (Ao n6>base)) λb9=>
Ad 0 [Ak n8,.bool b9]
theorem zok (body:Sl) (base:Int):FnS (z02c body base) F.a136 #[.slice body.a body.len body.cap,.int .i64 base]:=dV ⟨[],[],[],[]⟩ Go.Proofs.Tryz.func233 (by kernel_rfl)
def z027 (l:Option Addr) (base:Int) (end_:Int):Prog :=
Aa l λa1=>
Ab T.a13 (Addr.add a1 2) 1 λn2=>
Bv F.a49 [Ak n2] λp3 n4=>
Ai n4 λn5=>
Aq F.a135 [Ak base,Ak end_] λl6=>
As T.a53 (.agg #[Al p3,Ak base,Ak end_,Ak 0,Ak (-1),Ak (Ag l6)]) λa7=>
Ad 0 [A8 a7]
theorem zof (l:Option Addr) (base end_:Int):FnS (z027 l base end_) F.a131 #[.pointer l,.int .i64 base,.int .i64 end_]:=dV ⟨[],[],[],[]⟩ Go.Proofs.Tryz.func234 (by kernel_rfl)
def z0a2 (raw:Sl):Prog :=
AI T.a0 λa0=>
AI T.a0 λa1=>
AJ T.a0 a1 (.agg #[Ak 0,Ak 0,Ak 0,Ak 0,Ak 0,Ak 0,.slice none 0 0])<|
Bh F.a177 [raw.v] λp2=>
AC F.a178 [Al p2] λn3=>
Ac (n3 != 1) (
AL T.a0 a1 λn4 n5 n6 n7 n8 n9 l10=>
AJ T.a0 a0 (AM n4 n5 n6 n7 n8 n9 l10)<|
AL T.a0 a0 λn11 n12 n13 n14 n15 n16 l17=>
Ad 0 [AM n11 n12 n13 n14 n15 n16 l17,Ak 6])<|
AC F.a178 [Al p2] λn18=>
AC F.a112 [Al p2,Ak 1099511627776] λn19=>
AC F.a112 [Al p2,Ak 1048576] λn20=>
AI T.a0 λa21=>
AJ T.a0 a21 (.agg #[Ak n19,Ak n20,Ak 0,Ak 0,Ak n18,Ak 0,.slice none 0 0])<|
Ab T.a14 a21 1 λn22=>
AK 1 (
Ac (decide (n22>0)) (
AC F.a112 [Al p2,Ak 32767] λn23=>
An T.a13 a21 2 (Ak n23)<|
AL T.a0 a21 λn24 n25 n26 n27 n28 n29 l30=>
Aw F.a107 [AM n24 n25 n26 n27 n28 n29 l30] λb31=>
AK 2 (
Ac (not b31) (
AC F.a112 [Al p2,Ak 2147483647] λn32=>
An T.a13 a21 3 (Ak n32)<|
Ad 2 [])<|
Ad 2 [])<|
Ad 1 [])<|
Ad 1 [])<|
AC F.a112 [Al p2,Ak 1099511627776] λn33=>
An T.a14 a21 5 (Ak n33)<|
AC F.a180 [Al p2] λn34=>
Bc ((n34 != 0)=false) T.a14 a21 5 λn35=>
Ac (n34 != 0 || decide (n35>1099511627776)) (
AL T.a0 a1 λn36 n37 n38 n39 n40 n41 l42=>
AJ T.a0 a0 (AM n36 n37 n38 n39 n40 n41 l42)<|
AL T.a0 a0 λn43 n44 n45 n46 n47 n48 l49=>
Ad 0 [AM n43 n44 n45 n46 n47 n48 l49,Ak 6])<|
AL T.a0 a21 λn50 n51 n52 n53 n54 n55 l56=>
Aw F.a107 [AM n50 n51 n52 n53 n54 n55 l56] λb57=>
AK 1 (
Ac (not b57) (
AC F.a112 [Al p2,Ak 64] λn58=>
Ai n58 λn59=>
Ac (decide (n59>64)) (
AL T.a0 a1 λn60 n61 n62 n63 n64 n65 l66=>
AJ T.a0 a0 (AM n60 n61 n62 n63 n64 n65 l66)<|
AL T.a0 a0 λn67 n68 n69 n70 n71 n72 l73=>
Ad 0 [AM n67 n68 n69 n70 n71 n72 l73,Ak 6])<|
AK 2 (
.loop 3 [.one .str,.one (.int .i64)] ((ByteArray.mk #[]),(0,())) (u2 λs74 (n75:Int)=>
Ac (decide (n75<n59)) (
Ab T.a14 a21 5 λn76=>
.call F.a110 [Al p2,Ak n76,.string s74] (.tup [.agg [.str,.str,.bool,.int .i64],.one .bool]) (u5 λs77 s78 b79 (n80:Int) b81=>
AI T.a2 λa82=>
AJ T.a2 a82 (AZ s77 s78 b79 n80)<|
Ay b81 λb83=>
Ac (not b83) (
AL T.a0 a1 λn84 n85 n86 n87 n88 n89 l90=>
AJ T.a0 a0 (AM n84 n85 n86 n87 n88 n89 l90)<|
AL T.a0 a0 λn91 n92 n93 n94 n95 n96 l97=>
Ad 0 [AM n91 n92 n93 n94 n95 n96 l97,Ak 6])<|
Af T.a39 a21 6 λl98=>
Ba T.a2 a82 λs99 s100 b101 n102=>
Ap (Instr.buildSlice T.a39 1 #[(0,AZ s99 s100 b101 n102)]) λl103=>
Ap (app T.a39 T.a39 T.a39 l98.v l103.v) λl104=>
An T.a39 a21 6 l104.v<|
Be T.a54 a82 0 λs105=>
Bf s105 λs106=>
Ad 3 [.string s106,Ak (Ao (n75+1))]))<|
Ad 2 []))<|
Ad 1 [])<|
Ad 1 [])<|
Av 1 (
AC F.a179 [Al p2] λn107=>
Bo ((n107 != 0)=false) T.a0 a21 λn108 n109 n110 n111 n112 n113 l114=>
Ac (n107 != 0) (
Ad 1 [.bool true])<|
AC F.a104 [AM n108 n109 n110 n111 n112 n113 l114] λn115=>
Ad 1 [.bool (n115 != 0)]) λb116=>
Ac b116 (
AL T.a0 a1 λn117 n118 n119 n120 n121 n122 l123=>
AJ T.a0 a0 (AM n117 n118 n119 n120 n121 n122 l123)<|
AL T.a0 a0 λn124 n125 n126 n127 n128 n129 l130=>
Ad 0 [AM n124 n125 n126 n127 n128 n129 l130,Ak 6])<|
AL T.a0 a21 λn131 n132 n133 n134 n135 n136 l137=>
AJ T.a0 a0 (AM n131 n132 n133 n134 n135 n136 l137)<|
AL T.a0 a0 λn138 n139 n140 n141 n142 n143 l144=>
Ad 0 [AM n138 n139 n140 n141 n142 n143 l144,Ak 0]
theorem zvj (raw:Sl):FnS (z0a2 raw) F.a97 #[.slice raw.a raw.len raw.cap]:=dV ⟨[(985162418487330,[]),(1123700883587100,[]),(19807040591672596250983170100,[])],[(0,[])],[(27,[(89,.one .bool)])],[(0,[(8,.one .str),(59,.one (.int .i64))])]⟩ Go.Proofs.Tryz.func235 (by kernel_rfl)
def z02h (s:Option Addr) (b_0 b_1 b_2 b_3 b_4 b_5:Int) (b_6:Sl) (size:Int):Prog :=
As T.a0 (AM b_0 b_1 b_2 b_3 b_4 b_5 b_6) λa0=>
AL T.a0 a0 λn1 n2 n3 n4 n5 n6 l7=>
AC F.a137 [AM n1 n2 n3 n4 n5 n6 l7] λn8=>
Ai n8 λn9=>
Ae<|
Aa s λa11=>
AH T.a30 a11 0 λp12=>
Ab T.a14 a0 0 λn13=>
Aa s λa15=>
Ab T.a13 a15 5 λn16=>
AC F.a47 [Al p12,Ak n13,Ak n16,Ak n9] λn17=>
Aj<|
AL T.a0 a0 λn18 n19 n20 n21 n22 n23 l24=>
AC F.a102 [AM n18 n19 n20 n21 n22 n23 l24] λn25=>
Aa s λa27=>
An T.a14 a27 3 (Ak n25)<|
Aa s λa29=>
Ab T.a14 a29 4 λn30=>
Aa s λa32=>
An T.a14 a32 4 (Ak (if n9>n30 then n9 else n30))<|
Aa s λa34=>
Ab T.a13 a34 5 λn35=>
Aa s λa37=>
An T.a13 a37 5 (Ak (Ao (n35+size)))<|
Ad 0 []
theorem zop (s:Option Addr) (b_0 b_1 b_2 b_3 b_4 b_5:Int) (b_6:Sl) (size:Int):FnS (z02h s b_0 b_1 b_2 b_3 b_4 b_5 b_6 size) F.a141 #[.pointer s,.agg #[.int .i64 b_0,.int .i64 b_1,.int .i64 b_2,.int .i64 b_3,.int .i64 b_4,.int .i64 b_5,.slice b_6.a b_6.len b_6.cap],.int .i64 size]:=dV ⟨[],[],[],[]⟩ Go.Proofs.Tryz.func236 (by kernel_rfl)
def z025 (l:Option Addr) (s:Option Addr):Prog :=
Aa l λa1=>
Af T.a45 a1 4 λl2=>
Ap (Instr.buildSlice T.a45 1 #[(0,Al s)]) λl3=>
Ap (app T.a45 T.a45 T.a45 l2.v l3.v) λl4=>
Aa l λa6=>
An T.a45 a6 4 l4.v<|
Ad 0 []
theorem zod (l s:Option Addr):FnS (z025 l s) F.a129 #[.pointer l,.pointer s]:=dV ⟨[],[],[],[]⟩ Go.Proofs.Tryz.func237 (by kernel_rfl)
def z03d (r:Option Addr) (lo:Int) (hi:Int):Prog :=
Aw F.a186 [Al r] λb0=>
Ac (not b0) (
Ad 0 [Ak 0])<|
Aa r λa2=>
Ab T.a13 (Addr.add a2 0) 1 λn3=>
Ai n3 λn4=>
AC F.a182 [Al r] λn5=>
Ai n5 λn6=>
Aa r λa8=>
Ab T.a1 (Addr.add a8 0) 2 λn9=>
AK 1 (
Ac (n9 == 0 && (decide (n6<lo) || decide (n6>hi))) (
Aa r λa11=>
An T.a13 (Addr.add a11 0) 1 (Ak n4)<|
Aa r λa13=>
Am F.a189 [AP a13 0,Ak 8]<|
Ad 1 [])<|
Ad 1 [])<|
Aa r λa15=>
Ab T.a1 (Addr.add a15 0) 2 λn16=>
Ac (n16 != 0) (
Ad 0 [Ak 0])<|
Ai n6 λn17=>
Ad 0 [Ak n17]
theorem zpl (r:Option Addr) (lo hi:Int):FnS (z03d r lo hi) F.a185 #[.pointer r,.int .i64 lo,.int .i64 hi]:=dV ⟨[(71916856549572642,[])],[],[],[]⟩ Go.Proofs.Tryz.func240 (by kernel_rfl)
def z024 (l:Option Addr) (bs:Sl):Prog :=
AC F.a117 [Al l] λn0=>
Ai n0 λn1=>
.bind 1 [.one .slc,.one .slc] (
.loop 2 [.one (.int .i64),.one .slc,.one .slc,.one (.int .i64)] (n1,(⟨none,0,0⟩,(⟨none,0,0⟩,(0,())))) (u4 λ(n2:Int) l3 l4 (n5:Int)=>
Ac (decide (n5<(Ag bs))) (
.ex [.adr] (c1 λa6=>0<=n5/\n5<(Ag bs)/\bs.a=some a6) (u1 λa7=>
AX T.a0 a7 (Int.toNat n5*7) λn8 n9 n10 n11 n12 n13 l14=>
AI T.a0 λa15=>
AJ T.a0 a15 (AM n8 n9 n10 n11 n12 n13 l14)<|
An T.a14 a15 0 (Ak n2)<|
AL T.a0 a15 λn16 n17 n18 n19 n20 n21 l22=>
A9 F.a98 [AM n16 n17 n18 n19 n20 n21 l22] λl23 n24=>
Ai n24 λn25=>
Ac (n25 != 0) (
Ai n25 λn26=>
Ad 0 [.slice none 0 0,.slice none 0 0,Ak n26])<|
AL T.a0 a15 λn27 n28 n29 n30 n31 n32 l33=>
Ap (Instr.buildSlice T.a38 1 #[(0,AM n27 n28 n29 n30 n31 n32 l33)]) λl34=>
Ap (app T.a38 T.a38 T.a38 l3.v l34.v) λl35=>
Ap (Instr.buildSlice T.a47 1 #[(0,l23.v)]) λl36=>
Aq F.a41 [l36.v] λl37=>
Ap (Instr.buildSlice T.a47 1 #[(0,l37.v)]) λl38=>
Ap (app T.a47 T.a47 T.a47 l4.v l38.v) λl39=>
AL T.a0 a15 λn40 n41 n42 n43 n44 n45 l46=>
AC F.a102 [AM n40 n41 n42 n43 n44 n45 l46] λn47=>
Ai n47 λn48=>
Ad 2 [Ak n48,l35.v,l39.v,Ak (Ao (n5+1))]))<|
Ad 1 [l3.v,l4.v])) (u2 λl49 l50=>
Ad 0 [l49.v,l50.v,Ak 0])
theorem zoc (l:Option Addr) (bs:Sl):FnS (z024 l bs) F.a128 #[.pointer l,.slice bs.a bs.len bs.cap]:=dV ⟨[],[(0,[(8,.one .slc),(9,.one .slc)])],[],[(0,[(7,.one (.int .i64)),(8,.one .slc),(9,.one .slc),(18,.one (.int .i64))])]⟩ Go.Proofs.Tryz.func249 (by kernel_rfl)
def z021 (l:Option Addr) (n:Int):Prog :=
Bh F.a126 [Al l] λp0=>
Ae<|
AF (not (Option.isNone p0)=true) p0 λa2=>
Bc (not (Option.isNone p0)=true) T.a14 a2 3 λn3=>
AF (not (Option.isNone p0)=true/\(n3 == 0)=false) p0 λa5=>
Bc (not (Option.isNone p0)=true/\(n3 == 0)=false) T.a13 a5 5 λn6=>
AF (not (Option.isNone p0)=true/\(n3 == 0)=false) l λa8=>
Bc (not (Option.isNone p0)=true/\(n3 == 0)=false) T.a13 (Addr.add a8 2) 0 λn9=>
Ay (not (Option.isNone p0) && (n3 == 0 || decide (Ao (n6+n)<=n9))) λb10=>
Aj<|
Ad 0 [.bool b10]
theorem zo9 (l:Option Addr) (n:Int):FnS (z021 l n) F.a125 #[.pointer l,.int .i64 n]:=dV ⟨[],[],[],[]⟩ Go.Proofs.Tryz.func250 (by kernel_rfl)
def z02b (base:Int) (end_:Int):Prog :=
Ap (Instr.buildSlice T.a50 1 #[(0,.int .u8 83)]) λl0=>
Aq F.a188 [.int .u64 (IntKind.wrap .u64 base)] λl1=>
Aq F.a188 [.int .u64 (IntKind.wrap .u64 end_)] λl2=>
Ap (Instr.buildSlice T.a47 3 #[(0,l0.v),(1,l1.v),(2,l2.v)]) λl3=>
Aq F.a41 [l3.v] λl4=>
Ad 0 [l4.v]
theorem zoj (base end_:Int):FnS (z02b base end_) F.a135 #[.int .i64 base,.int .i64 end_]:=dV ⟨[],[],[],[]⟩ Go.Proofs.Tryz.func252 (by kernel_rfl)
def z08w (x:Option Addr) (offset:Int):Prog :=
As T.a30 (Al x) λa0=>
As T.a14 (Ak offset) λa1=>
AI T.a10 λa2=>
AU T.a30 a0 λp3=>
Ac (Option.isNone p3) (
AJ T.a10 a2 (Bq 0 0 0)<|
Bw T.a10 a2 λn4 n5 n6=>
Ad 0 [Bq n4 n5 n6,.bool false])<|
Av 1 (
Ae<|
.hold True (ld T.a30 a0) sP (u1 λp7=>
AU T.a30 a0 λp8=>
Aa p8 λa10=>
Af T.a40 a10 4 λl11=>
AC F.a159 [Ak (Ag l11),.func (Fn.func 304) #[] #[A8 a0,A8 a1]] λn12=>
Aj<|
.call F.a48 [Al p7,Ak (Ao (n12-1))] (.tup [.agg [.int .i64,.int .i64,.int .i64],.one .bool]) (u4 λ(n13 n14 n15:Int) b16=>
AJ T.a10 a2 (Bq n13 n14 n15)<|
Ay b16 λb17=>
Aj<|
Ad 1 [.bool b17]))) λb18=>
Bw T.a10 a2 λn19 n20 n21=>
Ad 0 [Bq n19 n20 n21,.bool b18]
theorem zuc (x:Option Addr) (offset:Int):FnS (z08w x offset) F.a45 #[.pointer x,.int .i64 offset]:=dV ⟨[],[],[(3,[(5,.one .bool)])],[]⟩ Go.Proofs.Tryz.func255 (by kernel_rfl)
def z01l (b_0 b_1 b_2 b_3 b_4 b_5:Int) (b_6:Sl) (from_:Int) (to_:Int):Prog :=
As T.a0 (AM b_0 b_1 b_2 b_3 b_4 b_5 b_6) λa0=>
AI T.a0 λa1=>
AL T.a0 a0 λn2 n3 n4 n5 n6 n7 l8=>
AI T.a0 λa9=>
AJ T.a0 a9 (AM n2 n3 n4 n5 n6 n7 l8)<|
Af T.a39 a0 6 λl10=>
.must (0<=from_/\from_<=to_/\to_<=((l10.cap:Nat):Int)) <|
Ap (app T.a39 T.a39 T.a39 (.slice none 0 0) (.slice (z0q l10.a 4 (Int.toNat from_) l10.cap) (Int.toNat to_-Int.toNat from_) (l10.cap-Int.toNat from_))) λl11=>
An T.a39 a9 6 l11.v<|
Ab T.a14 a9 0 λn12=>
An T.a14 a9 0 (Ak (Ao (n12+from_)))<|
Ab T.a14 a9 1 λn13=>
AK 1 (
Ac (decide (n13>0)) (
Ab T.a13 a9 3 λn14=>
An T.a13 a9 3 (Ak (Ao (n14+from_)))<|
Ad 1 [])<|
Ad 1 [])<|
AL T.a0 a9 λn15 n16 n17 n18 n19 n20 l21=>
AJ T.a0 a1 (AM n15 n16 n17 n18 n19 n20 l21)<|
AL T.a0 a1 λn22 n23 n24 n25 n26 n27 l28=>
Ad 0 [AM n22 n23 n24 n25 n26 n27 l28]
theorem znt (b_0 b_1 b_2 b_3 b_4 b_5:Int) (b_6:Sl) (from_ to_:Int):FnS (z01l b_0 b_1 b_2 b_3 b_4 b_5 b_6 from_ to_) F.a109 #[.agg #[.int .i64 b_0,.int .i64 b_1,.int .i64 b_2,.int .i64 b_3,.int .i64 b_4,.int .i64 b_5,.slice b_6.a b_6.len b_6.cap],.int .i64 from_,.int .i64 to_]:=dV ⟨[(2130303778839,[])],[],[],[]⟩ Go.Proofs.Tryz.func256 (by kernel_rfl)
def z01k (b_0 b_1 b_2 b_3 b_4 b_5:Int) (b_6:Sl):Prog :=
As T.a0 (AM b_0 b_1 b_2 b_3 b_4 b_5 b_6) λa0=>
Av 1 (
Ab T.a13 a0 4 λn1=>
Bc (decide (n1>=0)=true) T.a13 a0 4 λn2=>
Bc ((decide (n1>=0) && decide (n2<=3))=true) T.a14 a0 0 λn3=>
Ac (decide (n1>=0) && decide (n2<=3)) (
Aw F.a113 [Ak n3,Ak 0,Ak 1099511627776] λb4=>
Bc (b4=true) T.a14 a0 1 λn5=>
Ac b4 (
Aw F.a113 [Ak n5,Ak 0,Ak 1048576] λb6=>
Bc (b6=true) T.a13 a0 2 λn7=>
Bc ((b6 && decide (n7>=0))=true) T.a13 a0 2 λn8=>
Bc ((b6 && decide (n7>=0) && decide (n8<=32767))=true) T.a13 a0 3 λn9=>
Bc ((b6 && decide (n7>=0) && decide (n8<=32767) && decide (n9>=0))=true) T.a13 a0 3 λn10=>
Bc ((b6 && decide (n7>=0) && decide (n8<=32767) && decide (n9>=0) && decide (n10<=2147483647))=true) T.a14 a0 5 λn11=>
Ac (b6 && decide (n7>=0) && decide (n8<=32767) && decide (n9>=0) && decide (n10<=2147483647)) (
Aw F.a113 [Ak n11,Ak 0,Ak 1099511627776] λb12=>
Ay b12 λb13=>
Ad 1 [.bool b13])<|
Ad 1 [.bool false])<|
Ad 1 [.bool false])<|
Ad 1 [.bool false]) λb14=>
Ad 0 [.bool b14]
theorem zns (b_0 b_1 b_2 b_3 b_4 b_5:Int) (b_6:Sl):FnS (z01k b_0 b_1 b_2 b_3 b_4 b_5 b_6) F.a108 #[.agg #[.int .i64 b_0,.int .i64 b_1,.int .i64 b_2,.int .i64 b_3,.int .i64 b_4,.int .i64 b_5,.slice b_6.a b_6.len b_6.cap]]:=dV ⟨[],[],[(1,[(2,.one .bool)])],[]⟩ Go.Proofs.Tryz.func261 (by kernel_rfl)
def z01i (b_0 b_1 b_2 b_3 b_4 b_5:Int) (b_6:Sl):Prog :=
As T.a0 (AM b_0 b_1 b_2 b_3 b_4 b_5 b_6) λa0=>
Ab T.a14 a0 1 λn1=>
Bc ((n1 == 0)=true) T.a13 a0 4 λn2=>
Bc ((n1 == 0)=true/\(n2 != 0)=false) T.a13 a0 2 λn3=>
Bc ((n1 == 0)=true/\(n2 != 0 || n3 != 0)=false) T.a13 a0 3 λn4=>
Ac (n1 == 0 && (n2 != 0 || n3 != 0 || n4 != 0)) (
Ad 0 [.bool false])<|
AL T.a0 a0 λn5 n6 n7 n8 n9 n10 l11=>
Aw F.a107 [AM n5 n6 n7 n8 n9 n10 l11] λb12=>
Ac b12 (
Ab T.a13 a0 3 λn13=>
AG ((n13 == 0)=true) T.a39 a0 6 λl14=>
Ay (n13 == 0 && (Ag l14) == 0) λb15=>
Ad 0 [.bool b15])<|
Af T.a39 a0 6 λl16=>
Ay (decide ((Ag l16)>0)) λb17=>
Ad 0 [.bool b17]
theorem znq (b_0 b_1 b_2 b_3 b_4 b_5:Int) (b_6:Sl):FnS (z01i b_0 b_1 b_2 b_3 b_4 b_5 b_6) F.a106 #[.agg #[.int .i64 b_0,.int .i64 b_1,.int .i64 b_2,.int .i64 b_3,.int .i64 b_4,.int .i64 b_5,.slice b_6.a b_6.len b_6.cap]]:=dV ⟨[],[],[],[]⟩ Go.Proofs.Tryz.func262 (by kernel_rfl)
def z01n (r_0 r_1:ByteArray) (r_2:Bool) (r_3:Int):Prog :=
As T.a2 (AZ r_0 r_1 r_2 r_3) λa0=>
Be T.a54 a0 0 λs1=>
Bx (decide (((ByteArray.size s1:Nat):Int)>1024)=false) T.a54 a0 1 λs2=>
Au (decide (((ByteArray.size s1:Nat):Int)>1024) || decide (((ByteArray.size s2:Nat):Int)>1024)) (
Ad 0 [Ak 7])<|
Ab T.a14 a0 3 λn4=>
Aw F.a113 [Ak n4,Ak 0,Ak 1099511627776] λb5=>
By (not b5=false) T.a3 a0 2 λb6=>
Bx (not b5=false/\b6=true) T.a54 a0 1 λs7=>
Au (not b5 || b6 && not (ByteArray.toList s7 == ByteArray.toList (ByteArray.mk #[]))) (
Ad 0 [Ak 2])<|
Ad 0 [Ak 0]
theorem znv (r_0 r_1:ByteArray) (r_2:Bool) (r_3:Int):FnS (z01n r_0 r_1 r_2 r_3) F.a111 #[.agg #[.string r_0,.string r_1,.bool r_2,.int .i64 r_3]]:=dV ⟨[],[],[],[]⟩ Go.Proofs.Tryz.func263 (by kernel_rfl)
def z08v (b:Sl):Prog :=
Ae<|
.ex [.adr] (c1 λa0=>(0:Int)<=0/\0<(Ag b)/\b.a=some a0) (u1 λa1=>
AT T.a58 a1 0 λn2=>
.ex [.adr] (c1 λa3=>(0:Int)<=1/\1<(Ag b)/\b.a=some a3) (u1 λa4=>
AT T.a58 a4 1 λn5=>
.ex [.adr] (c1 λa6=>(0:Int)<=2/\2<(Ag b)/\b.a=some a6) (u1 λa7=>
AT T.a58 a7 2 λn8=>
.ex [.adr] (c1 λa9=>(0:Int)<=3/\3<(Ag b)/\b.a=some a9) (u1 λa10=>
AT T.a58 a10 3 λn11=>
Bu (IntKind.wrap .u32 (((BitVec.toNat (BitVec.ofInt 32 (IntKind.wrap .u32 (((BitVec.toNat (BitVec.ofInt 32 (IntKind.wrap .u32 (((BitVec.toNat (BitVec.ofInt 32 (IntKind.wrap .u32 n2) ||| BitVec.ofInt 32 (IntKind.wrap .u32 (IntKind.wrap .u32 n5*256))):Nat):Int))) ||| BitVec.ofInt 32 (IntKind.wrap .u32 (IntKind.wrap .u32 n8*65536))):Nat):Int))) ||| BitVec.ofInt 32 (IntKind.wrap .u32 (IntKind.wrap .u32 n11*16777216))):Nat):Int))) λn12=>
Aj<|
Ad 0 [.int .u32 n12]))))
theorem zub (b:Sl):FnS (z08v b) F.a44 #[.slice b.a b.len b.cap]:=dV ⟨[],[],[],[]⟩ Go.Proofs.Tryz.func284 (by kernel_rfl)
def z08t (parts:Sl):Prog :=
Bt F.a39 [.int .u32 0,parts.v] λn0=>
Bu n0 λn1=>
Ad 0 [.int .u32 n1]
theorem zu9 (parts:Sl):FnS (z08t parts) F.a42 #[.slice parts.a parts.len parts.cap]:=dV ⟨[],[],[],[]⟩ Go.Proofs.Tryz.func285 (by kernel_rfl)
def z036 (r:Option Addr):Prog :=
Aw F.a186 [Al r] λb0=>
Ac (not b0) (
Ad 0 [Ak 0])<|
Aa r λa2=>
AC F.a190 [AP a2 0] λn3=>
Ac (n3 == 0) (
Aa r λa5=>
Am F.a189 [AP a5 0,Ak 6]<|
Ad 0 [Ak 0])<|
Aa r λa7=>
Aq F.a191 [AP a7 0,Ak 1] λl8=>
.ex [.adr] (c1 λa9=>(0:Int)<=0/\0<(Ag l8)/\l8.a=some a9) (u1 λa10=>
AT T.a58 a10 0 λn11=>
Ai (Ao n11) λn12=>
Ad 0 [Ak n12])
theorem zpe (r:Option Addr):FnS (z036 r) F.a178 #[.pointer r]:=dV ⟨[],[],[],[]⟩ Go.Proofs.Tryz.func286 (by kernel_rfl)
def z090 (gap:Int):Prog :=
Ac (decide (gap<1) || decide (gap>4194304)) (
Ad 0 [Al none,Ak 2])<|
As T.a11 (.agg #[Ak (-1),Ak (-1),Ak (-1),Ak gap,.slice none 0 0]) λa0=>
Ad 0 [A8 a0,Ak 0]
theorem zug (gap:Int):FnS (z090 gap) F.a49 #[.int .i64 gap]:=dV ⟨[],[],[],[]⟩ Go.Proofs.Tryz.func287 (by kernel_rfl)
def z01o (r:Option Addr) (most:Int):Prog :=
AQ F.a184 [Al r] λn0=>
Ah n0 λn1=>
Ac (decide (n1>IntKind.wrap .u64 most)) (
Ai (Ao (most+1)) λn2=>
Ad 0 [Ak n2])<|
Ai (Ao n1) λn3=>
Ad 0 [Ak n3]
theorem znw (r:Option Addr) (most:Int):FnS (z01o r most) F.a112 #[.pointer r,.int .i64 most]:=dV ⟨[],[],[],[]⟩ Go.Proofs.Tryz.func288 (by kernel_rfl)
def z01m (r:Option Addr) (time:Int) (ahead:ByteArray):Prog :=
AI T.a2 λa0=>
AC F.a185 [Al r,Ak (-1099511627776),Ak 1099511627776] λn1=>
Ai n1 λn2=>
Aw F.a181 [Al r] λb3=>
AI T.a2 λa4=>
AJ T.a2 a4 (.agg #[.string (ByteArray.mk #[]),.string (ByteArray.mk #[]),.bool b3,Ak (Ao (time+n2))])<|
AC F.a112 [Al r,Ak 1024] λn5=>
Ai n5 λn6=>
AD F.a183 [Al r,Ak 1024] λs7=>
Bf s7 λs8=>
Ac (decide (n6>((ByteArray.size ahead:Nat):Int))) (
Ba T.a2 a4 λs9 s10 b11 n12=>
AJ T.a2 a0 (AZ s9 s10 b11 n12)<|
Ba T.a2 a0 λs13 s14 b15 n16=>
Ad 0 [AZ s13 s14 b15 n16,.bool false])<|
.must (0<=n6/\n6<=((ByteArray.size ahead:Nat):Int)) <|
.must (((ByteArray.size (ByteArray.extract ahead 0 (Int.toNat n6))+ByteArray.size s8:Nat):Int)<=9223372036854775807) <|
An T.a54 a4 0 (.string (ByteArray.extract ahead 0 (Int.toNat n6)++s8))<|
Bz T.a3 a4 2 λb17=>
AK 1 (
Ac (not b17) (
AD F.a183 [Al r,Ak 1024] λs18=>
An T.a54 a4 1 (.string s18)<|
Ad 1 [])<|
Ad 1 [])<|
Av 1 (
Ae<|
.hold True (ld T.a2 a4) (sG [.str,.str,.bool,.int .i64]) (u4 λs19 s20 b21 (n22:Int)=>
AC F.a180 [Al r] λn23=>
Bx ((n23 == 0)=true) T.a54 a4 0 λs24=>
Ac (n23 == 0) (
AC F.a105 [.string ahead,.string s24] λn25=>
Aj<|
AJ T.a2 a0 (AZ s19 s20 b21 n22)<|
Ay (n25 == n6) λb26=>
Aj<|
Ad 1 [.bool b26])<|
Aj<|
AJ T.a2 a0 (AZ s19 s20 b21 n22)<|
Aj<|
Ad 1 [.bool false])) λb27=>
Ba T.a2 a0 λs28 s29 b30 n31=>
Ad 0 [AZ s28 s29 b30 n31,.bool b27]
theorem znu (r:Option Addr) (time:Int) (ahead:ByteArray):FnS (z01m r time ahead) F.a110 #[.pointer r,.int .i64 time,.string ahead]:=dV ⟨[(7881299347898405,[])],[],[(10,[(7,.one .bool)])],[]⟩ Go.Proofs.Tryz.func289 (by kernel_rfl)
def z02d (b_0 b_1 b_2 b_3 b_4 b_5:Int) (b_6:Sl):Prog :=
As T.a0 (AM b_0 b_1 b_2 b_3 b_4 b_5 b_6) λa0=>
Af T.a39 a0 6 λl1=>
AA 1 (
AB 2 (-1,(0,())) λn2 n3=>
Ac (decide (n3<(Ag l1))) (
.ex [.adr] (c1 λa4=>0<=n3/\n3<(Ag l1)/\l1.a=some a4) (u1 λa5=>
AY T.a2 a5 (Int.toNat n3*4) λs6 s7 b8 n9=>
AI T.a2 λa10=>
AJ T.a2 a10 (AZ s6 s7 b8 n9)<|
Ab T.a14 a10 3 λn11=>
Ai (if n11>n2 then n11 else n2) λn12=>
Ad 2 [Ak n12,Ak (Ao (n3+1))]))<|
Ad 1 [Ak n2]) λn13=>
Af T.a39 a0 6 λl14=>
AA 1 (
Ac ((Ag l14) == 0) (
Ab T.a14 a0 5 λn15=>
Ai n15 λn16=>
Ad 1 [Ak n16])<|
Ad 1 [Ak n13]) λn17=>
Ai n17 λn18=>
Ad 0 [Ak n18]
theorem zol (b_0 b_1 b_2 b_3 b_4 b_5:Int) (b_6:Sl):FnS (z02d b_0 b_1 b_2 b_3 b_4 b_5 b_6) F.a137 #[.agg #[.int .i64 b_0,.int .i64 b_1,.int .i64 b_2,.int .i64 b_3,.int .i64 b_4,.int .i64 b_5,.slice b_6.a b_6.len b_6.cap]]:=dV ⟨[(51539640341,[(3,.one (.int .i64))])],[(0,[(3,.one (.int .i64))])],[],[(0,[(3,.one (.int .i64)),(9,.one (.int .i64))])]⟩ Go.Proofs.Tryz.func290 (by kernel_rfl)
def z08y (x:Option Addr) (offset place:Int) (time:Int):Prog :=
Au (Option.isNone x) (
Ad 0 [Ak 1])<|
Aw F.a50 [Ak offset,Ak place,Ak time] λb1=>
Au (not b1) (
Ad 0 [Ak 2])<|
Aa x λa4=>
Ab T.a14 (Addr.add a4 0) 0 λn5=>
AF (decide (offset<=n5)=false) x λa7=>
Bc (decide (offset<=n5)=false) T.a13 (Addr.add a7 0) 1 λn8=>
Au (decide (offset<=n5) || decide (place<=n8)) (
Ad 0 [Ak 21])<|
Aa x λa11=>
Af T.a40 a11 4 λl12=>
Ai (Ag l12) λn13=>
Ae<|
AF ((n13 == 0)=false) x λa15=>
AG ((n13 == 0)=false) T.a40 a15 4 λl16=>
.ex [.adr] (c1 λa17=>(n13 == 0)=false->0<=Ao (n13-1)/\Ao (n13-1)<(Ag l16)/\l16.a=some a17) (u1 λa18=>
Bc ((n13 == 0)=false) T.a13 (Addr.add a18 (Int.toNat (Ao (n13-1))*3)) 1 λn19=>
AF ((n13 == 0)=false) x λa21=>
Bc ((n13 == 0)=false) T.a13 a21 3 λn22=>
Aj<|
AK 1 (
Ac (n13 == 0 || decide (Ao (place-n19)>=n22)) (
AN 2 (
Ae<|
Aa x λa24=>
.hold True (ld T.a40 (Addr.add a24 4)) sL (u1 λl25=>
Aa x λa27=>
Ab T.a14 (Addr.add a27 0) 2 λn28=>
Ap (Instr.buildSlice T.a40 1 #[(0,Bq offset place n28)]) λl29=>
Aj<|
Ap (app T.a40 T.a40 T.a40 l25.v l29.v) λl30=>
Aj<|
Ad 2 [l30.v])) λl31=>
Aa x λa33=>
An T.a40 a33 4 l31.v<|
Ad 1 [])<|
Ad 1 [])<|
Aa x λa35=>
Ab T.a14 (Addr.add a35 0) 2 λn36=>
Aa x λa38=>
An T.a12 a38 0 (.agg #[Ak offset,Ak place,Ak (if time>n36 then time else n36)])<|
Ad 0 [Ak 0])
theorem zue (x:Option Addr) (offset place time:Int):FnS (z08y x offset place time) F.a47 #[.pointer x,.int .i64 offset,.int .i64 place,.int .i64 time]:=dV ⟨[(4951741267675589621019836477,[])],[],[(9,[(10,.one .slc)])],[]⟩ Go.Proofs.Tryz.func291 (by kernel_rfl)
def z03a (r:Option Addr):Prog :=
AQ F.a184 [Al r] λn0=>
Ah n0 λn1=>
Ai (Ao (((BitVec.toNat (BitVec.ofInt 64 (Ao (Int.fdiv n1 2)) ^^^ BitVec.ofInt 64 (Ao (0-Ao (IntKind.wrap .u64 (((BitVec.toNat (BitVec.ofInt 64 n1 &&& BitVec.ofInt 64 1):Nat):Int)))))):Nat):Int))) λn2=>
Ad 0 [Ak n2]
theorem zpi (r:Option Addr):FnS (z03a r) F.a182 #[.pointer r]:=dV ⟨[],[],[],[]⟩ Go.Proofs.Tryz.func292 (by kernel_rfl)
def z0a3 (b_0 b_1 b_2 b_3 b_4 b_5:Int) (b_6:Sl):Prog :=
As T.a0 (AM b_0 b_1 b_2 b_3 b_4 b_5 b_6) λa0=>
AL T.a0 a0 λn1 n2 n3 n4 n5 n6 l7=>
AC F.a104 [AM n1 n2 n3 n4 n5 n6 l7] λn8=>
Ai n8 λn9=>
Ac (n9 != 0) (
Ai n9 λn10=>
Ad 0 [.slice none 0 0,Ak n10])<|
AN 1 (
Ae<|
Bb T.a13 a0 4 λn11=>
Bb T.a14 a0 0 λn12=>
Bb T.a14 a0 1 λn13=>
.both (
Ap (Instr.buildSlice T.a50 2 #[(0,.int .u8 1),(1,.int .u8 (IntKind.wrap .u8 n11))]) λl14=>
Aq F.a188 [.int .u64 (IntKind.wrap .u64 n12)] λl15=>
Aq F.a188 [.int .u64 (IntKind.wrap .u64 n13)] λl16=>
Aj<|
Ap (Instr.buildSlice T.a47 3 #[(0,l14.v),(1,l15.v),(2,l16.v)]) λl17=>
Aq F.a176 [l17.v] λl18=>
Aj<|
Ad 1 [l18.v]) <|
Aq F.a188 [.int .u64 (IntKind.wrap .u64 n12)] λl19=>
.both (
Ap (Instr.buildSlice T.a50 2 #[(0,.int .u8 1),(1,.int .u8 (IntKind.wrap .u8 n11))]) λl20=>
Aq F.a188 [.int .u64 (IntKind.wrap .u64 n13)] λl21=>
Aj<|
Ap (Instr.buildSlice T.a47 3 #[(0,l20.v),(1,l19.v),(2,l21.v)]) λl22=>
Aq F.a176 [l22.v] λl23=>
Aj<|
Ad 1 [l23.v]) <|
Aq F.a188 [.int .u64 (IntKind.wrap .u64 n13)] λl24=>
Ap (Instr.buildSlice T.a50 2 #[(0,.int .u8 1),(1,.int .u8 (IntKind.wrap .u8 n11))]) λl25=>
Aj<|
Ap (Instr.buildSlice T.a47 3 #[(0,l25.v),(1,l19.v),(2,l24.v)]) λl26=>
Aq F.a176 [l26.v] λl27=>
Aj<|
Ad 1 [l27.v]) λl28=>
Ab T.a14 a0 1 λn29=>
AN 1 (
Ac (decide (n29>0)) (
Ab T.a13 a0 2 λn30=>
Aq F.a188 [.int .u64 (IntKind.wrap .u64 n30)] λl31=>
Ap (app T.a50 T.a50 T.a50 l28.v l31.v) λl32=>
AL T.a0 a0 λn33 n34 n35 n36 n37 n38 l39=>
Aw F.a107 [AM n33 n34 n35 n36 n37 n38 l39] λb40=>
AN 2 (
Ac (not b40) (
Ab T.a13 a0 3 λn41=>
Aq F.a188 [.int .u64 (IntKind.wrap .u64 n41)] λl42=>
Ap (app T.a50 T.a50 T.a50 l32.v l42.v) λl43=>
Ad 2 [l43.v])<|
Ad 2 [l32.v]) λl44=>
Ad 1 [l44.v])<|
Ad 1 [l28.v]) λl45=>
Ab T.a14 a0 5 λn46=>
Aq F.a188 [.int .u64 (IntKind.wrap .u64 n46)] λl47=>
Ap (app T.a50 T.a50 T.a50 l45.v l47.v) λl48=>
AL T.a0 a0 λn49 n50 n51 n52 n53 n54 l55=>
Aw F.a107 [AM n49 n50 n51 n52 n53 n54 l55] λb56=>
Ac b56 (
Ad 0 [l48.v,Ak 0])<|
Af T.a39 a0 6 λl57=>
Aq F.a188 [.int .u64 (IntKind.wrap .u64 (Ag l57))] λl58=>
Ap (app T.a50 T.a50 T.a50 l48.v l58.v) λl59=>
Af T.a39 a0 6 λl60=>
AN 1 (
.loop 2 [.one .slc,.one .str,.one (.int .i64)] ({ a:=l59.a,len:=l59.len,cap:=l59.cap },((ByteArray.mk #[]),(0,()))) (u3 λl61 s62 (n63:Int)=>
Ac (decide (n63<(Ag l60))) (
.ex [.adr] (c1 λa64=>0<=n63/\n63<(Ag l60)/\l60.a=some a64) (u1 λa65=>
AY T.a2 a65 (Int.toNat n63*4) λs66 s67 b68 n69=>
AI T.a2 λa70=>
AJ T.a2 a70 (AZ s66 s67 b68 n69)<|
Be T.a54 a70 0 λs71=>
AC F.a105 [.string s62,.string s71] λn72=>
Ai n72 λn73=>
AN 3 (
Ae<|
Ab T.a14 a70 3 λn74=>
Ab T.a14 a0 5 λn75=>
.hold True (ld T.a3 (Addr.add a70 2)) sB (u1 λb76=>
.hold True (ld T.a54 (Addr.add a70 0)) sS (u1 λs77=>
.must (0<=n73/\n73<=((ByteArray.size s77:Nat):Int)) <|
Aq F.a175 [Ak (Ao (n74-n75))] λl78=>
Aq F.a174 [.bool b76] λl79=>
Aq F.a188 [.int .u64 (IntKind.wrap .u64 n73)] λl80=>
Aj<|
Aq F.a187 [.string (ByteArray.extract s77 (Int.toNat n73) (ByteArray.size s77))] λl81=>
Ap (Instr.buildSlice T.a47 4 #[(0,l78.v),(1,l79.v),(2,l80.v),(3,l81.v)]) λl82=>
Aq F.a176 [l82.v] λl83=>
Ap (app T.a50 T.a50 T.a50 l61.v l83.v) λl84=>
Aj<|
Ad 3 [l84.v]))) λl85=>
Bz T.a3 a70 2 λb86=>
AN 3 (
Ac (not b86) (
Be T.a54 a70 1 λs87=>
Aq F.a187 [.string s87] λl88=>
Ap (app T.a50 T.a50 T.a50 l85.v l88.v) λl89=>
Ad 3 [l89.v])<|
Ad 3 [l85.v]) λl90=>
Be T.a54 a70 0 λs91=>
Bf s91 λs92=>
Ad 2 [l90.v,.string s92,Ak (Ao (n63+1))]))<|
Ad 1 [l61.v])) λl93=>
Ad 0 [l93.v,Ak 0]
theorem zvk (b_0 b_1 b_2 b_3 b_4 b_5:Int) (b_6:Sl):FnS (z0a3 b_0 b_1 b_2 b_3 b_4 b_5 b_6) F.a98 #[.agg #[.int .i64 b_0,.int .i64 b_1,.int .i64 b_2,.int .i64 b_3,.int .i64 b_4,.int .i64 b_5,.slice b_6.a b_6.len b_6.cap]]:=dV ⟨[(567453553048813608,[(5,.one .slc)]),(576443160117510175,[(5,.one .slc)]),(40240300653644914121111346551586913,[(5,.one .slc)])],[(0,[(5,.one .slc)])],[(4,[(5,.one .slc)]),(18,[(5,.one .slc)])],[(0,[(5,.one .slc),(6,.one .str),(66,.one (.int .i64))])]⟩ Go.Proofs.Tryz.func299 (by kernel_rfl)
def z08s (parts:Sl):Prog :=
AA 1 (
AB 2 (0,(0,())) λn0 n1=>
Ac (decide (n1<(Ag parts))) (
.ex [.adr] (c1 λa2=>0<=n1/\n1<(Ag parts)/\parts.a=some a2) (u1 λa3=>
Af T.a50 a3 (Int.toNat n1*1) λl4=>
Ai (Ao (n0+(Ag l4))) λn5=>
Ac (decide (n5>262144)) (
Ad 0 [.slice none 0 0])<|
Ad 2 [Ak n5,Ak (Ao (n1+1))]))<|
Ad 1 [Ak n0]) λn6=>
Ap (Instr.makeSlice T.a50 (Ak 0) (Ak (Ao (n6+8)))) λl7=>
Aq F.a43 [.int .u32 (IntKind.wrap .u32 n6)] λl8=>
Ap (app T.a50 T.a50 T.a50 l7.v l8.v) λl9=>
AN 1 (
AO 2 ({ a:=l9.a,len:=l9.len,cap:=l9.cap },(0,())) λl10 n11=>
Ac (decide (n11<(Ag parts))) (
.ex [.adr] (c1 λa12=>0<=n11/\n11<(Ag parts)/\parts.a=some a12) (u1 λa13=>
Af T.a50 a13 (Int.toNat n11*1) λl14=>
Ap (app T.a50 T.a50 T.a50 l10.v l14.v) λl15=>
Ad 2 [l15.v,Ak (Ao (n11+1))]))<|
Ad 1 [l10.v]) λl16=>
Ap (Instr.buildSlice T.a47 1 #[(0,l16.v)]) λl17=>
Bt F.a42 [l17.v] λn18=>
Aq F.a43 [.int .u32 n18] λl19=>
Ap (app T.a50 T.a50 T.a50 l16.v l19.v) λl20=>
Ad 0 [l20.v]
theorem zu8 (parts:Sl):FnS (z08s parts) F.a41 #[.slice parts.a parts.len parts.cap]:=dV ⟨[],[(0,[(3,.one (.int .i64))]),(2,[(6,.one .slc)])],[],[(0,[(3,.one (.int .i64)),(11,.one (.int .i64))]),(2,[(6,.one .slc),(32,.one (.int .i64))])]⟩ Go.Proofs.Tryz.func300 (by kernel_rfl)
def z08z (x:Option Addr) (i:Int):Prog :=
AI T.a10 λa0=>
Ac (decide (i<0)) (
AJ T.a10 a0 (Bq 0 0 0)<|
Bw T.a10 a0 λn1 n2 n3=>
Ad 0 [Bq n1 n2 n3,.bool false])<|
Aa x λa5=>
Af T.a40 a5 4 λl6=>
.ex [.adr] (c1 λa7=>0<=i/\i<(Ag l6)/\l6.a=some a7) (u1 λa8=>
.read True (ld T.a10 (Addr.add a8 (Int.toNat i*3))) (sG [.int .i64,.int .i64,.int .i64]) (u3 λ(n9 n10 n11:Int)=>
AJ T.a10 a0 (Bq n9 n10 n11)<|
Bw T.a10 a0 λn12 n13 n14=>
Ad 0 [Bq n12 n13 n14,.bool true]))
theorem zuf (x:Option Addr) (i:Int):FnS (z08z x i) F.a48 #[.pointer x,.int .i64 i]:=dV ⟨[],[],[],[]⟩ Go.Proofs.Tryz.func303 (by kernel_rfl)
def z08x (i:Int) (fv0:Option Addr) (fv1:Option Addr):Prog :=
Ae<|
Bl T.a30 fv0 λp0=>
Aa p0 λa2=>
Af T.a40 a2 4 λl3=>
.ex [.adr] (c1 λa4=>0<=i/\i<(Ag l3)/\l3.a=some a4) (u1 λa5=>
Ab T.a14 (Addr.add a5 (Int.toNat i*3)) 0 λn6=>
Bn T.a14 fv1 λn7=>
Ay (decide (n6>n7)) λb8=>
Aj<|
Ad 0 [.bool b8])
theorem zud (i:Int) (fv0 fv1:Option Addr):FnS (z08x i fv0 fv1) F.a46 #[.int .i64 i,.pointer fv0,.pointer fv1]:=dV ⟨[],[],[],[]⟩ Go.Proofs.Tryz.func304 (by kernel_rfl)
def z01p (n lo:Int) (hi:Int):Prog :=
Ay (decide (n>=lo) && decide (n<=hi)) λb0=>
Ad 0 [.bool b0]
theorem znx (n lo hi:Int):FnS (z01p n lo hi) F.a113 #[.int .i64 n,.int .i64 lo,.int .i64 hi]:=dV ⟨[],[],[],[]⟩ Go.Proofs.Tryz.func307 (by kernel_rfl)
def z08q (sum:Int) (parts:Sl):Prog :=
Bu (IntKind.wrap .u32 (((BitVec.toNat (BitVec.ofInt 32 4294967295 ^^^ BitVec.ofInt 32 sum):Nat):Int))) λn0=>
B0 1 (
B1 2 (n0,(0,())) λn1 n2=>
Ac (decide (n2<(Ag parts))) (
B0 3 (
.ex [.adr] (c1 λa3=>0<=n2/\n2<(Ag parts)/\parts.a=some a3) (u1 λa4=>
Af T.a50 a4 (Int.toNat n2*1) λl5=>
B0 4 (
B1 5 (n1,(0,())) λn6 n7=>
Ac (decide (n7<(Ag l5))) (
B0 6 (
.ex [.adr] (c1 λa8=>0<=n7/\n7<(Ag l5)/\l5.a=some a8) (u1 λa9=>
AT T.a58 a9 (Int.toNat n7*1) λn10=>
Bd n10 λn11=>
Bu (IntKind.wrap .u32 (((BitVec.toNat (BitVec.ofInt 32 n6 ^^^ BitVec.ofInt 32 (IntKind.wrap .u32 n11)):Nat):Int))) λn12=>
B0 7 (
B1 8 (n12,(0,())) λn13 n14=>
Ac (decide (n14<8)) (
Bu (IntKind.wrap .u32 (((BitVec.toNat (BitVec.ofInt 32 (Int.fdiv n13 2) ^^^ BitVec.ofInt 32 (IntKind.wrap .u32 (((BitVec.toNat (BitVec.ofInt 32 3988292384 &&& BitVec.ofInt 32 (IntKind.wrap .u32 (0-IntKind.wrap .u32 (((BitVec.toNat (BitVec.ofInt 32 n13 &&& BitVec.ofInt 32 1):Nat):Int))))):Nat):Int)))):Nat):Int))) λn15=>
Ad 8 [.int .u32 n15,Ak (Ao (n14+1))])<|
Ad 7 [.int .u32 n13]) λn16=>
Ad 6 [.int .u32 n16])) λn17=>
Ad 5 [.int .u32 n17,Ak (Ao (n7+1))])<|
Ad 4 [.int .u32 n6]) λn18=>
Ad 3 [.int .u32 n18])) λn19=>
Ad 2 [.int .u32 n19,Ak (Ao (n2+1))])<|
Ad 1 [.int .u32 n1]) λn20=>
Bu (IntKind.wrap .u32 (((BitVec.toNat (BitVec.ofInt 32 4294967295 ^^^ BitVec.ofInt 32 n20):Nat):Int))) λn21=>
Ad 0 [.int .u32 n21]
theorem zu6 (sum:Int) (parts:Sl):FnS (z08q sum parts) F.a39 #[.int .u32 sum,.slice parts.a parts.len parts.cap]:=dV ⟨[],[(0,[(5,.one (.int .u32))]),(1,[(5,.one (.int .u32))]),(2,[(5,.one (.int .u32))]),(3,[(5,.one (.int .u32))]),(4,[(5,.one (.int .u32))])],[],[(0,[(5,.one (.int .u32)),(14,.one (.int .i64))]),(2,[(5,.one (.int .u32)),(20,.one (.int .i64))]),(4,[(5,.one (.int .u32)),(28,.one (.int .i64))])]⟩ Go.Proofs.Tryz.func316 (by kernel_rfl)
def z01h (a:ByteArray) (b:ByteArray):Prog :=
Ai (if ((ByteArray.size b:Nat):Int)<((ByteArray.size a:Nat):Int) then ((ByteArray.size b:Nat):Int) else ((ByteArray.size a:Nat):Int)) λn0=>
AK 1 (
AR 2 (0,()) λn1=>
Ac (decide (n1<n0)) (
Ai n1 λn2=>
Ae<|
.must (0<=n2/\n2<((ByteArray.size a:Nat):Int)) <|
.must (0<=n2/\n2<((ByteArray.size b:Nat):Int)) <|
Aj<|
Ac (bt a n2 != bt b n2) (
Ai n2 λn3=>
Ad 0 [Ak n3])<|
Ad 2 [Ak (Ao (n1+1))])<|
Ad 1 [])<|
Ai n0 λn4=>
Ad 0 [Ak n4]
theorem znp (a b:ByteArray):FnS (z01h a b) F.a105 #[.string a,.string b]:=dV ⟨[],[(0,[])],[],[(0,[(13,.one (.int .i64))])]⟩ Go.Proofs.Tryz.func317 (by kernel_rfl)
def z091 (offset place:Int) (time:Int):Prog :=
Ay (decide (offset>=0) && decide (offset<=1099511627776) && decide (place>=0) && decide (place<=4194304) && decide (time>=0) && decide (time<=1099511627776)) λb0=>
Ad 0 [.bool b0]
theorem zuh (offset place time:Int):FnS (z091 offset place time) F.a50 #[.int .i64 offset,.int .i64 place,.int .i64 time]:=dV ⟨[],[],[],[]⟩ Go.Proofs.Tryz.func318 (by kernel_rfl)
def z033 (n:Int):Prog :=
Aq F.a188 [.int .u64 (IntKind.wrap .u64 (((BitVec.toNat (BitVec.ofInt 64 (IntKind.wrap .u64 (IntKind.wrap .u64 n*2)) ^^^ BitVec.ofInt 64 (IntKind.wrap .u64 (Int.fdiv n 9223372036854775808))):Nat):Int)))] λl0=>
Ad 0 [l0.v]
theorem zpb (n:Int):FnS (z033 n) F.a175 #[.int .i64 n]:=dV ⟨[],[],[],[]⟩ Go.Proofs.Tryz.func319 (by kernel_rfl)
def z03f (s:ByteArray):Prog :=
Aq F.a188 [.int .u64 (IntKind.wrap .u64 (((ByteArray.size s:Nat):Int)))] λl0=>
Ap (app T.a50 T.a54 T.a50 l0.v (.string s)) λl1=>
Ad 0 [l1.v]
theorem zpn (s:ByteArray):FnS (z03f s) F.a187 #[.string s]:=dV ⟨[],[],[],[]⟩ Go.Proofs.Tryz.func320 (by kernel_rfl)
def z08u (n:Int):Prog :=
Ap (Instr.buildSlice T.a50 4 #[(0,.int .u8 (IntKind.wrap .u8 n)),(1,.int .u8 (IntKind.wrap .u8 (Int.fdiv n 256))),(2,.int .u8 (IntKind.wrap .u8 (Int.fdiv n 65536))),(3,.int .u8 (IntKind.wrap .u8 (Int.fdiv n 16777216)))]) λl0=>
Ad 0 [l0.v]
theorem zua (n:Int):FnS (z08u n) F.a43 #[.int .u32 n]:=dV ⟨[],[],[],[]⟩ Go.Proofs.Tryz.func321 (by kernel_rfl)
def z0c (x:Sl):List Value:=[.slice x.a x.len x.cap]
instance:Enc1 z0c .slc (λx=>x):=⟨λ_=>rfl⟩
instance:EncN z0c 1:=⟨λ_=>rfl,by decide,by simp [z0c,Value.oneCell']⟩
section
variable {w:World} {l r:List HP} {sz:Nat} {x:Sl}
theorem zaj {α:Type} {enc:α->List Value} [hE:EncN enc sz]:∀ (xs:List α) (n:Nat),(xs.flatMap enc).drop (n*sz)=(xs.drop n).flatMap enc
 | [],n=>by simp
 | x::xs,0=>by simp
 | x::xs,n+1=>by
  rw [List.flatMap_cons,Nat.succ_mul,Nat.add_comm,<- List.drop_drop,List.drop_left' (hE.len x),zaj xs n,List.drop_succ_cons]
theorem FocR.post {α:Type} {enc:α->List Value} [hE:EncN enc sz] {xs:List α} [hf:FocR l x sz (xs.flatMap enc)] {n m c:Nat} (hm:x.len<=m):FocR l ⟨z0q x.a sz n m,x.len-n,c⟩ sz ((xs.drop n).flatMap enc):=⟨λw hs=>by
 obtain ⟨hlen,h0⟩:=hf.rd w hs
 have hl:x.len=xs.length:=(hf.rd w hs).len hE.len hE.pos
 refine ⟨by rw [z2x,List.length_drop,hl],?_⟩
 by_cases hn:x.len-n=0
 ·exact .inl hn
 ·right
  rcases h0 with h0|⟨b,off,arr,T,fr,ha,hb,hc⟩
  ·omega
  ·refine ⟨b,off+n*sz,arr,T,fr,?_,hb,λi hi=>?_⟩
   ·show z0q x.a sz n m=_
    unfold z0q
    rw [if_neg (by omega),ha,Option.map_some,z2a]
   ·rw [<- zaj,List.length_drop] at hi
    rw [Nat.add_assoc,hc (n*sz+i) (by omega),<- zaj,List.getElem?_drop]⟩
end
section
variable {w:World} {l r:List HP} {Q:Post} {S:World->Prop}
theorem zrm {P:Program} {t el:TypeId} {sz bytes:Nat} {c:Int} {k:Sl->Prog} [ht:SlT P t el sz bytes] (n:Nat) (hs:Sat w l) (h:∀ x w',Sat w' (slc el sz x []::l)->(k x).wp P S w' Q) (hc:c=n:=by first|rfl|omega) (hb:n*bytes<=281474976710656/\n<=9223372036854775807:=by omega) (hS:∀ w',S w':=by exact λ_=>trivial) :
  (Prog.act (Instr.makeSlice t (.int .i64 0) (.int .i64 c)) sL (u1 k)).wp P S w Q:=by
 subst hc
 obtain ⟨i,z,hi,h2,h3,h4,h5⟩:=ht.parts
 have hrun:=run_make (P:=P) w t el i z ht.ok.1 hi h4 .i64 .i64 0 n (Int.le_refl _) (by omega) (by rw [h3,<- Int.natCast_mul,Nat.mul_comm];omega) (by omega)
 simp only [Int.toNat_zero,Int.toNat_natCast] at hrun
 have hp:=hs.push (o:=.cells (madeCells z.cells (n*i.size)) el) (w':=w.alloc (.cells (madeCells z.cells (n*i.size)) el)) rfl
 refine ⟨(⟨some ⟨w.heap.size,0,none⟩,0,n⟩,()),_,hrun,hS _,h ⟨some ⟨w.heap.size,0,none⟩,0,n⟩ _ ?_⟩
 refine hp.imp λp hp=>.inr ⟨w.heap.size,0,_,_,rfl,hp,by simp,Nat.zero_le _,?_,λi hi=>by simp at hi,z2p _ _⟩
 rw [size_madeCells,h2];simp
theorem zbo {P:Program} {T:TypeId} {sz:Nat} {α:Type} {enc:α->List Value} {xs:List α} {i i':Int} {x:Sl} {g g':Prop} {p:Pr} {f:p.D->Prog} (hs:Sat w l) [hf:FocR l x sz (xs.flatMap enc)] [hE:EncN enc sz] [hT:One P T]
  (y:p.D) (hg:g->∃ n,∃ hn:n<xs.length,i=(n:Int)/\enc xs[n]=[p.mk y]) (h:(f y).wp P S w Q) (hgg:g'->g:=by exact id) (hi':i'=i:=by rfl) :
  (Prog.ex [.adr] (c1 λa=>g->0<=i/\i<((x.len:Nat):Int)/\x.a=some a) (u1 λa=>.read g' (ld T (Addr.add a (Int.toNat i'*sz))) (.one (.one p)) (u1 f))).wp P S w Q:=by
 subst hi'
 have hr:=hf.rd w hs
 have hl:x.len=xs.length:=hr.len hE.len hE.pos
 by_cases hgc:g
 ·obtain ⟨n,hn,hin,hen⟩:=hg hgc
  subst hin
  obtain ⟨a,ha,he⟩:=hr.el hE.len (by omega)
  refine ⟨(a,()),λ_=>⟨by omega,by omega,ha⟩,(y,()),λ_=>?_,h⟩
  have:=he n hn
  rw [hen] at this
  have h2:=At.ld1 (P:=P) (T:=T) this rfl
  cases p <;> exact h2
 ·exact ⟨(⟨0,0,none⟩,()),λh=>absurd h hgc,(y,()),λh=>absurd (hgg h) hgc,h⟩
theorem zcl {P:Program} {T:TypeId} {sz:Nat} {α:Type} {enc:α->List Value} {xs:List α} {i i':Int} {j:Nat} {x:Sl} {g g':Prop} {p:Pr} {dec:α->p.D} {f:p.D->Prog} (hs:Sat w l) [hf:FocR l x sz (xs.flatMap enc)] [hE:EncN enc sz] [hD:EncF enc j p dec] [hT:One P T]
  (y:p.D) (hg:g->∃ n,∃ hn:n<xs.length,i=(n:Int)/\dec xs[n]=y) (h:(f y).wp P S w Q) (hgg:g'->g:=by exact id) (hi':i'=i:=by rfl) :
  (Prog.ex [.adr] (c1 λa=>g->0<=i/\i<((x.len:Nat):Int)/\x.a=some a) (u1 λa=>.read g' (ld T (Addr.add (Addr.add a (Int.toNat i'*sz)) j)) (.one (.one p)) (u1 f))).wp P S w Q:=by
 subst hi'
 by_cases hgc:g
 ·obtain ⟨n,hn,hin,hen⟩:=hg hgc
  subst hin hen
  obtain ⟨a,ha,hl,hr⟩:=ze5 (P:=P) (T:=T) (j:=j) (enc:=enc) (p:=p) (dec:=dec) (x:=x) hs hn
  exact ⟨(a,()),λ_=>⟨by omega,by omega,ha⟩,(dec xs[n],()),λ_=>by rw [Int.toNat_natCast];exact hr,h⟩
 ·exact ⟨(⟨0,0,none⟩,()),λh=>absurd h hgc,(y,()),λh=>absurd (hgg h) hgc,h⟩
theorem z05q {P:Program} {T:TypeId} {sz:Nat} {α:Type} {enc:α->List Value} {xs:List α} {ii:Int} {m j:Nat} {x:Sl} {g':Prop} {p:Pr} {dec:α->p.D} {f:p.D->Prog} (hs:Sat w l) [hf:FocR l x sz (xs.flatMap enc)] [hE:EncN enc sz] [hD:EncF enc j p dec] [hT:One P T]
  (n:Nat) (hn:n<xs.length) (h:(f (dec xs[n])).wp P S w Q) (hm:m=n*sz:=by rfl) (hi:ii=n:=by rfl) :
  (Prog.ex [.adr] (c1 λa=>(0:Int)<=ii/\ii<((x.len:Nat):Int)/\x.a=some a) (u1 λa=>.read g' (ld T (Addr.add (Addr.add a m) j)) (.one (.one p)) (u1 f))).wp P S w Q:=by
 subst hm hi
 obtain ⟨a,ha,hl,hr⟩:=ze5 (P:=P) (T:=T) (j:=j) (enc:=enc) (p:=p) (dec:=dec) (x:=x) hs hn
 exact ⟨(a,()),⟨by omega,by omega,ha⟩,(dec xs[n],()),λ_=>hr,h⟩
end
instance:ByE P T.a50 T.a58:=⟨by kernel_rfl,by kernel_rfl,by kernel_rfl⟩
instance:StT P T.a54:=⟨by kernel_rfl⟩
theorem z8c (m:Nat) {k:Int} (hk:0<=k):Int.fdiv (m:Int) k=((m / k.toNat:Nat):Int):=by
 obtain ⟨k,rfl⟩:=Int.eq_ofNat_of_zero_le hk
 rw [Int.fdiv_eq_ediv_of_nonneg _ hk];rfl
theorem zab (m:Nat) {k:Int} (hk:0<=k):Int.tdiv (m:Int) k=((m / k.toNat:Nat):Int):=by
 obtain ⟨k,rfl⟩:=Int.eq_ofNat_of_zero_le hk
 rfl
theorem z8p (m:Nat) {k:Int} (hk:0<=k):Int.tmod (m:Int) k=((m % k.toNat:Nat):Int):=by
 obtain ⟨k,rfl⟩:=Int.eq_ofNat_of_zero_le hk
 rfl
theorem z9h (m:Nat):IntKind.wrap .u8 (m:Int)=((m % 256:Nat):Int):=by simp [IntKind.wrap,IntKind.bits,IntKind.signed]
theorem zkt (m:Nat):IntKind.wrap .u32 (m:Int)=((m % 4294967296:Nat):Int):=by simp [IntKind.wrap,IntKind.bits,IntKind.signed]
theorem z8y (m:Nat):IntKind.wrap .u64 (m:Int)=((m % 18446744073709551616:Nat):Int):=by simp [IntKind.wrap,IntKind.bits,IntKind.signed]
theorem z0ae (m:Nat):(BitVec.toNat (BitVec.ofInt 8 (IntKind.wrap .u8 (m:Int)) ||| BitVec.ofInt 8 128))=m % 128+128:=by
 rw [z9h,BitVec.ofInt_natCast]
 have h:∀ k:Fin 256,(BitVec.ofNat 8 k.val ||| BitVec.ofInt 8 128).toNat=k.val % 128+128:=by decide +kernel
 have:=h ⟨m % 256,by omega⟩
 rw [this]
 show m % 256 % 128+128=_
 omega
theorem z05z (m:Nat) (hm:m<256):(BitVec.toNat (BitVec.ofInt 8 (m:Int) &&& BitVec.ofInt 8 127))=m % 128:=by
 rw [BitVec.ofInt_natCast]
 have h:∀ k:Fin 256,(BitVec.ofNat 8 k.val &&& BitVec.ofInt 8 127).toNat=k.val % 128:=by decide +kernel
 exact h ⟨m,hm⟩
theorem z0aq {n c i:Nat} (hn:n<128 ^ i) (hi:i<=9) (hc:c<256) (h9:i=9->c<=1) :
  IntKind.wrap .u64 (((BitVec.toNat (BitVec.ofInt 64 (n:Int) ||| BitVec.ofInt 64 (IntKind.wrap .u64 (IntKind.wrap .u64 (IntKind.wrap .u8 (((BitVec.toNat (BitVec.ofInt 8 (c:Int) &&& BitVec.ofInt 8 127):Nat):Int)))*2 ^ min (Int.toNat (IntKind.wrap .i64 (7*(i:Int)))) 64))):Nat):Int))=((n+128 ^ i*(c % 128):Nat):Int):=by
 have e1:min (Int.toNat (IntKind.wrap .i64 (7*(i:Int)))) 64=7*i:=by rw [w64 (by omega) (by omega)];omega
 have e2:(2:Nat) ^ (7*i)=128 ^ i:=by rw [Nat.pow_mul]
 have hle:128 ^ i*(c % 128)+128 ^ i<=18446744073709551616:=by
  have hcase:i=0\/i=1\/i=2\/i=3\/i=4\/i=5\/i=6\/i=7\/i=8\/i=9:=by omega
  rcases hcase with rfl|rfl|rfl|rfl|rfl|rfl|rfl|rfl|rfl|rfl <;> simp <;> omega
 rw [z05z c hc,e1,z9h,z8y (c % 128 % 256),show c % 128 % 256 % 18446744073709551616=c % 128 by omega]
 have e3:((c % 128:Nat):Int)*2 ^ (7*i)=((128 ^ i*(c % 128):Nat):Int):=by
  rw [<- e2,Nat.mul_comm (2 ^ (7*i)),Int.natCast_mul];simp
 rw [e3,z8y (128 ^ i*(c % 128)),BitVec.ofInt_natCast,BitVec.ofInt_natCast,BitVec.toNat_or,BitVec.toNat_ofNat,BitVec.toNat_ofNat,Nat.mod_eq_of_lt (show n<2 ^ 64 by omega),Nat.mod_mod,Nat.mod_eq_of_lt (show 128 ^ i*(c % 128)<2 ^ 64 by omega)]
 have h5:=Nat.two_pow_add_eq_or_of_lt (i:=7*i) (b:=n) (by rw [e2];exact hn) (c % 128)
 rw [e2] at h5
 rw [Nat.or_comm,<- h5,z8y,Nat.mod_eq_of_lt (by omega),Nat.add_comm]
section
variable {w:World} {l r:List HP} {Q:Post} {S:World->Prop}
theorem zrp (n:Nat) (hn:n<18446744073709551616) (hs:Sat w l):Ret P F.a188 #[.int .u64 (n:Int)] w λvs w'=>∃ z:Sl,vs=[z.v]/\Sat w' (slc T.a58 1 z ((z2f n).flatMap zi)::l) :=
 zpo n <| by
  delta z03g Ac Ad Ah Ap
  refine zl (λu w'=>∃ (m:Nat) (z:Sl) (acc:List UInt8),u=((m:Int),z,())/\m<128/\acc.length<=9/\z2f n=acc++[UInt8.ofNat m]/\Sat w' (slc T.a58 1 z (acc.flatMap zi)::l)) ?_ ?_
  ·refine z03 (λk u w=>∃ (z:Sl) (acc:List UInt8),u=((k:Int),z,())/\k<18446744073709551616/\z2f n=acc++z2f k/\Sat w (slc T.a58 1 z (acc.flatMap zi)::l)) n ⟨⟨none,0,0⟩,[],rfl,hn,rfl,hs.slc_nil⟩ ?_
   clear hs
   rintro k _ w ⟨z,acc,rfl,hk,he,hs⟩
   refine zk ?_
   have hal:acc.length<=9:=by
    have h1:=congrArg List.length he
    rw [List.length_append] at h1
    have h2:=z9a n
    have h3:=z9a k
    omega
   refine zh (λh=>?_) λh=>?_
   ·rw [zcg hk,if_neg (by omega)] at he
    refine z3w hs (xs:=acc) (enc:=zi) (UInt8.ofNat (k % 128+128)) (λz w' hs=>?_) ?_
    ·refine z1t (y:=((k / 128:Nat):Int)) ?_ (z8c k (by decide))
     refine z0l (k / 128) ?_
     exact ⟨z,acc++[UInt8.ofNat (k % 128+128)],rfl,by omega,by rw [he];simp,hs⟩
    ·unfold zi
     rw [z0ae,z9h]
     simp
   ·rw [zcg hk,if_pos (by omega)] at he
    exact zo (zf ⟨k,z,acc,rfl,by omega,hal,he,hs⟩)
  clear hs
  rintro _ w ⟨m,z,acc,rfl,hm,hal,he,hs⟩
  refine zk ?_
  refine z3w hs (xs:=acc) (enc:=zi) (UInt8.ofNat m) (λz w' hs=>?_) ?_
  ·refine ⟨rfl,z,rfl,?_⟩
   rw [he];exact hs
  ·unfold zi
   rw [z9h]
   simp
theorem z03v:∀ (k n:Nat) {w:World} {l:List HP},n<128 ^ (k+1)->n<18446744073709551616->Sat w l->Ret P F.a169 #[.int .u64 (n:Int)] w λvs w'=>∃ z:Sl,vs=[z.v]/\Sat w' (slc T.a58 1 z ((z2f n).flatMap zi)::l):=by
 intro k
 induction k with
 | zero =>
  intro n w l hn h64 hs
  refine zfa n ?_
  delta ztk Ac Ad Ap Aq
  rw [zcg h64,if_pos (by omega)]
  refine z0p ?_ (by omega)
  refine z6n hs (enc:=zi) (UInt8.ofNat n) (λz w' hs=>⟨rfl,z,rfl,hs⟩) ?_
  unfold zi
  rw [z9h];simp
 | succ k ih =>
  intro n w l hn h64 hs
  refine zfa n ?_
  delta ztk Ac Ad Ap Aq
  rw [zcg h64]
  refine zh (λh=>?_) λh=>?_
  ·rw [if_pos (by omega)]
   refine z6n hs (enc:=zi) (UInt8.ofNat n) (λz w' hs=>⟨rfl,z,rfl,hs⟩) ?_
   unfold zi
   rw [z9h];simp
  ·rw [if_neg (by omega)]
   have e1:IntKind.wrap .u64 (Int.tmod (n:Int) 128+128)=((n % 128+128:Nat):Int):=by
    rw [z8p n (by decide)]
    have:((n % Int.toNat 128:Nat):Int)+128=((n % 128+128:Nat):Int):=rfl
    rw [this,z8y];omega
   have e2:IntKind.wrap .u64 (Int.tdiv (n:Int) 128)=((n / 128:Nat):Int):=by
    rw [zab n (by decide),z8y]
    show ((n / 128 % _:Nat):Int)=_
    omega
   rw [e1,e2]
   refine z6n hs (enc:=zi) (UInt8.ofNat (n % 128+128)) (λy w' hs=>?_) ?_
   ·refine zb (ih (n / 128) (by rw [Nat.pow_succ] at hn;omega) (by omega) hs) λ_ _ hs=>?_
    obtain ⟨z,rfl,hs⟩:=hs
    refine zd ?_
    have hl:=z9a (n / 128)
    have hs:=hs.pick [1,0]
    refine wp_app' (xs:=[UInt8.ofNat (n % 128+128)]) (ys:=z2f (n / 128)) (enc:=zi) hs (λz w' hs=>?_) (by simp;omega)
    have hs:Sat _ (slc T.a58 1 z ((UInt8.ofNat (n % 128+128)::z2f (n / 128)).flatMap zi)::_):=hs
    exact ⟨rfl,z,rfl,hs.sub⟩
   ·unfold zi
    rw [z9h];simp
theorem zrh (x:Sl) (ps:List (Sl × List UInt8)) [hx:FocR l x 1 ((ps.map Prod.fst).flatMap z0c)] (hps:∀ p ∈ ps,FocR l p.1 1 (p.2.flatMap zi)) (hpl:ps.length<=1000000) (hn:(ps.flatMap Prod.snd).length<=1000000000) (hs:Sat w l) :
  Ret P F.a176 #[x.v] w λvs w'=>∃ z:Sl,vs=[z.v]/\Sat w' (slc T.a58 1 z ((ps.flatMap Prod.snd).flatMap zi)::l) :=
 zpc x <| by
  delta z034 AA AB AN AO Ac Ad Af Ag Ai Ak Ao Ap
  have hl:=hs.slen x (xs:=ps.map Prod.fst) (enc:=z0c)
  rw [List.length_map] at hl
  have hstep:∀ i (hi:i<ps.length),(ps.take (i+1)).flatMap Prod.snd=(ps.take i).flatMap Prod.snd++ps[i].2:=λi hi=>by
   rw [List.take_add_one,List.getElem?_eq_getElem hi,Option.toList_some,List.flatMap_append,List.flatMap_singleton]
  have hmany:∀ i,((ps.take i).flatMap Prod.snd).length<=1000000000:=λi=>by
   have:ps.flatMap Prod.snd=(ps.take i).flatMap Prod.snd++(ps.drop i).flatMap Prod.snd:=by rw [<- List.flatMap_append,List.take_append_drop]
   rw [this,List.length_append] at hn
   omega
  refine zl (λu w'=>u=((((ps.flatMap Prod.snd).length:Nat):Int),())/\Sat w' l) ?_ ?_
  ·refine z03 (λk u w=>∃ i:Nat,u=(((((ps.take i).flatMap Prod.snd).length:Nat):Int),(i:Int),())/\i<=ps.length/\ps.length-i=k/\Sat w l) ps.length ⟨0,rfl,by omega,rfl,hs⟩ ?_
   clear hs
   rintro k _ w ⟨i,rfl,hi,hk,hs⟩
   refine zk ?_
   refine zh (λhc=>?_) λhc=>?_
   rotate_left
   ·refine zo (zf ⟨?_,hs⟩)
    rw [List.take_of_length_le (by omega)]
   have hil:i<ps.length:=by omega
   refine z1z hs (xs:=ps.map Prod.fst) (enc:=z0c) i (by rw [List.length_map];exact hil) ?_
   rw [List.getElem_map]
   have hF:=hps _ (List.getElem_mem hil)
   have hpi:=hs.slen ps[i].1 (xs:=ps[i].2) (enc:=zi)
   have h1:=hmany (i+1)
   have h2:=congrArg List.length (hstep i hil)
   rw [List.length_append] at h2
   have e:IntKind.wrap .i64 (((((ps.take i).flatMap Prod.snd).length:Nat):Int)+((ps[i].1.len:Nat):Int))=((((ps.take (i+1)).flatMap Prod.snd).length:Nat):Int):=by rw [w64 (by omega) (by omega)];omega
   refine z86 e ?_
   refine z1k (us':=[.int .i64 ((((ps.take (i+1)).flatMap Prod.snd).length:Nat):Int),.int .i64 ((i+1:Nat):Int)]) (by (try simp (disch:=omega) only [w64]);first|rfl|(congr;omega)) ?_
   refine z0l (ps.length-(i+1)) ?_
   exact ⟨i+1,rfl,by omega,rfl,hs⟩
  clear hs
  rintro _ w ⟨rfl,hs⟩
  refine zk ?_
  refine zrm (ps.flatMap Prod.snd).length hs λz w' hs=>?_
  refine zl (λu w'=>∃ z:Sl,u=(z,())/\Sat w' (slc T.a58 1 z ((ps.flatMap Prod.snd).flatMap zi)::l)) ?_ (by rintro _ w' ⟨z,rfl,hs⟩;refine zk ?_;exact ⟨rfl,z,rfl,hs⟩)
  refine z03 (λk u w=>∃ (i:Nat) (z:Sl),u=(z,(i:Int),())/\i<=ps.length/\ps.length-i=k/\Sat w (slc T.a58 1 z (((ps.take i).flatMap Prod.snd).flatMap zi)::l)) ps.length ⟨0,z,rfl,by omega,rfl,hs⟩ ?_
  clear hs
  rintro k _ w ⟨i,z,rfl,hi,hk,hs⟩
  refine zk ?_
  refine zh (λhc=>?_) λhc=>?_
  rotate_left
  ·refine zo (zf ⟨z,rfl,?_⟩)
   rw [List.take_of_length_le (by omega)] at hs
   exact hs
  have hil:i<ps.length:=by omega
  refine z1z hs (xs:=ps.map Prod.fst) (enc:=z0c) i (by rw [List.length_map];exact hil) ?_
  rw [List.getElem_map]
  have hF:=hps _ (List.getElem_mem hil)
  have h1:=hmany (i+1)
  rw [hstep i hil,List.length_append] at h1
  refine wp_app' (xs:=(ps.take i).flatMap Prod.snd) (ys:=ps[i].2) (enc:=zi) hs (λz w' hs=>?_)
  rw [<- hstep i hil] at hs
  refine z1k (us':=[z.v,.int .i64 ((i+1:Nat):Int)]) (by (try simp (disch:=omega) only [w64]);first|rfl|(congr;omega)) ?_
  refine z0l (ps.length-(i+1)) ?_
  exact ⟨i+1,z,rfl,by omega,rfl,hs⟩
theorem zl6 (x:Sl) (bs:List UInt8) [hx:FocR l x 1 (bs.flatMap zi)] (hn:bs.length<=1000000000) (hs:Sat w l) :
  Ret P F.a0 #[x.v] w λvs w'=>∃ z:Sl,vs=[z.v]/\Sat w' (slc T.a58 1 z (bs.flatMap zi)::l) :=
 zkb x <| by
  delta zf0 Ac Ad Ap
  have hl:=hs.slen x (xs:=bs) (enc:=zi)
  refine zh (λh=>?_) λh=>?_
  ·have h:x.a=none:=by simpa using h
   have:bs=[]:=by
    obtain ⟨h1,h2|⟨b,off,arr,T',fr,ha,-⟩⟩:=hx.rd w hs
    ·exact List.length_eq_zero_iff.1 (by omega)
    ·rw [h] at ha;cases ha
   subst this
   exact ⟨rfl,⟨none,0,0⟩,rfl,hs.slc_nil⟩
  ·refine z9v hs (enc:=zi) [] bs0 (λb w' hs=>?_)
   refine wp_app' (xs:=[]) (ys:=bs) (enc:=zi) hs (λz w' hs=>?_) (by simp;omega)
   exact ⟨rfl,z,rfl,hs⟩
structure RdM where
 bs:List UInt8
 at_:Nat
 e:Int
def RdM.fail (R:RdM) (e:Int):RdM:=⟨R.bs,R.at_,if R.e=0 then e else R.e⟩
def RdM.uint (R:RdM):Nat × RdM:=if R.e≠0 then (0,R) else match z2u 0 (R.bs.drop R.at_) with
 | some p=>(p.1,⟨R.bs,R.at_+p.2,R.e⟩)
 | none=>(0,⟨R.bs,R.at_,6⟩)
def RdM.done (R:RdM):RdM:=if R.at_<R.bs.length then R.fail 6 else R
def rdP (T':TypeId) (p:Nat) (R:RdM):HP:=HP.ex λx:Sl=>HP.and (R.at_<=R.bs.length/\R.bs.length<=1000000000) (HP.star (pt p (.cells #[.slice x.a x.len x.cap,.int .i64 R.at_,.int .i64 R.e] T')) (slc T.a58 1 x (R.bs.flatMap zi)))
theorem z21 {T':TypeId} {p:Nat} {R:RdM} (hs:Sat w (rdP T' p R::l)):∃ x:Sl,(R.at_<=R.bs.length/\R.bs.length<=1000000000)/\Sat w (pt p (.cells #[.slice x.a x.len x.cap,.int .i64 R.at_,.int .i64 R.e] T')::slc T.a58 1 x (R.bs.flatMap zi)::l):=by
 obtain ⟨x,hs⟩:=hs.ex
 obtain ⟨h,hs⟩:=hs.and
 exact ⟨x,h,hs.star⟩
theorem z0z {T':TypeId} {p:Nat} (R:RdM) {x:Sl} (h:R.at_<=R.bs.length/\R.bs.length<=1000000000) (hs:Sat w (pt p (.cells #[.slice x.a x.len x.cap,.int .i64 R.at_,.int .i64 R.e] T')::slc T.a58 1 x (R.bs.flatMap zi)::l)):Sat w (rdP T' p R::l) :=
 .ex_mk x (.and_mk h (.star_mk hs))
theorem zrf (R:RdM):(R.uint.2).bs=R.bs:=by
 unfold RdM.uint
 split
 ·rfl
 ·split <;> rfl
variable {p:Nat} {R:RdM}
theorem znd (x:Sl) (bs:List UInt8) [hx:FocR l x 1 (bs.flatMap zi)] (hn:bs.length<=1000000000) (hs:Sat w l) :
  Ret P F.a177 #[x.v] w λvs w'=>∃ p:Nat,vs=[.pointer (some ⟨p,0,none⟩)]/\Sat w' (rdP T.a60 p ⟨bs,0,0⟩::l) :=
 zpd x <| by
  delta z035 A8 Ad Ak Aq As
  refine zb (zl6 x bs hn hs) λ_ _ hs=>?_
  obtain ⟨z,rfl,hs⟩:=hs
  refine zd ?_
  refine zq hs λp w' hs=>?_
  exact ⟨rfl,p,rfl,z0z ⟨bs,0,0⟩ ⟨Nat.zero_le _,hn⟩ hs⟩
theorem zdh [hf:Fo l (rdP T.a60) p R r] (hs:Sat w l):Ret P F.a190 #[.pointer (some ⟨p,0,none⟩)] w λvs w'=>vs=[.int .i64 ((R.bs.length-R.at_:Nat):Int)]/\Sat w' (rdP T.a60 p R::r) :=
 zpq _ <| by
  delta z03i Aa Ab Ad Ae Af Ag Ai Aj Ak Ao
  obtain ⟨x,hb,hs⟩:=z21 (hs.perm hf.perm)
  have hl:=hs.slen x (xs:=R.bs) (enc:=zi)
  refine zv hs λw' hs=>?_
  refine zj ?_
  refine z8 hs ?_
  refine zj ?_
  refine z8 hs ?_
  refine z1t (y:=((R.bs.length-R.at_:Nat):Int)) ?_ (by rw [w64 (by omega) (by omega)];omega)
  refine ze ?_
  exact ⟨rfl,rfl,z0z R hb hs⟩
theorem z7o (e:Int) [hf:Fo l (rdP T.a60) p R r] (hs:Sat w l):Ret P F.a189 #[.pointer (some ⟨p,0,none⟩),.int .i64 e] w λvs w'=>vs=[]/\Sat w' (rdP T.a60 p (R.fail e)::r) :=
 zpp _ e <| by
  delta z03h AK Aa Ab Ac Ad Ak An
  obtain ⟨x,hb,hs⟩:=z21 (hs.perm hf.perm)
  refine zj ?_
  refine z8 hs ?_
  refine zl (λ_ w'=>Sat w' (rdP T.a60 p (R.fail e)::r)) ?_ (by rintro _ w' hs;refine zk ?_;exact ⟨rfl,rfl,hs⟩)
  refine zh (λh=>?_) λh=>?_
  ·refine zj ?_
   refine z02 hs λw' hs=>?_
   refine zf ?_
   have e1:R.fail e=⟨R.bs,R.at_,e⟩:=by unfold RdM.fail;rw [if_pos h]
   rw [e1]
   exact z0z ⟨R.bs,R.at_,e⟩ hb hs
  ·have e1:R.fail e=R:=by unfold RdM.fail;rw [if_neg h]
   rw [e1]
   exact zf (z0z R hb hs)
theorem zqz [hf:Fo l (rdP T.a60) p R r] (he:R.e=0) (hs:Sat w l):Ret P F.a192 #[.pointer (some ⟨p,0,none⟩)] w λvs w'=>vs=[.int .u64 ((R.uint.1:Nat):Int)]/\Sat w' (rdP T.a60 p R.uint.2::r) :=
 zps _ <| by
  delta z03k AC AK AT Aa Ab Ac Ad Ae Af Ag Ah Ai Aj Ak Al Am An Ao Bd
  have hs:=hs.perm hf.perm
  refine zl (λ_ w'=>z2u 0 (R.bs.drop R.at_)=none/\Sat w' (rdP T.a60 p R::r)) ?_ ?_
  rotate_left
  ·rintro _ w' ⟨hno,hs⟩
   refine zk ?_
   refine zb (z7o (p:=p) 6 hs) λ_ _ hs=>?_
   obtain ⟨rfl,hs⟩:=hs
   refine zd ?_
   have e1:R.uint=(0,R.fail 6):=by unfold RdM.uint RdM.fail;rw [if_neg (by rw [he];simp),hno,if_pos he]
   rw [e1]
   exact ⟨rfl,rfl,hs⟩
  refine z03 (λk u w=>∃ i n:Nat,u=((n:Int),(i:Int),())/\i<=10/\10-i=k/\n<128 ^ i/\z2u 0 (R.bs.drop R.at_)=(z2u i ((R.bs.drop R.at_).drop i)).map (λq=>(n+128 ^ i*q.1,i+q.2))/\Sat w (rdP T.a60 p R::r)) 10
   ⟨0,0,rfl,by omega,rfl,by simp,by simp,hs⟩ ?_
  clear hs
  rintro k _ w ⟨i,n,rfl,hi,hk,hn,hnum,hs⟩
  refine zk ?_
  refine zh (λhc=>?_) λhc=>?_
  rotate_left
  ·refine zo (zf ⟨?_,hs⟩)
   rw [hnum]
   have:z2u i ((R.bs.drop R.at_).drop i)=none:=by
    cases (R.bs.drop R.at_).drop i with
    | nil=>rfl
    | cons c q=>rw [z94,if_pos (by omega)]
   rw [this];rfl
  refine zb (zdh (p:=p) hs) λ_ _ hs=>?_
  obtain ⟨rfl,hs⟩:=hs
  refine zd ?_
  refine zh (λhc2=>?_) λhc2=>?_
  ·refine zo (zf ⟨?_,hs⟩)
   rw [hnum,List.drop_drop,List.drop_eq_nil_of_le (by omega)];rfl
  obtain ⟨x,hb,hs⟩:=z21 hs
  have hl:=hs.slen x (xs:=R.bs) (enc:=zi)
  have hlt:R.at_+i<R.bs.length:=by omega
  refine zv hs λw' hs=>?_
  refine zj ?_
  refine z8 hs ?_
  refine zj ?_
  refine z8 hs ?_
  refine z1z hs (xs:=R.bs) (enc:=zi) (R.at_+i) hlt ?_ (by rw [w64 (by omega) (by omega)];omega)
  rw [List.drop_drop,List.drop_eq_getElem_cons hlt] at hnum
  generalize R.bs[R.at_+i]=c at hnum
  have hc256:=c.toNat_lt
  refine wp_lt ?_
  refine ze ?_
  have hz:∀ {X:Option (Nat × Nat)},z2u i (c::R.bs.drop (R.at_+i+1))=X->z2u 0 (R.bs.drop R.at_)=X.map (λq=>(n+128 ^ i*q.1,i+q.2)):=λ{X} h=>by rw [hnum,h]
  refine zh (λh9=>?_) λh9=>?_
  ·refine zo (zf ⟨?_,z0z R hb hs⟩)
   refine hz (X:=none) ?_
   rw [z94]
   rw [if_pos (by right;omega)]
  refine wp_must (by rw [w64 (by omega) (by omega)];omega) ?_
  have h91:i=9->c.toNat<=1:=λe=>by
   apply Nat.le_of_not_lt
   intro h
   exact h9 ⟨by omega,by omega⟩
  rw [z0aq hn (by omega) (by omega) h91]
  refine wp_lt ?_
  refine zh (λh128=>?_) λh128=>?_
  ·refine z1t (y:=((i+1:Nat):Int)) ?_ (by rw [w64 (by omega) (by omega)];omega)
   refine z0l (10-(i+1)) ?_
   have hpos:0<128 ^ i:=Nat.pow_pos (by decide)
   have hmul:128 ^ i*(c.toNat % 128)<=128 ^ i*127:=Nat.mul_le_mul_left _ (by omega)
   refine ⟨i+1,_,rfl,by omega,rfl,by rw [Nat.pow_succ];omega,?_,z0z R hb hs⟩
   rw [hnum]
   rw [z94]
   rw [if_neg (by omega),if_pos (by omega),List.drop_drop,<- Nat.add_assoc]
   cases z2u (i+1) (R.bs.drop (R.at_+i+1)) with
   | none=>rfl
   | some q =>
    simp only [Option.map_some,Option.some.injEq,Prod.mk.injEq]
    refine ⟨?_,by omega⟩
    rw [Nat.pow_succ,Nat.mul_add,Nat.mul_assoc,Nat.add_assoc]
  refine zh (λh0=>?_) λh0=>?_
  ·refine zo (zf ⟨?_,z0z R hb hs⟩)
   refine hz (X:=none) ?_
   rw [z94]
   rw [if_neg (by omega),if_neg (by omega),if_pos (by omega)]
  have hsome:=hz (X:=some (c.toNat,1)) (by rw [z94,if_neg (by omega),if_neg (by omega),if_neg (by omega)])
  have e1:R.uint=(n+128 ^ i*c.toNat,⟨R.bs,R.at_+(i+1),R.e⟩):=by
   unfold RdM.uint
   rw [if_neg (by rw [he];simp),hsome];rfl
  rw [e1]
  refine zj ?_
  refine z8 hs ?_
  refine zj ?_
  have e2:IntKind.wrap .i64 ((R.at_:Int)+IntKind.wrap .i64 ((i:Int)+1))=((R.at_+(i+1):Nat):Int):=by rw [w64 (x:=(i:Int)+1) (by omega) (by omega),w64 (by omega) (by omega)];omega
  rw [e2]
  refine z02 hs λw' hs=>?_
  refine wp_lt ?_
  refine zo (zo ⟨rfl,?_,z0z ⟨R.bs,R.at_+(i+1),R.e⟩ ⟨by show R.at_+(i+1)<=R.bs.length;omega,hb.2⟩ hs⟩)
  rw [show c.toNat % 128=c.toNat by omega]
theorem zda [hf:Fo l (rdP T.a60) p R r] (hs:Sat w l):Ret P F.a186 #[.pointer (some ⟨p,0,none⟩)] w λvs w'=>vs=[.bool (decide (R.e=0))]/\Sat w' (rdP T.a60 p R::r) :=
 zpm _ <| by
  delta z03e AF Ad Ay Bc
  obtain ⟨x,hb,hs⟩:=z21 (hs.perm hf.perm)
  refine z0j ?_
  refine z8 hs ?_
  refine wp_lt ?_
  refine ⟨rfl,?_,z0z R hb hs⟩
  by_cases h:R.e=0 <;> simp [h]
theorem zr4 [hf:Fo l (rdP T.a60) p R r] (hs:Sat w l):Ret P F.a184 #[.pointer (some ⟨p,0,none⟩)] w λvs w'=>vs=[.int .u64 ((R.uint.1:Nat):Int)]/\Sat w' (rdP T.a60 p R.uint.2::r) :=
 zpk _ <| by
  delta z03c AP AQ Aa Ac Ad Ah Al Aw
  refine zb (zda (p:=p) hs) λ_ _ hs=>?_
  obtain ⟨rfl,hs⟩:=hs
  refine zd ?_
  refine zh (λh=>?_) λh=>?_
  ·have h:R.e≠0:=by simpa using h
   have e1:R.uint=(0,R):=by unfold RdM.uint;rw [if_pos h]
   rw [e1]
   exact ⟨rfl,rfl,hs⟩
  ·have h:R.e=0:=by simpa using h
   refine zj ?_
   refine zb (zqz (p:=p) h hs) λ_ _ hs=>?_
   obtain ⟨rfl,hs⟩:=hs
   refine zd ?_
   refine wp_lt ?_
   exact ⟨rfl,rfl,hs⟩
theorem z079 [hf:Fo l (rdP T.a60) p R r] (hs:Sat w l):Ret P F.a180 #[.pointer (some ⟨p,0,none⟩)] w λvs w'=>vs=[.int .i64 R.e]/\Sat w' (rdP T.a60 p R::r) :=
 zpg _ <| by
  delta z038 Aa Ab Ac Ad Ai Ak
  obtain ⟨x,hb,hs⟩:=z21 (hs.perm hf.perm)
  refine zu ?_ (by simp)
  refine zj ?_
  refine z8 hs ?_
  refine wp_lt ?_
  exact ⟨rfl,rfl,z0z R hb hs⟩
theorem z078 [hf:Fo l (rdP T.a60) p R r] (hs:Sat w l):Ret P F.a179 #[.pointer (some ⟨p,0,none⟩)] w λvs w'=>vs=[.int .i64 R.done.e]/\Sat w' (rdP T.a60 p R.done::r) :=
 zpf _ <| by
  delta z037 AC AK AP Aa Ab Ac Ad Ai Ak Am
  refine zu ?_ (by simp)
  refine zj ?_
  refine zb (zdh (p:=p) hs) λ_ _ hs=>?_
  obtain ⟨rfl,hs⟩:=hs
  refine zd ?_
  refine zl (λ_ w'=>Sat w' (rdP T.a60 p R.done::r)) ?_ ?_
  ·unfold RdM.done
   refine zh (λh=>?_) λh=>?_
   ·rw [if_pos (by omega)]
    refine zj ?_
    refine zb (z7o (p:=p) 6 hs) λ_ _ hs=>?_
    obtain ⟨rfl,hs⟩:=hs
    refine zd ?_
    exact zf hs
   ·rw [if_neg (by omega)]
    exact zf hs
  clear hs
  rintro _ w hs
  refine zk ?_
  obtain ⟨x,hb,hs⟩:=z21 hs
  refine zj ?_
  refine z8 hs ?_
  refine wp_lt ?_
  exact ⟨rfl,rfl,z0z R.done hb hs⟩
end
theorem z01a {n:Int} (h:0<=n/\n<9223372036854775808):IntKind.wrap .u64 n=((n.toNat:Nat):Int):=by
 obtain ⟨m,rfl⟩:=Int.eq_ofNat_of_zero_le h.1
 show IntKind.wrap .u64 ((m:Nat):Int)=_
 rw [z8y];omega
def uI (n:Int):List UInt8:=z2f n.toNat
theorem z18 (n:Int):0<(uI n).length/\(uI n).length<=10:=z9a _
section
variable {w:World} {l r:List HP} {Q:Post} {S:World->Prop}
theorem z3v (n:Int) (hn:0<=n/\n<9223372036854775808) (hs:Sat w l):Ret P F.a188 #[.int .u64 (IntKind.wrap .u64 n)] w λvs w'=>∃ z:Sl,vs=[z.v]/\Sat w' (slc T.a58 1 z ((uI n).flatMap zi)::l):=by
 rw [z01a hn]
 exact zrp n.toNat (by omega) hs
theorem zlg (n:Int) (hn:0<=n/\n<9223372036854775808) (hs:Sat w l):Ret P F.a169 #[.int .u64 (IntKind.wrap .u64 n)] w λvs w'=>∃ z:Sl,vs=[z.v]/\Sat w' (slc T.a58 1 z ((uI n).flatMap zi)::l):=by
 rw [z01a hn]
 exact z03v 9 n.toNat (by omega) (by omega) hs
theorem zn3 (x a b c:Sl) (aa bs cs:List UInt8) [hx:FocR l x 1 ([a,b,c].flatMap z0c)] [ha:FocR l a 1 (aa.flatMap zi)] [hb:FocR l b 1 (bs.flatMap zi)] [hc:FocR l c 1 (cs.flatMap zi)] (hn:aa.length+bs.length+cs.length<=1000000000) (hs:Sat w l) :
  Ret P F.a176 #[x.v] w λvs w'=>∃ z:Sl,vs=[z.v]/\Sat w' (slc T.a58 1 z ((aa++(bs++cs)).flatMap zi)::l):=by
 have:=@zrh w l x [(a,aa),(b,bs),(c,cs)] hx (by
  intro p hp
  rcases List.mem_cons.1 hp with rfl|hp
  ·exact ha
  rcases List.mem_cons.1 hp with rfl|hp
  ·exact hb
  ·rw [List.mem_singleton.1 hp];exact hc) (by simp) (by simp;omega) hs
 simpa using this
theorem z00o (x a b c d:Sl) (aa bs cs ds:List UInt8) [hx:FocR l x 1 ([a,b,c,d].flatMap z0c)] [ha:FocR l a 1 (aa.flatMap zi)] [hb:FocR l b 1 (bs.flatMap zi)] [hc:FocR l c 1 (cs.flatMap zi)] [hd:FocR l d 1 (ds.flatMap zi)]
  (hn:aa.length+bs.length+cs.length+ds.length<=1000000000) (hs:Sat w l) :
  Ret P F.a176 #[x.v] w λvs w'=>∃ z:Sl,vs=[z.v]/\Sat w' (slc T.a58 1 z ((aa++(bs++(cs++ds))).flatMap zi)::l):=by
 have:=@zrh w l x [(a,aa),(b,bs),(c,cs),(d,ds)] hx (by
  intro p hp
  rcases List.mem_cons.1 hp with rfl|hp
  ·exact ha
  rcases List.mem_cons.1 hp with rfl|hp
  ·exact hb
  rcases List.mem_cons.1 hp with rfl|hp
  ·exact hc
  ·rw [List.mem_singleton.1 hp];exact hd) (by simp) (by simp;omega) hs
 simpa using this
theorem z7s {P:Program} {t:TypeId} {sz:Nat} {α:Type} {enc:α->List Value} {n:Nat} {ps:Array (Nat × Value)} {el:TypeId} {bytes:Nat} {k:Sl->Prog} (hs:Sat w l) [ht:SlT P t el sz bytes] [hE:EncN enc sz] (xs:List α)
  (h:∀ x w',Sat w' (slc el sz x (xs.flatMap enc)::l)->(k x).wp P S w' Q) (hc:z47 P t n ps=some (el,(xs.flatMap enc).toArray):=by kernel_rfl) (hn:xs.length=n:=by rfl) (hS:∀ w',S w':=by exact λ_=>trivial) :
  (Prog.act (Instr.buildSlice t n ps) sL (u1 k)).wp P S w Q:=z9v hs xs hc (λb w' hs=>h _ w' hs) (by simp) hn hS
end
def z4w (R:RdM):List UInt8:=R.bs.drop R.at_
theorem zxq {a b:Nat} {x y:List UInt8} (ha:a<18446744073709551616) (hb:b<18446744073709551616) (h:z2f a++x=z2f b++y):a=b/\x=y:=by
 have h1:=zar ha x
 have h2:=zar hb y
 rw [h,h2] at h1
 simp only [Option.some.injEq,Prod.mk.injEq] at h1
 obtain ⟨rfl,-⟩:=h1
 exact ⟨rfl,List.append_cancel_left h⟩
theorem zn0 {a b:Int} {x y:List UInt8} (ha:0<=a/\a<18446744073709551616) (hb:0<=b/\b<18446744073709551616) (h:uI a++x=uI b++y):a=b/\x=y:=by
 obtain ⟨h1,h2⟩:=zxq (by omega) (by omega) h
 exact ⟨by omega,h2⟩
theorem zt4 {R:RdM} (hb:R.at_<=R.bs.length) :
  (R.e=0/\R.uint.1<18446744073709551616/\R.uint.2.e=0/\R.uint.2.at_<=R.uint.2.bs.length/\R.uint.2.bs=R.bs/\z4w R=z2f R.uint.1++z4w R.uint.2) \/
  (R.uint.1=0/\R.uint.2.e≠0/\R.uint.2.at_<=R.uint.2.bs.length/\(R.e=0->∀ m z,m<18446744073709551616->z4w R≠z2f m++z)):=by
 unfold RdM.uint z4w
 by_cases h0:R.e=0
 ·rw [if_neg (by rw [h0];simp)]
  cases hn:z2u 0 (R.bs.drop R.at_) with
  | none =>
   refine .inr ⟨rfl,(show (6:Int)≠0 by decide),hb,λ_ m z hm he=>?_⟩
   rw [he,zar hm] at hn
   cases hn
  | some p =>
   obtain ⟨v,k⟩:=p
   obtain ⟨h1,h2⟩:=zfu hn
   have h3:=zft _ _ _ _ hn
   rw [List.length_drop] at h3
   refine .inl ⟨h0,h2,h0,by show R.at_+k<=R.bs.length;omega,rfl,?_⟩
   show R.bs.drop R.at_=z2f v++R.bs.drop (R.at_+k)
   rw [<- h1,<- List.drop_drop,List.take_append_drop]
 ·rw [if_pos h0]
  exact .inr ⟨rfl,h0,hb,λh=>absurd h h0⟩
theorem zml {R:RdM}:(z4w R).length=R.bs.length-R.at_:=by unfold z4w;rw [List.length_drop]
theorem z6h {w:World} {l:List HP} {T':TypeId} {p:Nat} {R:RdM} (hs:Sat w (rdP T' p R::l)):R.at_<=R.bs.length/\R.bs.length<=1000000000:=by
 obtain ⟨x,h,-⟩:=z21 hs
 exact h
theorem zs1 {R:RdM} (hb:R.at_<=R.bs.length):R.done.e=0↔R.e=0/\z4w R=[]:=by
 have hl:=zml (R:=R)
 unfold RdM.done RdM.fail
 by_cases h:R.at_<R.bs.length
 ·rw [if_pos h]
  constructor
  ·intro h2
   by_cases h3:R.e=0
   ·simp [h3] at h2
   ·simp [h3] at h2
  ·rintro ⟨-,h2⟩
   rw [h2] at hl;simp at hl;omega
 ·rw [if_neg h]
  exact ⟨λh2=>⟨h2,List.length_eq_zero_iff.1 (by omega)⟩,λh2=>h2.1⟩
end Go.Dec
