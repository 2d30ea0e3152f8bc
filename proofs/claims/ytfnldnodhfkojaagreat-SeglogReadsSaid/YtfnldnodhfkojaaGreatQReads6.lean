/- What the claim of this folder leans on: our own texts, joined, without what it does not use. -/
import Derived.Test.YtfnldnodhfkojaaGreatRows
import Derived.WalkKit
import Derived.ProofKit
import Derived.OpenShut
import Derived.RowKit3
import Derived.OrdersHeld
import Derived.Scope
import Derived.KernelRfl
import Derived.Laws.Sem
import Derived.Laws.StructEq
import Derived.Deep.AppendSrc
import Derived.Laws.BytesArg
import Derived.Laws.RangeString
import Derived.Maps.RangeRun
import Derived.Lib.ConvBytes
import Derived.Lib.SlBytesConst
import Derived.ChangeSlices
import Derived.ChangeMaps5
import Derived.ChangeSame
import Derived.Deep.Slices
import Derived.Deep.Fields
import Derived.Test.YtfnldnodhfkojaaGreatProg
import Derived.Laws.MakeOwn
import Derived.Sort.MapsRangeIn
import Derived.Sort.KeysCollected
import Derived.RangeFuncNested
import Derived.RangeFuncBound
import Derived.RangeFuncCalls
import Derived.RangeFuncLeaves
import Derived.RangeFuncBox
import Derived.OwnWalkIn
import Derived.TacticsInMore
import Derived.RegionIn
import Derived.LoopNIn
import Derived.LoopIn
import Derived.Maps.AppendAt
import Derived.Shelf.Abstract
import Derived.Test.YtfnldnodhfkojaaGreatQReads1
import Derived.Test.YtfnldnodhfkojaaGreatQReads2
import Derived.Test.YtfnldnodhfkojaaGreatQReads3
import Derived.Test.YtfnldnodhfkojaaGreatQReads4
import Derived.Test.YtfnldnodhfkojaaGreatQReads5
set_option linter.unusedVariables false
set_option linter.unusedSimpArgs false
namespace Go.Dec
instance (priority:=low) AddrIs.adds {a:Addr} {b off n:Nat} [h:AddrIs a b off]:AddrIs (a.add n) b (off+n):=⟨by rw [h.ok,add_mk]⟩
section
variable {P:Program} {w:World} {Q:Post} {S:World→Prop}
theorem wp_gz {g:Prop} {o:Option Addr} {f:Addr→Prog} (h:(f ⟨0,0,none⟩).wp P S w Q) (hg:¬ g):(Prog.ex [.adr] (c1 fun x=>g→o=some x) (u1 f)).wp P S w Q:=⟨(⟨0,0,none⟩,()),fun h=>absurd h hg,h⟩
theorem wp_gr {g:Prop} {m:Sem Value} {p:Pr} {f:p.D→Prog} (x:p.D) (hg:¬ g) (h:(f x).wp P S w Q):(Prog.read g m (.one (.one p)) (u1 f)).wp P S w Q:=⟨(x,()),fun h=>absurd h hg,h⟩
end
def SegA.add (s:SegA) (bs:List BatM):SegA:=⟨s.base,s.fin,s.bs++bs.map BatM.p⟩
theorem add_nil (s:SegA):s.add []=s:=by unfold SegA.add;simp
theorem add_add (s:SegA) (a b:List BatM):(s.add a).add b=s.add (a++b):=by unfold SegA.add;simp
theorem flat_p (bs:List BatM):(bs.map BatM.p).flatMap frL=bs.flatMap frL:=by
 rw [List.flatMap_map];rfl
theorem file_add (s:SegA) (bs:List BatM):(s.add bs).file=s.file++bs.flatMap frL:=by
 unfold SegA.file SegA.add
 simp only [List.flatMap_append,flat_p,List.append_assoc]
theorem idx_add (gap:Int) (s:SegA) (b:BatM):(s.add [b]).idx gap=(noteA (s.idx gap) b.base (s.file.length:Nat) (lateB b)).2:=by
 unfold SegA.idx SegA.add
 show idxG (idx0 gap) _ (s.bs++[b.p])=_
 rw [idxG_snoc,file_len]
 rw [show ((((shL s.base s.fin).length+(s.bs.flatMap frL).length:Nat)):Int)=((shL s.base s.fin).length:Int)+((s.bs.flatMap frL).length:Int) by omega]
 rfl
theorem getLast_map {α β:Type} (f:α→β) (l:List α):(l.map f).getLast? = l.getLast?.map f:=by simp
section
variable {w:World} {l r:List HP} {lg:Nat} {M:LogM} {A:LogA} {gap:Int} {a:Nat} {t:SegM}
theorem reach_c [hf:Fo l (segP gap) a t r] (hs:Sat w l):Ret P F.a74 #[.pointer (some ⟨a,0,none⟩)] w fun vs w'=>vs=[.int .i64 t.s.reach]∧Sat w' (segP gap a t::r) :=
 zf82_calls _ <| by
  unfold zf82
  have hs:=seg_open (hs.perm hf.perm)
  refine wp_tk hs fun w' hs=>?_
  refine wp_nn ?_
  refine wp_ldO hs ?_
  refine wp_nn ?_
  refine wp_ldO hs ?_
  refine wp_nn ?_
  refine wp_ldO hs ?_
  refine wp_ltx (y:=t.s.reach) ?_ (by unfold SegA.reach;split <;> split <;> omega)
  refine wp_untick ?_
  exact ⟨rfl,rfl,seg_close t hs⟩
theorem newseg_c (base fin:Int) (hb:0≤base∧base<9223372036854775808) (hf':0≤fin∧fin<9223372036854775808) [hf:Fo l lgQ lg M r] (hs:Sat w l) :
  Ret P F.a65 #[.pointer (some ⟨lg,0,none⟩),.int .i64 base,.int .i64 fin] w fun vs w'=>∃ a ix,vs=[.pointer (some ⟨a,0,none⟩)]∧Sat w' (segP M.gap a ⟨ix,⟨base,fin,[]⟩⟩::lgQ lg M::r) :=
 zf73_calls _ base fin <| by
  unfold zf73
  obtain ⟨hok,hs⟩:=lgQ_open (hs.perm hf.perm)
  refine wp_nn ?_
  refine wp_ldO hs ?_
  refine wp_call (inew_c M.gap hok.gap hs) fun _ w' hs=>?_
  obtain ⟨ix,rfl,hs⟩:=hs
  refine ret_of ?_
  refine wp_lt ?_
  refine wp_call (head_c base fin hb hf' hs) fun _ w' hs=>?_
  obtain ⟨z,rfl,hs⟩:=hs
  refine ret_of ?_
  have hl:=hs.slen z (xs:=shL base fin) (enc:=encU)
  refine wp_boxO hs fun a w' hs=>?_
  refine ⟨rfl,a,ix,rfl,?_⟩
  have hs:Sat w' (pt a (.cells #[.pointer (some ⟨ix,0,none⟩),.int .i64 base,.int .i64 fin,.int .i64 (nextG []),.int .i64 (lateG (-1) []),.int .i64 ((SegA.file ⟨base,fin,[]⟩).length:Nat)] T.a29)::slc T.a34 1 z ((shL base fin).flatMap encU)::idxP ix ((SegA.mk base fin []).idx M.gap)::pt lg (.cells #[.pointer (some ⟨M.d,0,none⟩),.string M.pre,.int .i64 M.seg,.int .i64 M.gap,.slice M.z.a M.z.len M.z.cap] T.a28)::slc T.a17 1 M.z ((M.SM.map Prod.fst).flatMap encP)::HP.all (M.SM.map fun t=>segP M.gap t.1 t.2)::r):=by
   have e:(SegA.file ⟨base,fin,[]⟩).length=z.len:=by rw [file_len,hl];simp
   rw [e]
   exact hs
  have hs:=lgQ_close M hok (hs.pick [3,3,3])
  exact seg_close ⟨ix,⟨base,fin,[]⟩⟩ (hs.sub)
theorem take_c (b:BatM) (hv:validB b=0) [hf:Fo l (segP gap) a t r] [hb:FocR r b.x 4 (b.rs.flatMap encR)] (hlen:t.s.file.length+(frL b).length≤1000000000) (hs:Sat w l) :
  Ret P F.a75 #[.pointer (some ⟨a,0,none⟩),.agg (encB7 b).toArray,.int .i64 ((frL b).length:Nat)] w fun vs w'=>vs=[]∧Sat w' (segP gap a ⟨t.ix,t.s.add [b]⟩::r) :=
 zf83_calls _ b.base b.pid b.epoch b.seq b.kind b.time b.x _ <| by
  unfold zf83
  obtain ⟨h64,-⟩:=valid_recs hv
  obtain ⟨-,-,⟨-,hba,-⟩,-,-⟩:=span_le b hv
  have hs:=seg_open (hs.perm hf.perm)
  refine wp_boxO hs fun a0 w' hs=>?_
  refine wp_ldG hs ?_
  refine wp_call (latest_c b (by omega) hs) fun _ w' hs=>?_
  obtain ⟨rfl,hs⟩:=hs
  refine ret_of ?_
  refine wp_lt ?_
  refine wp_tk hs fun w' hs=>?_
  refine wp_nn ?_
  refine wp_ldO hs ?_
  refine wp_ldO hs ?_
  refine wp_nn ?_
  refine wp_ldO hs ?_
  refine wp_call (note_c (b:=t.ix) b.base ((t.s.file.length:Nat):Int) (lateB b) (by omega) (by omega) hs) fun _ w' hs=>?_
  obtain ⟨rfl,hs⟩:=hs
  refine ret_of ?_
  refine wp_untick ?_
  refine wp_ldG hs ?_
  refine wp_call (next_c_ b hs) fun _ w' hs=>?_
  obtain ⟨rfl,hs⟩:=hs
  refine ret_of ?_
  refine wp_nn ?_
  refine wp_stO hs fun w' hs=>?_
  refine wp_nn ?_
  refine wp_ldO hs ?_
  refine wp_nn ?_
  refine wp_stO hs fun w' hs=>?_
  refine wp_nn ?_
  refine wp_ldO hs ?_
  refine wp_nn ?_
  rw [w64 (by omega) (by omega)]
  refine wp_stO hs fun w' hs=>?_
  refine ⟨rfl,rfl,?_⟩
  have e1:nextB b=nextG (t.s.add [b]).bs:=by
   show _=nextG (t.s.bs++[b.p])
   rw [nextG_snoc]
   unfold nextB
   rw [if_neg (by rw [hv];simp)]
   rfl
  have e2:(if lateB b>lateG (-1) t.s.bs then lateB b else lateG (-1) t.s.bs)=lateG (-1) (t.s.add [b]).bs:=by
   show _=lateG (-1) (t.s.bs++[b.p])
   rw [lateG_snoc]
   show _=max _ (lateB b)
   split <;> omega
  have e3:((t.s.file.length:Nat):Int)+((frL b).length:Nat)=(((t.s.add [b]).file.length:Nat):Int):=by
   rw [file_add,List.length_append];simp
  rw [e1,e2,e3,← idx_add] at hs
  have hs:Sat w' (pt a (.cells #[.pointer (some ⟨t.ix,0,none⟩),.int .i64 (t.s.add [b]).base,.int .i64 (t.s.add [b]).fin,.int .i64 (nextG (t.s.add [b]).bs),.int .i64 (lateG (-1) (t.s.add [b]).bs),.int .i64 ((t.s.add [b]).file.length:Nat)] T.a29)::_):=hs
  refine seg_close ⟨t.ix,t.s.add [b]⟩ ?_
  exact hs.sub
theorem last_c [hf:Fo l lgQ lg M r] (hlen:M.SM.length≤1000000000) (hs:Sat w l):Ret P F.a60 #[.pointer (some ⟨lg,0,none⟩)] w fun vs w'=>vs=[.pointer (ptrO (M.SM.getLast?.map Prod.fst))]∧Sat w' (lgQ lg M::r) :=
 zf68_calls _ <| by
  unfold zf68
  obtain ⟨hok,hs⟩:=lgQ_open (hs.perm hf.perm)
  have hl:=hs.slen M.z (xs:=M.SM.map Prod.fst) (enc:=encP)
  rw [List.length_map] at hl
  refine wp_nn ?_
  refine wp_ldO hs ?_
  refine wp_if (fun h=>?_) fun h=>?_
  ·have:M.SM=[]:=List.length_eq_zero_iff.1 (by omega)
   rw [this]
   rw [this] at hs
   have hs:=lgQ_close M hok (by rw [this];exact hs)
   exact ⟨rfl,rfl,hs⟩
  have h0:0<M.SM.length:=by omega
  refine wp_tk hs fun w' hs=>?_
  refine wp_nn ?_
  refine wp_ldO hs ?_
  refine wp_nn ?_
  refine wp_ldO hs ?_
  rw [w64 (by omega) (by omega)]
  refine wp_ix1 hs (xs:=M.SM.map Prod.fst) (enc:=encP) (M.SM.length-1) (by rw [List.length_map];omega) ?_
  refine wp_untick ?_
  refine ⟨rfl,?_,lgQ_close M hok hs⟩
  have e:M.SM.getLast?.map Prod.fst=some ((M.SM.map Prod.fst)[M.SM.length-1]'(by rw [List.length_map];omega)):=by
   rw [List.getLast?_eq_getElem?,List.getElem?_eq_getElem (by omega)]
   simp
  rw [e]
  rfl
theorem seg_at {SM:List (Nat × SegM)} (hs:Sat w (HP.all (SM.map fun t=>segP gap t.1 t.2)::l)) {i:Nat} (hi:i<SM.length) :
  Sat w (segP gap SM[i].1 SM[i].2::HP.all ((SM.eraseIdx i).map fun t=>segP gap t.1 t.2)::l):=by
 exact ((hs.all_perm ((perm_eraseIdx hi).map _))).all_cons
theorem seg_back {SM:List (Nat × SegM)} {i:Nat} (hi:i<SM.length) (hs:Sat w (segP gap SM[i].1 SM[i].2::HP.all ((SM.eraseIdx i).map fun t=>segP gap t.1 t.2)::l)) :
  Sat w (HP.all (SM.map fun t=>segP gap t.1 t.2)::l):=by
 have h1:Sat w (HP.all ((SM[i]::SM.eraseIdx i).map fun t=>segP gap t.1 t.2)::l):=hs.all_put
 exact h1.all_perm ((perm_eraseIdx hi).symm.map _)
theorem first_c [hf:Fo l lgQ lg M r] (hs:Sat w l):Ret P F.a49 #[.pointer (some ⟨lg,0,none⟩)] w fun vs w'=>vs=[.int .i64 (firstG M.l)]∧Sat w' (lgQ lg M::r) :=
 zf57_calls _ <| by
  unfold zf57
  obtain ⟨hok,hs⟩:=lgQ_open (hs.perm hf.perm)
  have hl:=hs.slen M.z (xs:=M.SM.map Prod.fst) (enc:=encP)
  rw [List.length_map] at hl
  refine wp_nng ?_
  refine wp_ldO hs ?_
  refine wp_if (fun h=>?_) fun h=>?_
  ·have h:M.SM=[]:=by
    rcases h with h|h
    ·cases h
    ·exact List.length_eq_zero_iff.1 (by omega)
   have e:firstG M.l=0:=by unfold LogM.l;rw [h];rfl
   rw [e]
   exact ⟨rfl,rfl,lgQ_close M hok hs⟩
  have h0:0<M.SM.length:=by
   apply Nat.pos_of_ne_zero
   intro h1
   exact h (.inr (by omega))
  refine wp_nn ?_
  refine wp_ldO hs ?_
  refine wp_ix1c hs (xs:=M.SM.map Prod.fst) (enc:=encP) 0 (by rw [List.length_map];exact h0) ?_ rfl rfl
  have e0:(M.SM.map Prod.fst)[0]'(by rw [List.length_map];exact h0)=M.SM[0].1:=by simp
  rw [e0]
  refine wp_nn ?_
  have hs:=seg_open (seg_at (hs.pick [2]) h0)
  refine wp_ldO hs ?_
  refine wp_lt ?_
  have e:firstG M.l=M.SM[0].2.s.base:=by
   obtain ⟨x,xs,hx⟩:=List.exists_cons_of_length_pos h0
   simp only [LogM.l,hx,List.map_cons,firstG,List.getElem_cons_zero]
  rw [e]
  refine ⟨rfl,rfl,?_⟩
  have hs:=seg_back h0 (seg_close M.SM[0].2 hs)
  exact lgQ_close M hok (hs.pick [1,1])
theorem lnext_c [hf:Fo l lgQ lg M r] (hlen:M.SM.length≤1000000000) (hs:Sat w l):Ret P F.a50 #[.pointer (some ⟨lg,0,none⟩)] w fun vs w'=>vs=[.int .i64 (nextL M.l)]∧Sat w' (lgQ lg M::r) :=
 zf58_calls _ <| by
  unfold zf58
  obtain ⟨hok,hs⟩:=lgQ_open (hs.perm hf.perm)
  have hl:=hs.slen M.z (xs:=M.SM.map Prod.fst) (enc:=encP)
  rw [List.length_map] at hl
  refine wp_nng ?_
  refine wp_ldO hs ?_
  refine wp_if (fun h=>?_) fun h=>?_
  ·have h:M.SM=[]:=by
    rcases h with h|h
    ·cases h
    ·exact List.length_eq_zero_iff.1 (by omega)
   have e:nextL M.l=0:=by unfold LogM.l;rw [h];rfl
   rw [e]
   exact ⟨rfl,rfl,lgQ_close M hok hs⟩
  have h0:0<M.SM.length:=by
   apply Nat.pos_of_ne_zero
   intro h1
   exact h (.inr (by omega))
  have hs:=lgQ_close M hok hs
  refine wp_call (last_c (lg:=lg) hlen hs) fun _ w' hs=>?_
  obtain ⟨rfl,hs⟩:=hs
  refine ret_of ?_
  have e1:M.SM.getLast? = some (M.SM[M.SM.length-1]'(by omega)):=by
   rw [List.getLast?_eq_getElem?,List.getElem?_eq_getElem (by omega)]
  rw [e1]
  obtain ⟨-,hs⟩:=lgQ_open hs
  have hs:=seg_at (hs.pick [2]) (show M.SM.length-1<M.SM.length by omega)
  refine wp_call (reach_c (gap:=M.gap) (a:=M.SM[M.SM.length-1].1) hs) fun _ w' hs=>?_
  obtain ⟨rfl,hs⟩:=hs
  refine ret_of ?_
  refine wp_lt ?_
  have e:nextL M.l=(M.SM[M.SM.length-1]'(by omega)).2.s.reach:=by
   unfold LogM.l nextL
   rw [getLast_map,e1]
   rfl
  rw [e]
  have hs:=seg_back (show M.SM.length-1<M.SM.length by omega) hs
  exact ⟨rfl,rfl,lgQ_close M hok (hs.pick [1,1])⟩
def roomy (seg:Int) (l:List SegA) (n:Nat):Bool:=match l.getLast? with
 | none=>false
 | some s=>decide (nextG s.bs=0) || decide (((s.file.length+n:Nat):Int)≤seg)
theorem fits_l (n:Nat) (hn:n≤1000000000) [hf:Fo l lgQ lg M r] (hlen:M.SM.length≤1000000000) (hfl:∀ s ∈ M.l,s.file.length≤1000000000) (hs:Sat w l):Ret P F.a59 #[.pointer (some ⟨lg,0,none⟩),.int .i64 (n:Int)] w fun vs w'=>vs=[.bool (roomy M.seg M.l n)]∧Sat w' (lgQ lg M::r) :=
 zf67_calls _ _ <| by
  unfold zf67
  refine wp_call (last_c (lg:=lg) hlen hs) fun _ w' hs=>?_
  obtain ⟨rfl,hs⟩:=hs
  refine ret_of ?_
  refine wp_tk hs fun w' hs=>?_
  by_cases h0:M.SM=[]
  ·have e:roomy M.seg M.l n=false:=by unfold LogM.l roomy;rw [h0];rfl
   rw [e,h0]
   refine wp_gz ?_ (fun h=>by cases h)
   refine wp_gr (0:Int) (fun h=>by cases h) ?_
   refine wp_gz ?_ (fun h=>by cases h.1)
   refine wp_gr (0:Int) (fun h=>by cases h.1) ?_
   refine wp_gz ?_ (fun h=>by cases h.1)
   refine wp_gr (0:Int) (fun h=>by cases h.1) ?_
   refine wp_lt ?_
   refine wp_untick ?_
   exact ⟨rfl,rfl,hs⟩
  have hp:=List.length_pos_iff.2 h0
  have e1:M.SM.getLast? = some (M.SM[M.SM.length-1]'(by omega)):=by
   rw [List.getLast?_eq_getElem?,List.getElem?_eq_getElem (by omega)]
  have e:roomy M.seg M.l n=(decide (nextG (M.SM[M.SM.length-1]'(by omega)).2.s.bs=0) || decide ((((M.SM[M.SM.length-1]'(by omega)).2.s.file.length+n:Nat):Int)≤M.seg)):=by
   unfold LogM.l roomy
   rw [getLast_map,e1]
   rfl
  have hfl':=hfl _ (List.mem_map.2 ⟨_,List.getElem_mem (show M.SM.length-1<M.SM.length by omega),rfl⟩)
  rw [e,e1]
  obtain ⟨hok,hs⟩:=lgQ_open hs
  have hs:=seg_open (seg_at (hs.pick [2]) (show M.SM.length-1<M.SM.length by omega))
  refine wp_nng ?_
  refine wp_ldO hs ?_
  refine wp_nng ?_
  refine wp_ldO hs ?_
  refine wp_nng ?_
  refine wp_ldO hs ?_
  rw [w64 (by omega) (by omega)]
  refine wp_lt ?_
  refine wp_untick ?_
  have hs:=seg_back (show M.SM.length-1<M.SM.length by omega) (seg_close (M.SM[M.SM.length-1]'(by omega)).2 hs)
  refine ⟨rfl,?_,lgQ_close M hok (hs.pick [1,1])⟩
  rfl
theorem put_c (a:Nat) (t:SegM) {r0:List HP} [hf:Fo l lgQ lg M r0] [hf2:Fo r0 (segP M.gap) a t r] (hlen:M.SM.length≤1000000000) (hs:Sat w l) :
  Ret P F.a63 #[.pointer (some ⟨lg,0,none⟩),.pointer (some ⟨a,0,none⟩)] w fun vs w'=>∃ z:Sl,vs=[]∧Sat w' (lgQ lg { M with z:=z,SM:=M.SM++[(a,t)] }::r) :=
 zf71_calls _ _ <| by
  unfold zf71
  obtain ⟨hok,hs⟩:=lgQ_open (hs.perm (hf.perm.trans (.cons _ hf2.perm)))
  have hl:=hs.slen M.z (xs:=M.SM.map Prod.fst) (enc:=encP)
  refine wp_nn ?_
  refine wp_ldO hs ?_
  refine wp_ap0 (xs:=M.SM.map Prod.fst) (enc:=encP) (y:=a) hs (fun z w' hs=>?_) rfl (by rw [List.length_map];omega)
  refine wp_nn ?_
  refine wp_stO hs fun w' hs=>?_
  refine ⟨rfl,z,rfl,?_⟩
  have hs:Sat w' (pt lg (.cells #[.pointer (some ⟨M.d,0,none⟩),.string M.pre,.int .i64 M.seg,.int .i64 M.gap,.slice z.a z.len z.cap] T.a28)::slc T.a17 1 z ((M.SM.map Prod.fst++[a]).flatMap encP)::HP.all (M.SM.map fun t=>segP M.gap t.1 t.2)::segP M.gap a t::r):=hs
  have h1:Sat w' (HP.all (((a,t)::M.SM).map fun t=>segP M.gap t.1 t.2)::pt lg (.cells #[.pointer (some ⟨M.d,0,none⟩),.string M.pre,.int .i64 M.seg,.int .i64 M.gap,.slice z.a z.len z.cap] T.a28)::slc T.a17 1 z ((M.SM.map Prod.fst++[a]).flatMap encP)::r):=(hs.pick [3,2]).all_put
  have h2:=h1.all_perm ((List.perm_append_comm (l₁:=[(a,t)]) (l₂:=M.SM)).map fun t=>segP M.gap t.1 t.2)
  refine lgQ_close { M with z:=z,SM:=M.SM++[(a,t)] } hok ?_
  have e:(M.SM++[(a,t)]).map Prod.fst=M.SM.map Prod.fst++[a]:=by simp
  show Sat w' (pt lg _::slc T.a17 1 z (((M.SM++[(a,t)]).map Prod.fst).flatMap encP)::HP.all ((M.SM++[(a,t)]).map fun t=>segP M.gap t.1 t.2)::r)
  rw [e]
  exact h2.pick [1,1]
theorem segments_c [hf:Fo l lgQ lg M r] (hlen:M.SM.length≤1000000) (hs:Sat w l):Ret P F.a54 #[.pointer (some ⟨lg,0,none⟩)] w fun vs w'=>∃ z:Sl,vs=[z.v]∧Sat w' (slc T.a11 1 z ((M.l.map SegA.base).flatMap encI)::lgQ lg M::r) :=
 zf62_calls _ <| by
  unfold zf62
  obtain ⟨hok,hs⟩:=lgQ_open (hs.perm hf.perm)
  have hl:=hs.slen M.z (xs:=M.SM.map Prod.fst) (enc:=encP)
  rw [List.length_map] at hl
  have hll:M.l.length=M.SM.length:=List.length_map ..
  refine wp_ifF ?_ (by simp)
  refine wp_nn ?_
  refine wp_ldO hs ?_
  refine wp_mid (fun q w'=>∃ z:Sl,q=(z,())∧Sat w' (slc T.a11 1 z ((M.l.map SegA.base).flatMap encI)::lgQ lg M::r)) ?_ ?_
  rotate_left
  ·rintro _ w2 ⟨z,rfl,hs⟩
   exact ⟨rfl,z,rfl,hs⟩
  refine wp_loop (fun m v w=>∃ (i:Nat) (z:Sl),v=(z,((i:Int),()))∧i≤M.SM.length∧M.SM.length-i=m∧Sat w (slc T.a11 1 z (((M.l.take i).map SegA.base).flatMap encI)::pt lg (.cells #[.pointer (some ⟨M.d,0,none⟩),.string M.pre,.int .i64 M.seg,.int .i64 M.gap,.slice M.z.a M.z.len M.z.cap] T.a28)::slc T.a17 1 M.z ((M.SM.map Prod.fst).flatMap encP)::HP.all (M.SM.map fun t=>segP M.gap t.1 t.2)::r)) M.SM.length ⟨0,⟨none,0,0⟩,rfl,by omega,rfl,hs.slc_nil⟩ ?_
  clear hs
  rintro m _ w ⟨i,z,rfl,hi,hm,hs⟩
  refine wp_on ?_
  refine wp_if (fun hc=>?_) fun hc=>?_
  rotate_left
  ·refine wp_pass (wp_lv ⟨z,rfl,?_⟩)
   rw [List.take_of_length_le (by omega)] at hs
   exact (lgQ_close M hok (hs.pick [1,1,1])).pick [1]
  have hil:i<M.SM.length:=by omega
  refine wp_ix1 hs (xs:=M.SM.map Prod.fst) (enc:=encP) i (by rw [List.length_map];exact hil) ?_
  have e0:(M.SM.map Prod.fst)[i]'(by rw [List.length_map];exact hil)=M.SM[i].1:=by simp
  rw [e0]
  refine wp_nn ?_
  have hs:=seg_open (seg_at (hs.pick [3]) hil)
  refine wp_ldO hs ?_
  refine wp_ap0 (xs:=(M.l.take i).map SegA.base) (enc:=encI) (y:=M.SM[i].2.s.base) hs (fun z' w' hs=>?_) rfl (by rw [List.length_map,List.length_take];omega)
  rw [wS (i:=i) (by omega)]
  refine wp_lp (M.SM.length-(i+1)) ⟨i+1,z',rfl,by omega,rfl,?_⟩
  have e1:(M.l.take (i+1)).map SegA.base=(M.l.take i).map SegA.base++[M.SM[i].2.s.base]:=by
   rw [List.take_succ_eq_append_getElem (by omega),List.map_append]
   unfold LogM.l
   simp
  rw [e1]
  have hs:Sat w' (slc T.a11 1 z' (((M.l.take i).map SegA.base++[M.SM[i].2.s.base]).flatMap encI)::pt M.SM[i].1 _::idxP _ _::HP.all _::pt lg _::slc T.a17 1 M.z _::r):=hs
  have hs:=seg_back hil (seg_close M.SM[i].2 (hs.pick [1,1,1]))
  exact hs.pick [1,1,1]
end
theorem SegsOk.mem:∀ {n:Int} {l:List SegA},SegsOk n l→∀ s ∈ l,SegOk s∧n≤s.base
 | _,a::l,⟨h1,h2,h3⟩,s,hs=>by
  rcases List.mem_cons.1 hs with rfl|hs
  ·exact ⟨h2,h1⟩
  ·have:=h3.mem s hs
   exact ⟨this.1,by omega⟩
def lsyncA (pre:ByteArray) (l:List SegA) (D:DiskA):Int × DiskA:=match l.getLast? with
 | none=>(0,D)
 | some s=>syncA D [nameS pre s.base logX]
def BatM.to (b:BatM) (n:Int):BatM:=⟨n,b.pid,b.epoch,b.seq,b.kind,b.time,b.x,b.rs⟩
def placeL:Int→List BatM→Int × List BatM
 | _,[]=>(0,[])
 | n,b::bs=>if validB (b.to n)≠0 then (validB (b.to n),[]) else if (placeL (n+spanB b) bs).1≠0 then ((placeL (n+spanB b) bs).1,[]) else (0,b.to n::(placeL (n+spanB b) bs).2)
def frP (p:Sl × List UInt8):HP:=slc T.a34 1 p.1 (p.2.flatMap encU)
theorem placeL_ok:∀ {bs:List BatM} {n:Int},(placeL n bs).1=0→(placeL n bs).2.length=bs.length∧(∀ b ∈ (placeL n bs).2,validB b=0∧∃ c ∈ bs,b.x=c.x∧b.rs=c.rs)∧∀ b,(placeL n bs).2.head? = some b→b.base=n
 | [],n,_=>⟨rfl,(fun _ h=>by cases h),(fun _ h=>by cases h)⟩
 | b::bs,n,h=>by
  unfold placeL at h ⊢
  by_cases h1:validB (b.to n)≠0
  ·rw [if_pos h1] at h;exact absurd h h1
  rw [if_neg h1] at h ⊢
  by_cases h2:(placeL (n+spanB b) bs).1≠0
  ·rw [if_pos h2] at h;exact absurd h h2
  rw [if_neg h2]
  obtain ⟨i1,i2,-⟩:=placeL_ok (Decidable.not_not.1 h2)
  refine ⟨by simp [i1],fun c hc=>?_,fun c hc=>?_⟩
  ·rcases List.mem_cons.1 hc with rfl|hc
   ·exact ⟨Decidable.not_not.1 h1,b,List.mem_cons_self ..,rfl,rfl⟩
   ·obtain ⟨v,d,hd,e⟩:=i2 c hc
    exact ⟨v,d,List.mem_cons_of_mem _ hd,e⟩
  ·simp at hc;subst hc;rfl
theorem bat_sum:∀ {bs:List BatM},(∀ b ∈ bs,validB b=0)→(bs.flatMap frL).length≤bs.length*262152
 | [],_=>by simp
 | b::bs,h=>by
  have h1:=frL_len (h b (List.mem_cons_self ..))
  have h2:=batL_len (h b (List.mem_cons_self ..))
  have h3:=bat_sum fun x hx=>h x (List.mem_cons_of_mem _ hx)
  rw [List.flatMap_cons,List.length_append,List.length_cons]
  omega
section
variable {w:World} {l r:List HP} {lg:Nat} {M:LogM} {D:DiskA} {gap:Int} {a:Nat} {t:SegM}
theorem all_rd {fs:List (Sl × List UInt8)} {p:Sl × List UInt8} (hp:p ∈ fs) [hf:Foc l (HP.all (fs.map frP)) r]:FocR l p.1 1 (p.2.flatMap encU):=⟨fun w hs=>by
 obtain ⟨L,hs⟩:=(hs.perm hf.perm).all_mem hp
 exact Sat.rd hs⟩
theorem rdAll_of:∀ {fs gs:List (Sl × List UInt8)},(∀ p ∈ gs,FocR l p.1 1 (p.2.flatMap encU))→RdAll l (gs.map Prod.fst) (gs.map Prod.snd)
 | _,[],_=>trivial
 | fs,p::gs,h=>⟨(h p (List.mem_cons_self ..)).rd,rdAll_of (fs:=fs) fun q hq=>h q (List.mem_cons_of_mem _ hq)⟩
theorem lsync_c {r1:List HP} [hf:Fo l lgQ lg M r1] [hf2:Fo r1 dk M.d D r] (hlen:M.SM.length≤1000000000) (hok:SegsOk 0 M.l) (hs:Sat w l) :
  Ret P F.a55 #[.pointer (some ⟨lg,0,none⟩)] w fun vs w'=>vs=[.int .i64 (lsyncA M.pre M.l D).1]∧Sat w' (lgQ lg M::dk M.d (lsyncA M.pre M.l D).2::r) :=
 zf63_calls _ <| by
  unfold zf63
  have hs:=hs.perm (hf.perm.trans (.cons _ hf2.perm))
  refine wp_ifF ?_ (by simp)
  refine wp_call (last_c (lg:=lg) hlen hs) fun _ w' hs=>?_
  obtain ⟨rfl,hs⟩:=hs
  refine ret_of ?_
  by_cases h0:M.SM=[]
  ·have e:lsyncA M.pre M.l D=(0,D):=by unfold LogM.l lsyncA;rw [h0];rfl
   rw [e,h0]
   refine wp_ifF ?_ (by simp [ptrO])
   exact ⟨rfl,rfl,hs⟩
  have hp:=List.length_pos_iff.2 h0
  have hsz:M.SM.length-1<M.SM.length:=by omega
  have e1:M.SM.getLast? = some (M.SM[M.SM.length-1]'hsz):=by
   rw [List.getLast?_eq_getElem?,List.getElem?_eq_getElem (by omega)]
  have e:lsyncA M.pre M.l D=syncA D [nameS M.pre (M.SM[M.SM.length-1]'hsz).2.s.base logX]:=by
   unfold LogM.l lsyncA
   rw [getLast_map,e1]
   rfl
  have hmem:(M.SM[M.SM.length-1]'hsz).2.s ∈ M.l:=List.mem_map.2 ⟨_,List.getElem_mem hsz,rfl⟩
  have hbase:=(hok.mem _ hmem).1.base
  rw [e,e1]
  obtain ⟨hokm,hs⟩:=lgQ_open hs
  have hpre:M.pre.size≤100:=by
   have:=hokm.pre
   unfold preS at this
   rw [Bool.and_eq_true,decide_eq_true_eq] at this
   omega
  refine wp_ifT ?_ (by simp [ptrO])
  have hs:=seg_open (seg_at (hs.pick [2]) hsz)
  refine wp_mid (fun q w'=>q=((syncA D [nameS M.pre (M.SM[M.SM.length-1]'hsz).2.s.base logX]).1,())∧Sat w' (lgQ lg M::dk M.d (syncA D [nameS M.pre (M.SM[M.SM.length-1]'hsz).2.s.base logX]).2::r)) ?_ ?_
  rotate_left
  ·rintro _ w2 ⟨rfl,hs⟩
   exact ⟨rfl,rfl,hs⟩
  refine wp_tk hs fun w' hs=>?_
  refine wp_nn ?_
  refine wp_hdO hs ?_
  refine wp_nn ?_
  refine wp_ldO hs ?_
  refine wp_call (name_c0 (lg:=lg) _ (by omega) (ByteArray.mk #[46,108,111,103]) (by decide) M.pre hpre hs) fun _ w' hs=>?_
  obtain ⟨rfl,hs⟩:=hs
  refine ret_of ?_ (by first|trivial|(repeat (first|exact trivial|exact fun _=>run_ldO hs|exact fun _=>run_ldG hs|refine And.intro ?_ ?_)))
  refine wp_litS hs (enc:=encT) [nameS M.pre (M.SM[M.SM.length-1]'hsz).2.s.base logX] fun y w' hs=>⟨(by first|trivial|(repeat (first|exact trivial|exact fun _=>run_ldO hs|exact fun _=>run_ldG hs|refine And.intro ?_ ?_))),?_⟩
  refine wp_untick ?_
  refine wp_call (sync_c (d:=M.d) y [nameS M.pre (M.SM[M.SM.length-1]'hsz).2.s.base logX] (by show 1≤100000;omega) hs) fun _ w' hs=>?_
  obtain ⟨rfl,hs⟩:=hs
  refine ret_of ?_
  refine wp_lt ?_
  refine wp_untick ?_
  refine wp_lv ⟨rfl,?_⟩
  replace hs:Sat _ (segP M.gap _ _::_):=seg_close (M.SM[M.SM.length-1]'hsz).2 (hs.pick [2,2])
  have hs:=seg_back hsz (hs.pick [0,2])
  exact (lgQ_close M hokm (hs.pick [3,3])).sub
theorem placed_c (x:Sl) (bs:List BatM) [hf:Fo l lgQ lg M r] (hlen:M.SM.length≤1000000000) (hbl:bs.length≤100000) (hx:FocR r x 7 (bs.flatMap encB7)) (hbs:∀ b ∈ bs,FocR r b.x 4 (b.rs.flatMap encR)) (hs:Sat w l) :
  Ret P F.a62 #[.pointer (some ⟨lg,0,none⟩),x.v] w fun vs w' =>
   ((placeL (nextL M.l) bs).1≠0∧vs=[.slice none 0 0,.slice none 0 0,.int .i64 (placeL (nextL M.l) bs).1]∧Sat w' (lgQ lg M::r)) ∨
   ((placeL (nextL M.l) bs).1=0∧∃ (z1 z2:Sl) (fs:List (Sl × List UInt8)),vs=[z1.v,z2.v,.int .i64 0]∧fs.map Prod.snd=(placeL (nextL M.l) bs).2.map frL ∧
    Sat w' (slc T.a1 7 z1 ((placeL (nextL M.l) bs).2.flatMap encB7)::slc T.a26 1 z2 ((fs.map Prod.fst).flatMap encSl)::HP.all (fs.map frP)::lgQ lg M::r)) :=
 zf70_calls _ x <| by
  unfold zf70
  have hs:=hs.perm hf.perm
  have hl:=hs.slen x (xs:=bs) (enc:=encB7)
  refine wp_call (lnext_c (lg:=lg) hlen hs) fun _ w' hs=>?_
  obtain ⟨rfl,hs⟩:=hs
  refine ret_of ?_
  refine wp_lt ?_
  generalize nextL M.l=n0
  refine wp_mid (fun q w'=>∃ (z1 z2:Sl) (fs:List (Sl × List UInt8)),(placeL n0 bs).1=0∧q=(z1,z2,())∧fs.map Prod.snd=(placeL n0 bs).2.map frL ∧
    Sat w' (slc T.a1 7 z1 ((placeL n0 bs).2.flatMap encB7)::slc T.a26 1 z2 ((fs.map Prod.fst).flatMap encSl)::HP.all (fs.map frP)::lgQ lg M::r)) ?_ ?_
  rotate_left
  ·rintro _ w2 ⟨z1,z2,fs,h1,rfl,h2,hs⟩
   exact ⟨rfl,.inr ⟨h1,z1,z2,fs,rfl,h2,hs⟩⟩
  have h0:Sat w' (slc T.a1 7 ⟨none,0,0⟩ (([]:List BatM).flatMap encB7)::slc T.a26 1 ⟨none,0,0⟩ (((([]:List (Sl × List UInt8))).map Prod.fst).flatMap encSl)::HP.all ((([]:List (Sl × List UInt8))).map frP)::lgQ lg M::r):=(Sat.all_nil hs).slc_nil.slc_nil
  refine wp_loop (fun m v w=>∃ (i:Nat) (n:Int) (done:List BatM) (z1 z2:Sl) (fs:List (Sl × List UInt8)),v=(n,z1,z2,(i:Int),())∧i≤bs.length∧bs.length-i=m∧done.length=i∧fs.length=i ∧
   placeL n0 bs=(if (placeL n (bs.drop i)).1≠0 then ((placeL n (bs.drop i)).1,[]) else (0,done++(placeL n (bs.drop i)).2))∧fs.map Prod.snd=done.map frL ∧
   Sat w (slc T.a1 7 z1 (done.flatMap encB7)::slc T.a26 1 z2 ((fs.map Prod.fst).flatMap encSl)::HP.all (fs.map frP)::lgQ lg M::r)) bs.length
   ⟨0,n0,[],⟨none,0,0⟩,⟨none,0,0⟩,[],rfl,by omega,rfl,rfl,rfl,?_,rfl,h0⟩ ?_
  ·rw [List.drop_zero,List.nil_append]
   by_cases h:(placeL n0 bs).1≠0
   ·rw [if_pos h]
    have:∀ {bs:List BatM} {n:Int},(placeL n bs).1≠0→(placeL n bs).2=[]:=by
     intro bs
     induction bs with
     | nil=>intro n h;exact absurd rfl h
     | cons b bs ih =>
      intro n h
      unfold placeL at h ⊢
      split
      ·rfl
      ·split
       ·rfl
       ·rename_i h1 h2
        rw [if_neg h1,if_neg h2] at h
        exact absurd rfl h
    rw [← this h]
   ·rw [if_neg h]
    have h:=Decidable.not_not.1 h
    rw [← h]
  clear hs h0
  rintro m _ w ⟨i,n,done,z1,z2,fs,rfl,hi,hm,hdl,hfl,hpl,hfs,hs⟩
  refine wp_on ?_
  refine wp_if (fun hc=>?_) fun hc=>?_
  rotate_left
  ·have e:bs.drop i=[]:=List.drop_eq_nil_of_le (by omega)
   rw [e] at hpl
   simp only [placeL,List.append_nil] at hpl
   have hpl:placeL n0 bs=(0,done):=by rw [hpl];rfl
   refine wp_pass (wp_lv ⟨z1,z2,fs,by rw [hpl],rfl,by rw [hpl];exact hfs,?_⟩)
   rw [hpl]
   exact hs
  have hil:i<bs.length:=by omega
  have hdrop:bs.drop i=bs[i]::bs.drop (i+1):=List.drop_eq_getElem_cons hil
  rw [hdrop] at hpl
  have hR:=hbs bs[i] (List.getElem_mem hil)
  refine wp_ixA hs (xs:=bs) (enc:=encB7) i hil ?_
  refine wp_newO hs fun a w' hs=>?_
  refine wp_stG hs fun w' hs=>?_
  refine wp_stO hs fun w' hs=>?_
  refine wp_ldG hs ?_
  have hRt:FocR r (bs[i].to n).x 4 ((bs[i].to n).rs.flatMap encR):=hR
  refine wp_call (encode_c (bs[i].to n) hs) fun _ w' hs=>?_
  have hunf:placeL n (bs[i]::bs.drop (i+1))=if validB (bs[i].to n)≠0 then (validB (bs[i].to n),[]) else if (placeL (n+spanB bs[i]) (bs.drop (i+1))).1≠0 then ((placeL (n+spanB bs[i]) (bs.drop (i+1))).1,[]) else (0,bs[i].to n::(placeL (n+spanB bs[i]) (bs.drop (i+1))).2):=rfl
  rcases hs with ⟨hv,rfl,hs⟩|⟨hv,y,rfl,hs⟩
  ·refine ret_of ?_
   refine wp_lt ?_
   refine wp_ifT ?_ hv
   refine wp_lt ?_
   rw [if_pos hv] at hunf
   have hpl:placeL n0 bs=(validB (bs[i].to n),[]):=by rw [hpl,hunf,if_pos hv]
   refine wp_pass (wp_pass ⟨rfl,.inl ⟨by rw [hpl];exact hv,by rw [hpl],hs.sub⟩⟩)
  ·refine ret_of ?_
   refine wp_lt ?_
   refine wp_ifF ?_ (by simp)
   rw [if_neg (by rw [hv];simp)] at hunf
   have hbl2:=batL_len hv
   have hfrl:=frL_len hv
   refine wp_ldG hs ?_
   refine wp_ap0 (xs:=done) (enc:=encB7) (y:=bs[i].to n) hs (fun z1' w' hs=>?_) rfl (by omega)
   refine wp_litx hs (enc:=encSl) [y] fun y2 w' hs=>?_
   refine wp_call (fseal1_c y2 y (batL (bs[i].to n)) (by omega) hs) fun _ w' hs=>?_
   obtain ⟨y3,rfl,hs⟩:=hs
   refine ret_of ?_
   refine wp_ap0 (xs:=fs.map Prod.fst) (enc:=encSl) (y:=y3) hs (fun z2' w' hs=>?_) rfl (by rw [List.length_map];omega)
   refine wp_ldG hs ?_
   refine wp_call (next_c_ (bs[i].to n) hs) fun _ w' hs=>?_
   obtain ⟨rfl,hs⟩:=hs
   refine ret_of ?_
   refine wp_lt ?_
   rw [wS (i:=i) (by omega)]
   have en:nextB (bs[i].to n)=n+spanB bs[i]:=by
    unfold nextB
    rw [if_neg (by rw [hv];simp)]
    rfl
   rw [en]
   refine wp_lp (bs.length-(i+1)) ⟨i+1,n+spanB bs[i],done++[bs[i].to n],z1',z2',fs++[(y3,frL (bs[i].to n))],rfl,by omega,rfl,by simp [hdl],by simp [hfl],?_,by simp [hfs],?_⟩
   ·rw [hpl,hunf]
    by_cases h2:(placeL (n+spanB bs[i]) (bs.drop (i+1))).1≠0
    ·rw [if_pos h2,if_pos h2,if_pos h2]
    ·rw [if_neg h2,if_neg h2,if_neg (by simp),List.append_assoc]
     rfl
   ·have e2:(fs++[(y3,frL (bs[i].to n))]).map Prod.fst=fs.map Prod.fst++[y3]:=by simp
    rw [e2]
    have hs:Sat w' (slc T.a26 1 z2' ((fs.map Prod.fst++[y3]).flatMap encSl)::slc T.a34 1 y3 ((frL (bs[i].to n)).flatMap encU)::slc T.a26 1 y2 (([y]:List Sl).flatMap encSl)::slc T.a1 7 z1' ((done++[bs[i].to n]).flatMap encB7)::_):=hs
    have hs:Sat w' (frP (y3,frL (bs[i].to n))::HP.all (fs.map frP)::slc T.a1 7 z1' ((done++[bs[i].to n]).flatMap encB7)::slc T.a26 1 z2' ((fs.map Prod.fst++[y3]).flatMap encSl)::lgQ lg M::r):=by
     have h3:Sat w' (slc T.a34 1 y3 ((frL (bs[i].to n)).flatMap encU)::HP.all (fs.map frP)::slc T.a1 7 z1' ((done++[bs[i].to n]).flatMap encB7)::slc T.a26 1 z2' ((fs.map Prod.fst++[y3]).flatMap encSl)::lgQ lg M::r):=hs.sub
     exact h3
    have h4:Sat w' (HP.all (((y3,frL (bs[i].to n))::fs).map frP)::_):=hs.all_put
    have h5:=h4.all_perm ((List.perm_append_comm (l₁:=[(y3,frL (bs[i].to n))]) (l₂:=fs)).map frP)
    exact h5.pick [1,1]
end
def baseL (l:List SegA):Int:=match l.getLast? with
 | none=>0
 | some s=>s.base
def addLast (l:List SegA) (bs:List BatM):List SegA:=match l.getLast? with
 | none=>l
 | some s=>l.dropLast++[s.add bs]
def lappA (pre:ByteArray) (seg:Int) (l:List SegA) (D:DiskA) (bs:List BatM):(Int × Int) × List SegA × DiskA :=
 if bs=[] then ((0,3),l,D) else
 if (placeL (nextL l) bs).1≠0 then ((0,(placeL (nextL l) bs).1),l,D) else
 if roomy seg l ((placeL (nextL l) bs).2.flatMap frL).length then
  if (appendA D (nameS pre (baseL l) logX) ((placeL (nextL l) bs).2.flatMap frL)).1≠0 then ((0,(appendA D (nameS pre (baseL l) logX) ((placeL (nextL l) bs).2.flatMap frL)).1),l,(appendA D (nameS pre (baseL l) logX) ((placeL (nextL l) bs).2.flatMap frL)).2)
  else ((nextL l,0),addLast l (placeL (nextL l) bs).2,(appendA D (nameS pre (baseL l) logX) ((placeL (nextL l) bs).2.flatMap frL)).2)
 else
  if (lsyncA pre l D).1≠0 then ((0,(lsyncA pre l D).1),l,(lsyncA pre l D).2) else
  if (appendA (lsyncA pre l D).2 (nameS pre (nextL l) logX) (shL (nextL l) 0++(placeL (nextL l) bs).2.flatMap frL)).1≠0 then ((0,(appendA (lsyncA pre l D).2 (nameS pre (nextL l) logX) (shL (nextL l) 0++(placeL (nextL l) bs).2.flatMap frL)).1),l,(appendA (lsyncA pre l D).2 (nameS pre (nextL l) logX) (shL (nextL l) 0++(placeL (nextL l) bs).2.flatMap frL)).2)
  else ((nextL l,0),l++[(⟨nextL l,0,[]⟩:SegA).add (placeL (nextL l) bs).2],(appendA (lsyncA pre l D).2 (nameS pre (nextL l) logX) (shL (nextL l) 0++(placeL (nextL l) bs).2.flatMap frL)).2)
def LogA.set (A:LogA) (l:List SegA):LogA:=⟨A.d,A.pre,A.seg,A.gap,l⟩
theorem SegsOk.next:∀ {n:Int} {l:List SegA},0≤n→SegsOk n l→0≤nextL l∧nextL l≤1099511627777
 | _,[],_,_=>⟨by decide,by decide⟩
 | n,[s],hn,⟨h1,h2,_⟩=>by
  have:=reach_le h2
  have:=h2.base
  show 0≤s.reach∧s.reach≤_
  omega
 | n,s::t::l,hn,⟨h1,h2,h3⟩=>by
  have:=h2.base
  have:=SegsOk.next (by omega) h3
  exact this
instance:EncF encB7 0 (.int .i64) (fun b=>b.base):=⟨fun _=>rfl⟩
section
variable {w:World} {l r:List HP} {lg:Nat} {M:LogM} {A:LogA} {D:DiskA} {gap:Int} {a:Nat} {t:SegM}
theorem lgQ_last_open {SM0:List (Nat × SegM)} (h:M.SM=SM0++[(a,t)]) (hs:Sat w (lgQ lg M::l)):okM M.gap M.seg M.pre ∧
  Sat w (segP M.gap a t::pt lg (.cells #[.pointer (some ⟨M.d,0,none⟩),.string M.pre,.int .i64 M.seg,.int .i64 M.gap,.slice M.z.a M.z.len M.z.cap] T.a28)::slc T.a17 1 M.z ((SM0.map Prod.fst++[a]).flatMap encP)::HP.all (SM0.map fun t=>segP M.gap t.1 t.2)::l):=by
 obtain ⟨hok,hs⟩:=lgQ_open hs
 rw [h] at hs
 have h1:=(hs.pick [2]).all_perm ((List.perm_append_comm (l₁:=SM0) (l₂:=[(a,t)])).map fun t=>segP M.gap t.1 t.2)
 have h2:Sat w (segP M.gap a t::HP.all (SM0.map fun t=>segP M.gap t.1 t.2)::_):=h1.all_cons
 rw [List.map_append] at h2
 exact ⟨hok,h2.pick [0,1,1]⟩
theorem lgQ_last_close (M:LogM) {SM0:List (Nat × SegM)} (hok:okM M.gap M.seg M.pre) (hs:Sat w (segP M.gap a t::pt lg (.cells #[.pointer (some ⟨M.d,0,none⟩),.string M.pre,.int .i64 M.seg,.int .i64 M.gap,.slice M.z.a M.z.len M.z.cap] T.a28)::slc T.a17 1 M.z ((SM0.map Prod.fst++[a]).flatMap encP)::HP.all (SM0.map fun t=>segP M.gap t.1 t.2)::l)) :
  Sat w (lgQ lg { M with SM:=SM0++[(a,t)] }::l):=by
 have h1:Sat w (HP.all (((a,t)::SM0).map fun t=>segP M.gap t.1 t.2)::_):=(hs.pick [0,2]).all_put
 have h2:=h1.all_perm ((List.perm_append_comm (l₁:=[(a,t)]) (l₂:=SM0)).map fun t=>segP M.gap t.1 t.2)
 refine lgQ_close { M with SM:=SM0++[(a,t)] } hok ?_
 show Sat w (pt lg _::slc T.a17 1 M.z (((SM0++[(a,t)]).map Prod.fst).flatMap encP)::HP.all ((SM0++[(a,t)]).map fun t=>segP M.gap t.1 t.2)::l)
 rw [List.map_append]
 exact h2.pick [1,1]
theorem snoc_of {α:Type} {l:List α} (h:l≠[]):∃ (l0:List α) (x:α),l=l0++[x]:=⟨l.dropLast,l.getLast h,(List.dropLast_concat_getLast h).symm⟩
theorem rdAll_fs {fs:List (Sl × List UInt8)} (h:∀ p ∈ fs,FocR l p.1 1 (p.2.flatMap encU)):RdAll l (fs.map Prod.fst) (fs.map Prod.snd):=rdAll_of (fs:=fs) h
theorem okM.size {g s:Int} {p:ByteArray} (h:okM g s p):p.size≤100:=by
 have:=h.pre
 unfold preS at this
 rw [Bool.and_eq_true,decide_eq_true_eq] at this
 omega
set_option maxHeartbeats 1000000 in
theorem lappend_c (x:Sl) (bs:List BatM) {r1:List HP} [hf:Fo l lgP lg A r1] [hf2:Fo r1 dk A.d D r] (hlen:A.l.length≤1000000) (hok:SegsOk 0 A.l) (hfl:∀ s ∈ A.l,s.file.length≤500000000) (hbl:bs.length≤900)
  (hx:FocR r x 7 (bs.flatMap encB7)) (hbs:∀ b ∈ bs,FocR r b.x 4 (b.rs.flatMap encR)) (hs:Sat w l) :
  Ret P F.a48 #[.pointer (some ⟨lg,0,none⟩),x.v] w fun vs w'=>vs=[.int .i64 (lappA A.pre A.seg A.l D bs).1.1,.int .i64 (lappA A.pre A.seg A.l D bs).1.2] ∧
   Sat w' (lgP lg (A.set (lappA A.pre A.seg A.l D bs).2.1)::dk A.d (lappA A.pre A.seg A.l D bs).2.2::r) :=
 zf56_calls _ x <| by
  unfold zf56
  have hs:=hs.perm (hf.perm.trans (.cons _ hf2.perm))
  clear hf hf2
  obtain ⟨M,rfl,hs⟩:=lgP_open hs
  have hlxs:=hs.slen x (xs:=bs) (enc:=encB7)
  have hMl:M.A.l=M.l:=rfl
  have hMpre:M.A.pre=M.pre:=rfl
  have hMseg:M.A.seg=M.seg:=rfl
  have hMd:M.A.d=M.d:=rfl
  rw [hMl] at hlen hok hfl ⊢
  rw [hMpre,hMseg,hMd]
  rw [hMd] at hs
  have hll:M.l.length=M.SM.length:=List.length_map ..
  have hnx:=hok.next (Int.le_refl 0)
  have hsame:∀ {w:World} {D':DiskA},Sat w (lgQ lg M::dk M.d D'::r)→Sat w (lgP lg (M.A.set M.l)::dk M.d D'::r):=fun hs=>lgP_close M hs
  unfold lappA
  refine wp_ifF ?_ (by simp)
  refine wp_if (fun h=>?_) fun h=>?_
  ·have:bs=[]:=List.length_eq_zero_iff.1 (by omega)
   rw [if_pos this]
   exact ⟨rfl,rfl,hsame hs⟩
  rw [if_neg (by rintro rfl;simp at hlxs;omega)]
  have hx':FocR (dk M.d D::r) x 7 (bs.flatMap encB7):=inferInstance
  refine wp_call (placed_c (lg:=lg) x bs (by omega) (by omega) inferInstance (fun b hb=>by have:=hbs b hb;infer_instance) hs) fun _ w' hs=>?_
  have hplo:=placeL_ok (bs:=bs) (n:=nextL M.l)
  rcases hs with ⟨he,rfl,hs⟩|⟨he,z1,z2,fs,rfl,hfs,hs⟩
  ·refine ret_of ?_
   refine wp_lt ?_
   refine wp_ifT ?_ he
   refine wp_lt ?_
   rw [if_pos he]
   exact ⟨rfl,rfl,hsame hs⟩
  refine ret_of ?_
  refine wp_lt ?_
  refine wp_ifF ?_ (by simp)
  rw [if_neg (by rw [he];simp)]
  obtain ⟨hp1,hp2,hp3⟩:=hplo he
  have hbl0:0<bs.length:=by
   apply Nat.pos_of_ne_zero
   intro h0
   rw [h0] at hlxs
   omega
  generalize hn0:nextL M.l=n0 at *
  generalize hPL:placeL n0 bs=PL at *
  obtain ⟨e0,q⟩:=PL
  have he:e0=0:=he
  subst he
  dsimp only at hp1 hp2 hp3 hfs hs ⊢
  have hsum:=bat_sum fun b hb=>(hp2 b hb).1
  have hfsl:fs.length=q.length:=by have:=congrArg List.length hfs;simpa using this
  have hfl1:=hs.slen z2 (xs:=fs.map Prod.fst) (enc:=encSl)
  rw [List.length_map] at hfl1
  have hfget:∀ (i:Nat) (h:i<fs.length),fs[i].2=frL (q[i]'(by omega)):=fun i h=>by
   have:=List.getElem_of_eq hfs (i:=i) (by rw [List.length_map];exact h)
   simpa using this
  have hfsum:∀ i,((q.take i).flatMap frL).length≤(q.flatMap frL).length:=fun i=>by
   have:(q.flatMap frL)=(q.take i).flatMap frL++(q.drop i).flatMap frL:=by rw [← List.flatMap_append,List.take_append_drop]
   rw [this,List.length_append];omega
  refine wp_mid (fun v w'=>v=(((q.flatMap frL).length:Int),())∧Sat w' (slc T.a1 7 z1 (q.flatMap encB7)::slc T.a26 1 z2 ((fs.map Prod.fst).flatMap encSl)::HP.all (fs.map frP)::lgQ lg M::dk M.d D::r)) ?_ ?_
  ·refine wp_loop (fun m v w=>∃ i:Nat,v=((((q.take i).flatMap frL).length:Int),((i:Int),()))∧i≤q.length∧q.length-i=m∧Sat w (slc T.a1 7 z1 (q.flatMap encB7)::slc T.a26 1 z2 ((fs.map Prod.fst).flatMap encSl)::HP.all (fs.map frP)::lgQ lg M::dk M.d D::r)) q.length ⟨0,rfl,by omega,rfl,hs⟩ ?_
   clear hs
   rintro m _ w ⟨i,rfl,hi,hm,hs⟩
   refine wp_on ?_
   refine wp_if (fun hc=>?_) fun hc=>?_
   rotate_left
   ·refine wp_pass (wp_lv ⟨?_,hs⟩)
    rw [List.take_of_length_le (by omega)]
   have hil:i<q.length:=by omega
   have hil2:i<fs.length:=by omega
   refine wp_ix1 hs (xs:=fs.map Prod.fst) (enc:=encSl) i (by rw [List.length_map];omega) ?_
   have e1:(fs.map Prod.fst)[i]'(by rw [List.length_map];omega)=fs[i].1:=by simp
   rw [e1]
   have hR:FocR (HP.all (fs.map frP)::lgQ lg M::dk M.d D::r) fs[i].1 1 (fs[i].2.flatMap encU):=all_rd (List.getElem_mem hil2)
   have hl2:=hs.slen fs[i].1 (xs:=fs[i].2) (enc:=encU)
   rw [hfget i hil2] at hl2
   have hfi:((q.take (i+1)).flatMap frL).length=((q.take i).flatMap frL).length+(frL q[i]).length:=by
    rw [List.take_succ_eq_append_getElem hil,List.flatMap_append,List.length_append];simp
   have:=hfsum (i+1)
   rw [hl2,w64 (by omega) (by omega)]
   refine wp_lt ?_
   rw [wS (i:=i) (by omega)]
   have ec:(((q.take i).flatMap frL).length:Int)+((frL q[i]).length:Nat)=(((q.take (i+1)).flatMap frL).length:Int):=by rw [hfi];omega
   rw [ec]
   exact wp_lp (q.length-(i+1)) ⟨i+1,rfl,by omega,rfl,hs⟩
  clear hs
  rintro _ w ⟨rfl,hs⟩
  refine wp_on ?_
  refine wp_call (last_c (lg:=lg) (by omega) hs) fun _ w' hs=>?_
  obtain ⟨rfl,hs⟩:=hs
  refine ret_of ?_
  refine wp_call (fits_l (lg:=lg) (q.flatMap frL).length (by omega) (by omega) (fun s hs'=>by have:=hfl s hs';omega) hs) fun _ w' hs=>?_
  obtain ⟨rfl,hs⟩:=hs
  refine ret_of ?_
  generalize hF:q.flatMap frL=Fr at *
  have hbsl:fs.map Prod.snd=q.map frL:=hfs
  have hflat:(fs.map Prod.snd).flatten=Fr:=by rw [hfs,← hF,List.flatMap]
  have hlbound:∀ p ∈ fs,p.2.length≤262152:=fun p hp=>by
   obtain ⟨i,hi,rfl⟩:=List.mem_iff_getElem.1 hp
   rw [hfget i hi]
   have:=frL_len (hp2 _ (List.getElem_mem (show i<q.length by omega))).1
   have:=batL_len (hp2 _ (List.getElem_mem (show i<q.length by omega))).1
   omega
  refine wp_mid (fun v w'=>∃ (M1:LogM) (SM0:List (Nat × SegM)) (a:Nat) (t:SegM) (D1:DiskA),v=(some ⟨a,0,none⟩,())∧M1.SM=SM0++[(a,t)]∧t.s.file.length≤600000000 ∧
    (if roomy M.seg M.l Fr.length then
     if (appendA D (nameS M.pre (baseL M.l) logX) Fr).1≠0 then ((0,(appendA D (nameS M.pre (baseL M.l) logX) Fr).1),M.l,(appendA D (nameS M.pre (baseL M.l) logX) Fr).2)
     else ((n0,(0:Int)),addLast M.l q,(appendA D (nameS M.pre (baseL M.l) logX) Fr).2)
    else
     if (lsyncA M.pre M.l D).1≠0 then ((0,(lsyncA M.pre M.l D).1),M.l,(lsyncA M.pre M.l D).2) else
     if (appendA (lsyncA M.pre M.l D).2 (nameS M.pre n0 logX) (shL n0 0++Fr)).1≠0 then ((0,(appendA (lsyncA M.pre M.l D).2 (nameS M.pre n0 logX) (shL n0 0++Fr)).1),M.l,(appendA (lsyncA M.pre M.l D).2 (nameS M.pre n0 logX) (shL n0 0++Fr)).2)
     else ((n0,0),M.l++[(⟨n0,0,[]⟩:SegA).add q],(appendA (lsyncA M.pre M.l D).2 (nameS M.pre n0 logX) (shL n0 0++Fr)).2))=((n0,0),(SM0.map fun t=>t.2.s)++[t.s.add q],D1) ∧
    (M1.d=M.d∧M1.pre=M.pre∧M1.seg=M.seg∧M1.gap=M.gap) ∧
    Sat w' (lgQ lg M1::dk M.d D1::slc T.a1 7 z1 (q.flatMap encB7)::slc T.a26 1 z2 ((fs.map Prod.fst).flatMap encSl)::HP.all (fs.map frP)::r)) ?_ ?_
  ·refine wp_if (fun hr=>?_) fun hr=>?_
   ·
    have hr:roomy M.seg M.l Fr.length=false:=by simpa using hr
    rw [if_neg (by rw [hr];simp)]
    have hs:Sat w' (lgQ lg M::slc T.a1 7 z1 (q.flatMap encB7)::slc T.a26 1 z2 ((fs.map Prod.fst).flatMap encSl)::HP.all (fs.map frP)::dk M.d D::r):=hs
    refine wp_call (lsync_c (lg:=lg) (D:=D) (by omega) hok hs) fun _ w' hs=>?_
    obtain ⟨rfl,hs⟩:=hs
    refine ret_of ?_
    refine wp_lt ?_
    refine wp_if (fun h2=>?_) fun h2=>?_
    ·refine wp_lt ?_
     rw [if_pos h2]
     refine wp_pass ⟨rfl,rfl,hsame hs.sub⟩
    rw [if_neg h2]
    generalize (lsyncA M.pre M.l D).2=D1 at *
    refine wp_call (lnext_c (lg:=lg) (by omega) hs) fun _ w' hs=>?_
    obtain ⟨rfl,hs⟩:=hs
    refine ret_of ?_
    rw [hn0]
    refine wp_call (newseg_c (lg:=lg) n0 0 (by omega) (by omega) hs) fun _ w' hs=>?_
    obtain ⟨a,ix,rfl,hs⟩:=hs
    refine ret_of ?_
    have hshl:=shL_len n0 0
    refine wp_mid (fun v w'=>v=((appendA D1 (nameS M.pre n0 logX) (shL n0 0++Fr)).1,())∧Sat w' (segP M.gap a ⟨ix,⟨n0,0,[]⟩⟩::lgQ lg M::dk M.d (appendA D1 (nameS M.pre n0 logX) (shL n0 0++Fr)).2::slc T.a1 7 z1 (q.flatMap encB7)::slc T.a26 1 z2 ((fs.map Prod.fst).flatMap encSl)::HP.all (fs.map frP)::r)) ?_ ?_
    ·obtain ⟨hokm,hs⟩:=lgQ_open (hs.pick [1])
     have hs:=seg_open (hs.pick [3])
     refine wp_tk hs fun w' hs=>?_
     refine wp_nn ?_
     refine wp_hdO hs ?_
     refine wp_nn ?_
     refine wp_ldO hs ?_
     refine wp_nn ?_
     refine wp_hdO hs ?_
     refine wp_call (name_c0 (lg:=lg) n0 (by omega) (ByteArray.mk #[46,108,111,103]) (by decide) M.pre hokm.size hs) fun _ w' hs=>?_
     obtain ⟨rfl,hs⟩:=hs
     refine ret_of ?_ (by first|trivial|(repeat (first|exact trivial|exact fun _=>run_ldO hs|exact fun _=>run_ldG hs|refine And.intro ?_ ?_)))
     refine wp_call (head_c n0 0 (by omega) (by omega) hs) fun _ w' hs=>?_
     obtain ⟨y,rfl,hs⟩:=hs
     refine ret_of ?_ (by first|trivial|(repeat (first|exact trivial|exact fun _=>run_ldO hs|exact fun _=>run_ldG hs|refine And.intro ?_ ?_)))
     refine wp_litS hs (enc:=encSl) [y] fun y2 w' hs=>⟨(by first|trivial|(repeat (first|exact trivial|exact fun _=>run_ldO hs|exact fun _=>run_ldG hs|refine And.intro ?_ ?_))),?_⟩
     refine wp_app2 (xs:=[y]) (ys:=fs.map Prod.fst) (enc:=encSl) hs (fun y3 w' hs=>⟨(by first|trivial|(repeat (first|exact trivial|exact fun _=>run_ldO hs|exact fun _=>run_ldG hs|refine And.intro ?_ ?_))),?_⟩) (by rw [List.length_map];simp only [List.length_cons,List.length_nil];omega)
     refine wp_untick ?_
     have hs:Sat w' (dk M.d D1::slc T.a26 1 y3 (([y]++fs.map Prod.fst).flatMap encSl)::slc T.a34 1 y ((shL n0 0).flatMap encU)::HP.all (fs.map frP)::pt a (.cells #[.pointer (some ⟨ix,0,none⟩),.int .i64 n0,.int .i64 0,.int .i64 (nextG []),.int .i64 (lateG (-1) []),.int .i64 ((SegA.file ⟨n0,0,[]⟩).length:Nat)] T.a29)::idxP ix ((SegA.mk n0 0 []).idx M.gap)::pt lg (.cells #[.pointer (some ⟨M.d,0,none⟩),.string M.pre,.int .i64 M.seg,.int .i64 M.gap,.slice M.z.a M.z.len M.z.cap] T.a28)::slc T.a17 1 M.z ((M.SM.map Prod.fst).flatMap encP)::HP.all (M.SM.map fun t=>segP M.gap t.1 t.2)::slc T.a1 7 z1 (q.flatMap encB7)::slc T.a26 1 z2 ((fs.map Prod.fst).flatMap encSl)::r):=hs.sub
     have hall:∀ p ∈ ((y,shL n0 0)::fs),FocR (slc T.a26 1 y3 (([y]++fs.map Prod.fst).flatMap encSl)::slc T.a34 1 y ((shL n0 0).flatMap encU)::HP.all (fs.map frP)::pt a (.cells #[.pointer (some ⟨ix,0,none⟩),.int .i64 n0,.int .i64 0,.int .i64 (nextG []),.int .i64 (lateG (-1) []),.int .i64 ((SegA.file ⟨n0,0,[]⟩).length:Nat)] T.a29)::idxP ix ((SegA.mk n0 0 []).idx M.gap)::pt lg (.cells #[.pointer (some ⟨M.d,0,none⟩),.string M.pre,.int .i64 M.seg,.int .i64 M.gap,.slice M.z.a M.z.len M.z.cap] T.a28)::slc T.a17 1 M.z ((M.SM.map Prod.fst).flatMap encP)::HP.all (M.SM.map fun t=>segP M.gap t.1 t.2)::slc T.a1 7 z1 (q.flatMap encB7)::slc T.a26 1 z2 ((fs.map Prod.fst).flatMap encSl)::r) p.1 1 (p.2.flatMap encU):=fun p hp=>by
      rcases List.mem_cons.1 hp with rfl|hp
      ·infer_instance
      ·have:FocR (HP.all (fs.map frP)::pt a (.cells #[.pointer (some ⟨ix,0,none⟩),.int .i64 n0,.int .i64 0,.int .i64 (nextG []),.int .i64 (lateG (-1) []),.int .i64 ((SegA.file ⟨n0,0,[]⟩).length:Nat)] T.a29)::idxP ix ((SegA.mk n0 0 []).idx M.gap)::pt lg (.cells #[.pointer (some ⟨M.d,0,none⟩),.string M.pre,.int .i64 M.seg,.int .i64 M.gap,.slice M.z.a M.z.len M.z.cap] T.a28)::slc T.a17 1 M.z ((M.SM.map Prod.fst).flatMap encP)::HP.all (M.SM.map fun t=>segP M.gap t.1 t.2)::slc T.a1 7 z1 (q.flatMap encB7)::slc T.a26 1 z2 ((fs.map Prod.fst).flatMap encSl)::r) p.1 1 (p.2.flatMap encU):=all_rd hp
       infer_instance
     have hpsF:FocR (slc T.a26 1 y3 (([y]++fs.map Prod.fst).flatMap encSl)::slc T.a34 1 y ((shL n0 0).flatMap encU)::HP.all (fs.map frP)::pt a (.cells #[.pointer (some ⟨ix,0,none⟩),.int .i64 n0,.int .i64 0,.int .i64 (nextG []),.int .i64 (lateG (-1) []),.int .i64 ((SegA.file ⟨n0,0,[]⟩).length:Nat)] T.a29)::idxP ix ((SegA.mk n0 0 []).idx M.gap)::pt lg (.cells #[.pointer (some ⟨M.d,0,none⟩),.string M.pre,.int .i64 M.seg,.int .i64 M.gap,.slice M.z.a M.z.len M.z.cap] T.a28)::slc T.a17 1 M.z ((M.SM.map Prod.fst).flatMap encP)::HP.all (M.SM.map fun t=>segP M.gap t.1 t.2)::slc T.a1 7 z1 (q.flatMap encB7)::slc T.a26 1 z2 ((fs.map Prod.fst).flatMap encSl)::r) y3 1 ((((y,shL n0 0)::fs).map Prod.fst).flatMap encL):=(inferInstance:FocR _ y3 1 (([y]++fs.map Prod.fst).flatMap encSl))
     refine wp_call (append_c (d:=M.d) (A:=D1) (nameS M.pre n0 (bl (ByteArray.mk #[46,108,111,103]))) y3 (((y,shL n0 0)::fs).map Prod.fst) (((y,shL n0 0)::fs).map Prod.snd) (hps:=hpsF) (rdAll_fs hall) (by simp only [List.length_map,List.length_cons];omega) (fun b hb=>?_) hs) fun _ w' hs=>?_
     ·obtain ⟨p,hp,rfl⟩:=List.mem_map.1 hb
      rcases List.mem_cons.1 hp with rfl|hp
      ·show (shL n0 0).length≤_;omega
      ·have:=hlbound p hp;omega
     obtain ⟨rfl,hs⟩:=hs
     refine ret_of ?_
     refine wp_lt ?_
     refine wp_untick ?_
     have e2:(((y,shL n0 0)::fs).map Prod.snd).flatten=shL n0 0++Fr:=by rw [List.map_cons,List.flatten_cons,hflat]
     rw [e2] at hs ⊢
     refine wp_lv ⟨rfl,?_⟩
     have hs:Sat w' (dk M.d (appendA D1 (nameS M.pre n0 logX) (shL n0 0++Fr)).2::slc T.a26 1 y3 _::slc T.a34 1 y _::HP.all (fs.map frP)::pt a _::idxP ix _::pt lg _::slc T.a17 1 M.z _::HP.all (M.SM.map fun t=>segP M.gap t.1 t.2)::slc T.a1 7 z1 (q.flatMap encB7)::slc T.a26 1 z2 ((fs.map Prod.fst).flatMap encSl)::r):=hs
     have hs:=lgQ_close M hokm (hs.pick [6,6,6])
     have hs:Sat w' (segP M.gap a ⟨ix,⟨n0,0,[]⟩⟩::lgQ lg M::dk M.d _::slc T.a26 1 y3 _::slc T.a34 1 y _::HP.all (fs.map frP)::slc T.a1 7 z1 (q.flatMap encB7)::slc T.a26 1 z2 ((fs.map Prod.fst).flatMap encSl)::r):=seg_close ⟨ix,⟨n0,0,[]⟩⟩ (hs.pick [5,5])
     exact hs.sub
    rintro _ w2 ⟨rfl,hs⟩
    refine wp_if (fun h3=>?_) fun h3=>?_
    ·refine wp_lt ?_
     rw [if_pos h3]
     refine wp_pass ⟨rfl,rfl,hsame hs.sub⟩
    rw [if_neg h3]
    have hs:=hs.pick [1]
    refine wp_call (put_c (lg:=lg) a ⟨ix,⟨n0,0,[]⟩⟩ (by omega) hs) fun _ w' hs=>?_
    obtain ⟨z,rfl,hs⟩:=hs
    refine ret_of ?_
    refine wp_lv ⟨{ M with z:=z,SM:=M.SM++[(a,⟨ix,⟨n0,0,[]⟩⟩)] },M.SM,a,⟨ix,⟨n0,0,[]⟩⟩,(appendA D1 (nameS M.pre n0 logX) (shL n0 0++Fr)).2,rfl,rfl,?_,rfl,⟨rfl,rfl,rfl,rfl⟩,hs⟩
    rw [file_len]
    simp only [List.flatMap_nil,List.length_nil]
    omega
   ·
    have hr:roomy M.seg M.l Fr.length=true:=by simpa using hr
    rw [if_pos hr]
    have h0:M.SM≠[]:=by
     intro h0
     have:M.l=[]:=by unfold LogM.l;rw [h0];rfl
     rw [this] at hr
     cases hr
    obtain ⟨SM0,⟨a,t⟩,hSM⟩:=snoc_of h0
    have hl1:M.l=SM0.map (fun t=>t.2.s)++[t.s]:=by unfold LogM.l;rw [hSM];simp
    have hbase:baseL M.l=t.s.base:=by unfold baseL;rw [hl1,getLast_snoc]
    have hadd:addLast M.l q=SM0.map (fun t=>t.2.s)++[t.s.add q]:=by unfold addLast;rw [hl1,getLast_snoc];simp
    have hlst:M.SM.getLast? = some (a,t):=by rw [hSM,getLast_snoc]
    rw [hlst]
    have htm:t.s ∈ M.l:=by rw [hl1];simp
    have htb:=(hok.mem _ htm).1.base
    have htf:=hfl _ htm
    refine wp_mid (fun v w'=>v=((appendA D (nameS M.pre (baseL M.l) logX) Fr).1,())∧Sat w' (lgQ lg M::dk M.d (appendA D (nameS M.pre (baseL M.l) logX) Fr).2::slc T.a1 7 z1 (q.flatMap encB7)::slc T.a26 1 z2 ((fs.map Prod.fst).flatMap encSl)::HP.all (fs.map frP)::r)) ?_ ?_
    ·obtain ⟨hokm,hs⟩:=lgQ_last_open hSM hs
     have hs:=seg_open hs
     refine wp_tk hs fun w' hs=>?_
     refine wp_nn ?_
     refine wp_hdO hs ?_
     refine wp_nn ?_
     refine wp_ldO hs ?_
     refine wp_call (name_c0 (lg:=lg) t.s.base (by omega) (ByteArray.mk #[46,108,111,103]) (by decide) M.pre hokm.size hs) fun _ w' hs=>?_
     obtain ⟨rfl,hs⟩:=hs
     refine ret_of ?_ (by first|trivial|(repeat (first|exact trivial|exact fun _=>run_ldO hs|exact fun _=>run_ldG hs|refine And.intro ?_ ?_)))
     refine wp_untick ?_
     have hs:=hs.pick [8]
     have hall:∀ p ∈ fs,FocR (pt a (.cells #[.pointer (some ⟨t.ix,0,none⟩),.int .i64 t.s.base,.int .i64 t.s.fin,.int .i64 (nextG t.s.bs),.int .i64 (lateG (-1) t.s.bs),.int .i64 (t.s.file.length:Nat)] T.a29)::idxP t.ix (t.s.idx M.gap)::pt lg (.cells #[.pointer (some ⟨M.d,0,none⟩),.string M.pre,.int .i64 M.seg,.int .i64 M.gap,.slice M.z.a M.z.len M.z.cap] T.a28)::slc T.a17 1 M.z ((SM0.map Prod.fst++[a]).flatMap encP)::HP.all (SM0.map fun t=>segP M.gap t.1 t.2)::slc T.a1 7 z1 (q.flatMap encB7)::slc T.a26 1 z2 ((fs.map Prod.fst).flatMap encSl)::HP.all (fs.map frP)::r) p.1 1 (p.2.flatMap encU):=fun p hp=>by
      have:FocR (HP.all (fs.map frP)::r) p.1 1 (p.2.flatMap encU):=all_rd hp
      infer_instance
     have hpsF:FocR (pt a (.cells #[.pointer (some ⟨t.ix,0,none⟩),.int .i64 t.s.base,.int .i64 t.s.fin,.int .i64 (nextG t.s.bs),.int .i64 (lateG (-1) t.s.bs),.int .i64 (t.s.file.length:Nat)] T.a29)::idxP t.ix (t.s.idx M.gap)::pt lg (.cells #[.pointer (some ⟨M.d,0,none⟩),.string M.pre,.int .i64 M.seg,.int .i64 M.gap,.slice M.z.a M.z.len M.z.cap] T.a28)::slc T.a17 1 M.z ((SM0.map Prod.fst++[a]).flatMap encP)::HP.all (SM0.map fun t=>segP M.gap t.1 t.2)::slc T.a1 7 z1 (q.flatMap encB7)::slc T.a26 1 z2 ((fs.map Prod.fst).flatMap encSl)::HP.all (fs.map frP)::r) z2 1 ((fs.map Prod.fst).flatMap encL):=(inferInstance:FocR _ z2 1 ((fs.map Prod.fst).flatMap encSl))
     refine wp_call (append_c (d:=M.d) (A:=D) (nameS M.pre t.s.base (bl (ByteArray.mk #[46,108,111,103]))) z2 (fs.map Prod.fst) (fs.map Prod.snd) (hps:=hpsF) (rdAll_fs hall) (by simp only [List.length_map];omega) (fun b hb=>?_) hs) fun _ w' hs=>?_
     ·obtain ⟨p,hp,rfl⟩:=List.mem_map.1 hb
      have:=hlbound p hp;omega
     obtain ⟨rfl,hs⟩:=hs
     refine ret_of ?_
     refine wp_lt ?_
     refine wp_untick ?_
     rw [hflat] at hs ⊢
     refine wp_lv ⟨by rw [hbase];rfl,?_⟩
     rw [hbase]
     have hs:Sat w' (dk M.d (appendA D (nameS M.pre t.s.base logX) Fr).2::pt a _::idxP t.ix _::pt lg _::slc T.a17 1 M.z _::HP.all (SM0.map fun t=>segP M.gap t.1 t.2)::slc T.a1 7 z1 (q.flatMap encB7)::slc T.a26 1 z2 ((fs.map Prod.fst).flatMap encSl)::HP.all (fs.map frP)::r):=hs
     have hs:=lgQ_last_close M hokm (seg_close t (hs.pick [1,1]) |>.pick [0,1,1,1])
     have e:{ M with SM:=SM0++[(a,t)] }=M:=by rw [← hSM]
     rw [e] at hs
     exact hs.sub
    rintro _ w2 ⟨rfl,hs⟩
    refine wp_if (fun h3=>?_) fun h3=>?_
    ·refine wp_lt ?_
     rw [if_pos h3]
     refine wp_pass ⟨rfl,rfl,hsame hs.sub⟩
    rw [if_neg h3]
    refine wp_lv ⟨M,SM0,a,t,(appendA D (nameS M.pre (baseL M.l) logX) Fr).2,rfl,hSM,by omega,by rw [hadd],⟨rfl,rfl,rfl,rfl⟩,hs⟩
  rintro _ w2 ⟨M1,SM0,a,t,D1,rfl,hSM,htl,hres,⟨hd1,hd2,hd3,hd4⟩,hs⟩
  clear hsame
  rw [hres]
  obtain ⟨hokm,hs⟩:=lgQ_last_open hSM hs
  have hF2:∀ i,((q.take i).flatMap frL).length≤Fr.length:=hfsum
  have hlq:=hs.slen z1 (xs:=q) (enc:=encB7)
  refine wp_mid (fun _ w'=>Sat w' (segP M1.gap a ⟨t.ix,t.s.add q⟩::pt lg (.cells #[.pointer (some ⟨M1.d,0,none⟩),.string M1.pre,.int .i64 M1.seg,.int .i64 M1.gap,.slice M1.z.a M1.z.len M1.z.cap] T.a28)::slc T.a17 1 M1.z ((SM0.map Prod.fst++[a]).flatMap encP)::HP.all (SM0.map fun t=>segP M1.gap t.1 t.2)::dk M.d D1::slc T.a1 7 z1 (q.flatMap encB7)::slc T.a26 1 z2 ((fs.map Prod.fst).flatMap encSl)::HP.all (fs.map frP)::r)) ?_ ?_
  ·refine wp_loop (fun m v w=>∃ i:Nat,v=((i:Int),())∧i≤q.length∧q.length-i=m∧Sat w (segP M1.gap a ⟨t.ix,t.s.add (q.take i)⟩::pt lg (.cells #[.pointer (some ⟨M1.d,0,none⟩),.string M1.pre,.int .i64 M1.seg,.int .i64 M1.gap,.slice M1.z.a M1.z.len M1.z.cap] T.a28)::slc T.a17 1 M1.z ((SM0.map Prod.fst++[a]).flatMap encP)::HP.all (SM0.map fun t=>segP M1.gap t.1 t.2)::dk M.d D1::slc T.a1 7 z1 (q.flatMap encB7)::slc T.a26 1 z2 ((fs.map Prod.fst).flatMap encSl)::HP.all (fs.map frP)::r)) q.length ⟨0,rfl,by omega,rfl,by rw [List.take_zero,add_nil];exact hs⟩ ?_
   clear hs
   rintro m _ w ⟨i,rfl,hi,hm,hs⟩
   refine wp_on ?_
   refine wp_if (fun hc=>?_) fun hc=>?_
   rotate_left
   ·refine wp_pass (wp_lv ?_)
    rwa [List.take_of_length_le (by omega)] at hs
   have hil:i<q.length:=by omega
   have hil2:i<fs.length:=by omega
   refine wp_ixA hs (xs:=q) (enc:=encB7) i hil ?_
   refine wp_newO hs fun c w' hs=>?_
   refine wp_lt ?_
   refine wp_stG hs fun w' hs=>?_
   refine wp_tk hs fun w' hs=>?_
   refine wp_ldG hs ?_
   refine wp_ix1 hs (xs:=fs.map Prod.fst) (enc:=encSl) i (by rw [List.length_map];omega) ?_
   have e1:(fs.map Prod.fst)[i]'(by rw [List.length_map];omega)=fs[i].1:=by simp
   rw [e1]
   have hR:FocR (HP.all (fs.map frP)::r) fs[i].1 1 (fs[i].2.flatMap encU):=all_rd (List.getElem_mem hil2)
   have hl2:=hs.slen fs[i].1 (xs:=fs[i].2) (enc:=encU)
   rw [hfget i hil2] at hl2
   rw [hl2]
   obtain ⟨hvq,c0,hc0,hcx,hcr⟩:=hp2 q[i] (List.getElem_mem hil)
   have hRb:FocR r q[i].x 4 (q[i].rs.flatMap encR):=by rw [hcx,hcr];exact hbs c0 hc0
   have hfi:((q.take (i+1)).flatMap frL).length=((q.take i).flatMap frL).length+(frL q[i]).length:=by
    rw [List.take_succ_eq_append_getElem hil,List.flatMap_append,List.length_append];simp
   have:=hF2 (i+1)
   refine wp_call (take_c (gap:=M1.gap) (a:=a) q[i] hvq (by show (t.s.add (q.take i)).file.length+_≤_;rw [file_add,List.length_append];omega) hs) fun _ w' hs=>?_
   obtain ⟨rfl,hs⟩:=hs
   refine ret_of ?_
   refine wp_untick ?_
   rw [wS (i:=i) (by omega)]
   refine wp_lp (q.length-(i+1)) ⟨i+1,rfl,by omega,rfl,?_⟩
   have e2:(t.s.add (q.take i)).add [q[i]]=t.s.add (q.take (i+1)):=by rw [add_add,List.take_succ_eq_append_getElem hil]
   have hs:Sat w' (segP M1.gap a ⟨t.ix,(t.s.add (q.take i)).add [q[i]]⟩::_):=hs
   rw [e2] at hs
   exact hs.sub
  clear hs
  rintro _ w3 hs
  refine wp_on ?_
  refine wp_ixF0 hs (xs:=q) (enc:=encB7) 0 (by omega) ?_
  refine wp_lt ?_
  have hq0:(q[0]'(by omega)).base=n0:=hp3 _ (by rw [List.head?_eq_getElem?,List.getElem?_eq_getElem])
  rw [hq0]
  refine ⟨rfl,rfl,?_⟩
  have hs:=lgP_close _ (lgQ_last_close M1 hokm hs)
  have eA:LogM.A { M1 with SM:=SM0++[(a,(⟨t.ix,t.s.add q⟩:SegM))] }=M.A.set ((SM0.map fun t=>t.2.s)++[t.s.add q]):=by
   unfold LogM.A LogM.l LogA.set
   simp only [List.map_append,List.map_cons,List.map_nil,hd1,hd2,hd3,hd4]
  rw [eA] at hs
  exact hs.sub
end
section
variable {w:World} {l r:List HP} {lg:Nat} {M:LogM} {A:LogA} {D:DiskA} {gap:Int} {a:Nat} {t:SegM}
theorem wp_exF {P:Program} {Q:Post} {S:World→Prop} {c:Addr→Prop} {f:Addr→Prog} (hc:c ⟨0,0,none⟩) (h:(f ⟨0,0,none⟩).wp P S w Q):(Prog.ex [.adr] (c1 c) (u1 f)).wp P S w Q:=⟨(⟨0,0,none⟩,()),hc,h⟩
theorem wp_ix1k {P:Program} {Q:Post} {S:World→Prop} {α:Type} {enc:α→List Value} {xs:List α} {sz m:Nat} {ii:Int} {x:Sl} {T:TypeId} {g g':Prop} {p:Pr} {dec:α→p.D} {f:p.D→Prog} (hs:Sat w l) [hf:FocR l x sz (xs.flatMap enc)] [hE:EncN enc sz] [hD:Enc1 enc p dec] [hT:One P T]
  (n:Nat) (hn:n<xs.length) (h:(f (dec xs[n])).wp P S w Q) (hm:m=n*sz:=by rfl) (hi:ii=n:=by rfl) :
  (Prog.ex [.adr] (c1 fun a=>g→(0:Int)≤ii∧ii<((x.len:Nat):Int)∧x.a=some a) (u1 fun a=>.read g' (ld T (Addr.add a m)) (.one (.one p)) (u1 f))).wp P S w Q:=by
 subst hm hi
 have hr:=hf.rd w hs
 have hl:x.len=xs.length:=hr.len hE.len hE.pos
 obtain ⟨a,ha,he⟩:=hr.el hE.len (by omega)
 refine ⟨(a,()),fun _=>⟨by omega,by omega,ha⟩,(dec xs[n],()),fun _=>?_,h⟩
 have:=he n hn
 rw [hD.ok] at this
 have h2:=At.ld1 (P:=P) (T:=T) this rfl
 cases p <;> exact h2
end
def posB (s:SegA) (k:Nat):Nat:=(shL s.base s.fin).length+((s.bs.take k).flatMap frL).length
def allB (l:List SegA):List BatM:=l.flatMap SegA.bs
def readA (l:List SegA) (off most:Int):Int × List BatM:=if most<1 then (2,[]) else if off<firstG l∨off>nextL l then (8,[]) else (0,((allB l).filterMap (fromB off)).take most.toNat)
def placeE (s:SegA) (o:Option EntA):Int:=match o with
 | none=>((shL s.base s.fin).length:Int)
 | some e=>e.place
theorem posB_zero (s:SegA):posB s 0=(shL s.base s.fin).length:=by simp [posB]
theorem posB_all (s:SegA):posB s s.bs.length=s.file.length:=by unfold posB;rw [List.take_length,file_len]
theorem posB_succ (s:SegA) {k:Nat} (hk:k<s.bs.length):posB s (k+1)=posB s k+(frL s.bs[k]).length:=by
 unfold posB
 rw [List.take_succ_eq_append_getElem hk,List.flatMap_append,List.length_append]
 simp
 omega
theorem posB_le (s:SegA) (k:Nat):posB s k≤s.file.length:=by
 unfold posB
 rw [file_len]
 have:(s.bs.flatMap frL)=(s.bs.take k).flatMap frL++(s.bs.drop k).flatMap frL:=by rw [← List.flatMap_append,List.take_append_drop]
 rw [this,List.length_append];omega
theorem drop_file (s:SegA) (k:Nat):s.file.drop (posB s k)=(s.bs.drop k).flatMap frL:=by
 have e:s.file=(shL s.base s.fin++(s.bs.take k).flatMap frL)++(s.bs.drop k).flatMap frL:=by
  unfold SegA.file
  rw [List.append_assoc,← List.flatMap_append,List.take_append_drop]
 rw [e]
 exact List.drop_left' (by rw [List.length_append];rfl)
theorem first_drop {s:SegA} (h:SegOk s) {k:Nat} (hk:k<s.bs.length):firstL (s.file.drop (posB s k))=some (batL s.bs[k],(frL s.bs[k]).length)∧decS (batL s.bs[k])=some s.bs[k]:=by
 obtain ⟨hv,hp⟩:=h.bs.valid s.bs[k] (List.getElem_mem hk)
 have hl:=batL_len hv
 have hf:=frL_len hv
 refine ⟨?_,by rw [decS_tell hv,hp]⟩
 rw [drop_file,List.drop_eq_getElem_cons hk,List.flatMap_cons,hf.2]
 exact first_seal hl.2 _
theorem BsOk.lt:∀ {n:Int} {bs:List BatM},BsOk n bs→∀ (j i:Nat) (hi:i<bs.length) (hj:j<i),n≤(bs[j]'(by omega)).base∧(bs[j]'(by omega)).base+spanB (bs[j]'(by omega))≤bs[i].base
 | n,b::bs,⟨h1,h2,h3,h4⟩,0,i+1,hi,hj=>by
  refine ⟨h3,?_⟩
  simp only [List.getElem_cons_zero,List.getElem_cons_succ]
  have hi:i<bs.length:=by simpa using hi
  obtain ⟨s1,-,-,-,-⟩:=span_le b h1
  cases i with
  | zero =>
   cases bs with
   | nil=>simp at hi
   | cons c cs=>exact h4.2.2.1
  | succ i =>
   have:=(h4.lt 0 (i+1) hi (by omega)).1
   have h5:=(h4.lt 0 (i+1) hi (by omega)).2
   obtain ⟨s2,-,-,-,-⟩:=span_le _ (h4.valid _ (List.getElem_mem (show 0<bs.length by omega))).1
   omega
 | n,b::bs,⟨h1,h2,h3,h4⟩,j+1,i+1,hi,hj=>by
  simp only [List.getElem_cons_succ]
  have hi:i<bs.length:=by simpa using hi
  have:=h4.lt j i hi (by omega)
  obtain ⟨s1,-,-,-,-⟩:=span_le b h1
  exact ⟨by omega,this.2⟩
theorem BsOk.le_next {n:Int} {bs:List BatM} (h:BsOk n bs) {b:BatM} (hb:b ∈ bs):b.base+spanB b≤nextG bs:=by
 obtain ⟨j,hj,rfl⟩:=List.mem_iff_getElem.1 hb
 have hne:bs≠[]:=by rintro rfl;simp at hj
 have e:nextG bs=(bs[bs.length-1]'(by omega)).base+spanB (bs[bs.length-1]'(by omega)):=by
  unfold nextG
  rw [List.getLast?_eq_getElem?,List.getElem?_eq_getElem (by omega)]
 rw [e]
 by_cases hjl:j=bs.length-1
 ·subst hjl;exact Int.le_refl _
 ·have:=(h.lt j (bs.length-1) (by omega) (by omega)).2
  obtain ⟨s1,-,-,-,-⟩:=span_le _ (h.valid _ (List.getElem_mem (show bs.length-1<bs.length by omega))).1
  omega
theorem fromB_none {off:Int} {b:BatM} (hv:validB b=0) (h:b.base+spanB b≤off):fromB off b=none:=by
 unfold fromB
 rw [if_pos (.inr (by unfold nextB;rw [if_neg (by rw [hv];simp)];exact h))]
theorem fromB_p {off:Int} {b c:BatM} (hp:b.p=b) (h:fromB off b=some c):c.p=c:=by
 have hx:b.x=noSl:=by rw [← hp];rfl
 unfold fromB at h
 split at h
 ·cases h
 ·split at h
  ·simp only [Option.some.injEq] at h;subst h;exact hp
  ·simp only [Option.some.injEq] at h;subst h;unfold partB BatM.p;simp only [hx];rfl
theorem filterMap_none {α β:Type} {f:α→Option β} {l:List α} (h:∀ x ∈ l,f x=none):l.filterMap f=[]:=by
 rw [List.filterMap_eq_nil_iff];exact h
theorem find_spec {s:SegA} (h:SegOk s) (hl:s.file.length≤4194304) (gap off:Int):∃ k,k≤s.bs.length∧placeE s (findE (s.idx gap).l off)=((posB s k:Nat):Int)∧∀ b ∈ s.bs.take k,b.base+spanB b≤off:=by
 have hi:=idx_ok gap s.bs.length (n:=s.base) (q:=(shL s.base s.fin).length) rfl h.base.1 (by omega) h.bs (by have:=file_len s;omega)
 cases hf:findE (s.idx gap).l off with
 | none=>exact ⟨0,Nat.zero_le _,by rw [posB_zero];rfl,by simp⟩
 | some e =>
  unfold findE at hf
  obtain ⟨a,c,hac,he,-⟩:=last_filter hf
  have he:e.offset≤off:=by simpa using he
  obtain ⟨i,hil,hie⟩:=hi.ent e (by show e ∈ (s.idx gap).l;rw [hac];simp)
  refine ⟨i,by omega,?_,fun b hb=>?_⟩
  ·show e.place=_
   rw [hie]
   unfold posB
   simp only
   omega
  ·obtain ⟨j,hj,rfl⟩:=List.mem_iff_getElem.1 hb
   rw [List.length_take] at hj
   rw [List.getElem_take]
   have:=(h.bs.lt j i hil (by omega)).2
   rw [hie] at he
   simp only at he
   omega
theorem SegsOk.skip:∀ {n:Int} {l:List SegA},SegsOk n l→∀ (i j:Nat) (hj:j<l.length) (hi:i<j),(l[i]'(by omega)).reach≤l[j].base∧(l[i]'(by omega)).base<l[j].base
 | n,s::l,⟨h1,h2,h3⟩,0,j+1,hj,_=>by
  have hj:j<l.length:=by simpa using hj
  have:=(h3.mem l[j] (List.getElem_mem hj)).2
  simp only [List.getElem_cons_zero,List.getElem_cons_succ]
  omega
 | n,s::l,⟨h1,h2,h3⟩,i+1,j+1,hj,hi=>by
  simp only [List.getElem_cons_succ]
  exact h3.skip i j (by simpa using hj) (by omega)
theorem skip_all {l:List SegA} (hok:SegsOk 0 l) {off:Int} {i:Nat} (hi:i<l.length) (hb:l[i].base≤off∨i=0):(allB l).filterMap (fromB off)=(allB (l.drop i)).filterMap (fromB off):=by
 have e:allB l=allB (l.take i)++allB (l.drop i):=by unfold allB;rw [← List.flatMap_append,List.take_append_drop]
 rw [e,List.filterMap_append,filterMap_none (l:=allB (l.take i)),List.nil_append]
 intro b hb'
 obtain ⟨s,hs,hbs⟩:=List.mem_flatMap.1 hb'
 obtain ⟨j,hj,rfl⟩:=List.mem_iff_getElem.1 hs
 rw [List.length_take] at hj
 rw [List.getElem_take] at hbs
 have h1:=(hok.skip j i hi (by omega)).1
 have hsg:=(hok.mem (l[j]'(by omega)) (List.getElem_mem _)).1
 have h2:=hsg.bs.le_next hbs
 have h3:=(reach_le hsg).2.2.1
 refine fromB_none (hsg.bs.valid b hbs).1 ?_
 rcases hb with hb|hb
 ·omega
 ·omega
theorem file_bs {s:SegA} (h:SegOk s):s.bs.length*10≤s.file.length:=by
 have:=flat_frL_len h.bs
 rw [file_len];omega
def filesL (pre:ByteArray):List ByteArray→DiskA→Int × List Int × DiskA
 | [],D=>(0,[],D)
 | n::ns,D=>if (baseN pre n newX).isSome=true∧(remA D n).1≠0 then ((remA D n).1,[],(remA D n).2) else
  ((filesL pre ns (if (baseN pre n newX).isSome then (remA D n).2 else D)).1,(match baseN pre n logX with|some b=>[(b:Int)]|none=>[])++(filesL pre ns (if (baseN pre n newX).isSome then (remA D n).2 else D)).2.1,(filesL pre ns (if (baseN pre n newX).isSome then (remA D n).2 else D)).2.2)
def dropL (pre:ByteArray):List Int→DiskA→Int × DiskA
 | [],D=>(0,D)
 | b::bs,D=>if (remA D (nameS pre b logX)).1≠0 then remA D (nameS pre b logX) else dropL pre bs (remA D (nameS pre b logX)).2
def scanA (pre:ByteArray) (l:List SegA) (D:DiskA) (base:Int):(Bool × Int) × List SegA × DiskA:=match fileD D.fs (nameS pre base logX) with
 | none=>((false,3),l,D)
 | some p=>match scanL base p.1 with
  | none=>((false,(remA D (nameS pre base logX)).1),l,(remA D (nameS pre base logX)).2)
  | some q=>if q.2=p.1.length then ((true,0),l++[q.1],D) else ((false,(cutA' D (nameS pre base logX) (q.2:Nat)).1),l++[q.1],(cutA' D (nameS pre base logX) (q.2:Nat)).2)
def openS (pre:ByteArray):List Int→List SegA→DiskA→Int × List SegA × DiskA
 | [],l,D=>(0,l,D)
 | b::bs,l,D=>if b<nextL l then (if (remA D (nameS pre b logX)).1≠0 then ((remA D (nameS pre b logX)).1,l,(remA D (nameS pre b logX)).2) else openS pre bs l (remA D (nameS pre b logX)).2) else
  if (scanA pre l D b).1.2≠0 then ((scanA pre l D b).1.2,(scanA pre l D b).2) else
  if (scanA pre l D b).1.1=true then openS pre bs (scanA pre l D b).2.1 (scanA pre l D b).2.2 else ((dropL pre bs (scanA pre l D b).2.2).1,(scanA pre l D b).2.1,(dropL pre bs (scanA pre l D b).2.2).2)
def lopenA (pre:ByteArray) (D:DiskA):Int × List SegA × DiskA :=
 if (filesL pre (namesF (dashN pre) D.fs) D).1≠0 then ((filesL pre (namesF (dashN pre) D.fs) D).1,[],(filesL pre (namesF (dashN pre) D.fs) D).2.2) else
  openS pre (filesL pre (namesF (dashN pre) D.fs) D).2.1 [] (filesL pre (namesF (dashN pre) D.fs) D).2.2
theorem dash_eq (pre:ByteArray):pre++ByteArray.mk #[45]=dashN pre:=by
 apply bl_ext
 rw [bl_dash]
 unfold bl
 simp
theorem baseN_lt {pre n:ByteArray} {x:List UInt8} {v:Nat} (h:baseN pre n x=some v):v<17592186044416:=by
 unfold baseN at h
 split at h
 ·have:=hexV_lt (k:=0) h (by omega)
  have h2:16 ^ (0+(((bl n).drop ((bl pre).length+1)).take 11).length)≤16 ^ 11:=Nat.pow_le_pow_right (by omega) (by rw [List.length_take];omega)
  omega
 ·cases h
theorem filesL_lt {pre:ByteArray}:∀ {ns:List ByteArray} {D:DiskA},∀ b ∈ (filesL pre ns D).2.1,0≤b∧b<17592186044416
 | [],D,b,h=>by cases h
 | n::ns,D,b,h=>by
  unfold filesL at h
  split at h
  ·cases h
  ·simp only at h
   rcases List.mem_append.1 h with h|h
   ·cases hb:baseN pre n logX with
    | none=>rw [hb] at h;cases h
    | some v =>
     rw [hb] at h
     simp only [List.mem_cons,List.not_mem_nil,or_false] at h
     have:=baseN_lt hb
     omega
   ·exact filesL_lt b h
theorem filesL_len {pre:ByteArray}:∀ {ns:List ByteArray} {D:DiskA},(filesL pre ns D).2.1.length≤ns.length
 | [],D=>Nat.le_refl _
 | n::ns,D=>by
  unfold filesL
  split
  ·exact Nat.zero_le _
  ·simp only [List.length_append,List.length_cons]
   have:=filesL_len (pre:=pre) (ns:=ns) (D:=if (baseN pre n newX).isSome then (remA D n).2 else D)
   split <;> simp <;> omega
section
variable {w:World} {l r:List HP} {lg:Nat} {M:LogM} {A:LogA} {D:DiskA} {gap:Int} {a:Nat} {t:SegM}
def lgR (M:LogM):HP:=HP.star (slc T.a17 1 M.z ((M.SM.map Prod.fst).flatMap encP)) (HP.all (M.SM.map fun t=>segP M.gap t.1 t.2))
theorem lgQ_cell (hs:Sat w (lgQ lg M::l)):okM M.gap M.seg M.pre∧Sat w (pt lg (.cells #[.pointer (some ⟨M.d,0,none⟩),.string M.pre,.int .i64 M.seg,.int .i64 M.gap,.slice M.z.a M.z.len M.z.cap] T.a28)::lgR M::l):=by
 obtain ⟨h,hs⟩:=hs.and
 exact ⟨h,hs.star⟩
theorem lgQ_uncell (M:LogM) (h:okM M.gap M.seg M.pre) (hs:Sat w (pt lg (.cells #[.pointer (some ⟨M.d,0,none⟩),.string M.pre,.int .i64 M.seg,.int .i64 M.gap,.slice M.z.a M.z.len M.z.cap] T.a28)::lgR M::l)):Sat w (lgQ lg M::l):=.and_mk h (.star_mk hs)
theorem files_c {r1:List HP} [hf:Fo l lgQ lg M r1] [hf2:Fo r1 dk M.d D r] (hs:Sat w l) :
  Ret P F.a58 #[.pointer (some ⟨lg,0,none⟩)] w fun vs w' =>
   ((filesL M.pre (namesF (dashN M.pre) D.fs) D).1≠0∧vs=[.slice none 0 0,.int .i64 (filesL M.pre (namesF (dashN M.pre) D.fs) D).1]∧Sat w' (lgQ lg M::dk M.d (filesL M.pre (namesF (dashN M.pre) D.fs) D).2.2::r)) ∨
   ((filesL M.pre (namesF (dashN M.pre) D.fs) D).1=0∧∃ z:Sl,vs=[z.v,.int .i64 0]∧Sat w' (slc T.a11 1 z ((filesL M.pre (namesF (dashN M.pre) D.fs) D).2.1.flatMap encI)::lgQ lg M::dk M.d (filesL M.pre (namesF (dashN M.pre) D.fs) D).2.2::r)) :=
 zf66_calls _ <| by
  unfold zf66
  have hs:=hs.perm (hf.perm.trans (.cons _ hf2.perm))
  clear hf hf2
  obtain ⟨hokm,hs⟩:=lgQ_cell hs
  have hsz:=hokm.size
  refine wp_tk hs fun w' hs=>?_
  refine wp_nn ?_
  refine wp_ldO hs ?_
  refine wp_nn ?_
  refine wp_ldO hs ?_
  refine wp_must (by omega) ?_
  rw [dash_eq]
  obtain ⟨m_,FS_,-,hokD,-⟩:=dk_open (hs.pick [2])
  have hok24:∀ n ∈ namesF (dashN M.pre) D.fs,n.size≤24:=fun n hn=>by
   unfold namesF at hn
   obtain ⟨f,hf,rfl⟩:=List.mem_map.1 (List.mem_filter.1 hn).1
   exact hokD.names f hf
  have hnl:(namesF (dashN M.pre) D.fs).length≤128:=by
   unfold namesF
   exact Nat.le_trans (List.length_filter_le _ _) (by rw [List.length_map];exact hokD.many)
  refine wp_call (names_c (d:=M.d) (A:=D) (dashN M.pre) hs) fun _ w' hs=>?_
  obtain ⟨x,rfl,hs⟩:=hs
  refine ret_of ?_
  refine wp_untick ?_
  generalize namesF (dashN M.pre) D.fs=ns at *
  have hl:=hs.slen x (xs:=ns) (enc:=encT)
  refine wp_mid (fun q w'=>∃ z:Sl,q=(z,())∧(filesL M.pre ns D).1=0∧Sat w' (slc T.a11 1 z ((filesL M.pre ns D).2.1.flatMap encI)::lgQ lg M::dk M.d (filesL M.pre ns D).2.2::r)) ?_ ?_
  rotate_left
  ·rintro _ w2 ⟨z,rfl,h1,hs⟩
   exact ⟨rfl,.inr ⟨h1,z,rfl,hs⟩⟩
  have hs:Sat w' (slc T.a11 1 ⟨none,0,0⟩ (([]:List Int).flatMap encI)::dk M.d D::pt lg (.cells #[.pointer (some ⟨M.d,0,none⟩),.string M.pre,.int .i64 M.seg,.int .i64 M.gap,.slice M.z.a M.z.len M.z.cap] T.a28)::lgR M::slc T.a31 1 x (ns.flatMap encT)::r):=by
   have h1:Sat w' (slc T.a11 1 ⟨none,0,0⟩ (([]:List Int).flatMap encI)::_):=hs.slc_nil
   exact h1.sub
  refine wp_loop (fun m v w=>∃ (i:Nat) (z:Sl) (done:List Int) (D':DiskA),v=(z,((i:Int),()))∧i≤ns.length∧ns.length-i=m∧done.length≤i ∧
   ((filesL M.pre ns D).1=(filesL M.pre (ns.drop i) D').1∧(filesL M.pre ns D).2.2=(filesL M.pre (ns.drop i) D').2.2∧((filesL M.pre (ns.drop i) D').1=0→(filesL M.pre ns D).2.1=done++(filesL M.pre (ns.drop i) D').2.1)) ∧
   Sat w (slc T.a11 1 z (done.flatMap encI)::dk M.d D'::pt lg (.cells #[.pointer (some ⟨M.d,0,none⟩),.string M.pre,.int .i64 M.seg,.int .i64 M.gap,.slice M.z.a M.z.len M.z.cap] T.a28)::lgR M::slc T.a31 1 x (ns.flatMap encT)::r)) ns.length
   ⟨0,⟨none,0,0⟩,[],D,rfl,by omega,rfl,by simp,⟨rfl,rfl,fun _=>rfl⟩,hs⟩ ?_
  clear hs
  rintro m _ w ⟨i,z,done,D',rfl,hi,hm,hdl,⟨hq1,hq2,hq3⟩,hs⟩
  refine wp_on ?_
  refine wp_if (fun hc=>?_) fun hc=>?_
  rotate_left
  ·have e:ns.drop i=[]:=List.drop_eq_nil_of_le (by omega)
   rw [e] at hq1 hq2 hq3
   have hq3:=hq3 rfl
   have e2:(filesL M.pre [] D').2.1=[]:=rfl
   rw [e2,List.append_nil] at hq3
   refine wp_pass (wp_lv ⟨z,rfl,hq1,?_⟩)
   have e3:(filesL M.pre [] D').2.2=D':=rfl
   rw [hq2,hq3,e3]
   have hs:=lgQ_uncell M hokm (hs.pick [2,2])
   exact hs.sub
  have hil:i<ns.length:=by omega
  have hdrop:ns.drop i=ns[i]::ns.drop (i+1):=List.drop_eq_getElem_cons hil
  rw [hdrop] at hq1 hq2 hq3
  have hn24:=hok24 ns[i] (List.getElem_mem hil)
  refine wp_ix1 hs (xs:=ns) (enc:=encT) i hil ?_
  refine wp_lt ?_
  refine wp_call (base_c0 (lg:=lg) ns[i] (ByteArray.mk #[46,108,111,103]) (by omega) (by decide) M.pre hsz hs) fun _ w' hs=>?_
  obtain ⟨rfl,hs⟩:=hs
  refine ret_of ?_
  refine wp_lt ?_
  refine wp_lt ?_
  have eb:baseN M.pre ns[i] (bl (ByteArray.mk #[46,108,111,103]))=baseN M.pre ns[i] logX:=rfl
  rw [eb]
  refine wp_mid (fun q w'=>∃ z':Sl,q=(z',())∧Sat w' (slc T.a11 1 z' ((done++(match baseN M.pre ns[i] logX with|some b=>[(b:Int)]|none=>[])).flatMap encI)::dk M.d D'::pt lg (.cells #[.pointer (some ⟨M.d,0,none⟩),.string M.pre,.int .i64 M.seg,.int .i64 M.gap,.slice M.z.a M.z.len M.z.cap] T.a28)::lgR M::slc T.a31 1 x (ns.flatMap encT)::r)) ?_ ?_
  ·cases hb:baseN M.pre ns[i] logX with
   | none =>
    refine wp_ifF ?_ (by simp)
    refine wp_lv ⟨z,rfl,?_⟩
    rw [List.append_nil]
    exact hs
   | some b =>
    refine wp_ifT ?_ (by rfl)
    refine wp_ap0 (xs:=done) (enc:=encI) (y:=(b:Int)) hs (fun z' w' hs=>?_) rfl (by omega)
    exact wp_lv ⟨z',rfl,hs⟩
  rintro _ w2 ⟨z',rfl,hs⟩
  have hdl2:(done++(match baseN M.pre ns[i] logX with|some b=>[(b:Int)]|none=>[])).length≤i+1:=by
   rw [List.length_append]
   split <;> simp <;> omega
  refine wp_call (base_c0 (lg:=lg) ns[i] (ByteArray.mk #[46,110,101,119]) (by omega) (by decide) M.pre hsz hs) fun _ w' hs=>?_
  obtain ⟨rfl,hs⟩:=hs
  refine ret_of ?_
  refine wp_lt ?_
  refine wp_lt ?_
  have eb2:baseN M.pre ns[i] (bl (ByteArray.mk #[46,110,101,119]))=baseN M.pre ns[i] newX:=rfl
  rw [eb2]
  have hun:filesL M.pre (ns[i]::ns.drop (i+1)) D'=if (baseN M.pre ns[i] newX).isSome=true∧(remA D' ns[i]).1≠0 then ((remA D' ns[i]).1,[],(remA D' ns[i]).2) else
   ((filesL M.pre (ns.drop (i+1)) (if (baseN M.pre ns[i] newX).isSome then (remA D' ns[i]).2 else D')).1,(match baseN M.pre ns[i] logX with|some b=>[(b:Int)]|none=>[])++(filesL M.pre (ns.drop (i+1)) (if (baseN M.pre ns[i] newX).isSome then (remA D' ns[i]).2 else D')).2.1,(filesL M.pre (ns.drop (i+1)) (if (baseN M.pre ns[i] newX).isSome then (remA D' ns[i]).2 else D')).2.2):=rfl
  refine wp_mid (fun q w'=>¬ ((baseN M.pre ns[i] newX).isSome=true∧(remA D' ns[i]).1≠0)∧Sat w' (slc T.a11 1 z' ((done++(match baseN M.pre ns[i] logX with|some b=>[(b:Int)]|none=>[])).flatMap encI)::dk M.d (if (baseN M.pre ns[i] newX).isSome then (remA D' ns[i]).2 else D')::pt lg (.cells #[.pointer (some ⟨M.d,0,none⟩),.string M.pre,.int .i64 M.seg,.int .i64 M.gap,.slice M.z.a M.z.len M.z.cap] T.a28)::lgR M::slc T.a31 1 x (ns.flatMap encT)::r)) ?_ ?_
  ·refine wp_if (fun h=>?_) fun h=>?_
   rotate_left
   ·refine wp_lv ⟨fun hh=>h hh.1,?_⟩
    rw [if_neg h]
    exact hs
   refine wp_nn ?_
   refine wp_ldO hs ?_
   refine wp_call (remove_c (d:=M.d) (A:=D') ns[i] hs) fun _ w' hs=>?_
   obtain ⟨rfl,hs⟩:=hs
   refine ret_of ?_
   refine wp_lt ?_
   refine wp_if (fun h2=>?_) fun h2=>?_
   ·refine wp_lt ?_
    rw [if_pos ⟨h,h2⟩] at hun
    rw [hun] at hq1 hq2
    have hs:=lgQ_uncell M hokm (hs.pick [2,2])
    refine wp_pass (wp_pass (wp_pass ⟨rfl,.inl ⟨by rw [hq1];exact h2,by rw [hq1],?_⟩⟩))
    rw [hq2]
    exact hs.sub
   ·refine wp_lv ⟨fun hh=>h2 hh.2,?_⟩
    rw [if_pos h]
    exact hs.sub
  rintro _ w3 ⟨hno,hs⟩
  rw [if_neg hno] at hun
  rw [hun] at hq1 hq2 hq3
  refine wp_on ?_
  rw [wS (i:=i) (by omega)]
  refine wp_lp (ns.length-(i+1)) ⟨i+1,z',done++(match baseN M.pre ns[i] logX with|some b=>[(b:Int)]|none=>[]),_,rfl,by omega,rfl,hdl2,⟨hq1,hq2,fun h=>?_⟩,hs⟩
  rw [hq3 h,List.append_assoc]
theorem drop_c6 (x:Sl) (bs:List Int) (hb:∀ b ∈ bs,0≤b∧b<17592186044416) {r1:List HP} [hf:Fo l lgQ lg M r1] [hf2:Fo r1 dk M.d D r] (hx:FocR r x 1 (bs.flatMap encI)) (hlen:bs.length≤1000000) (hs:Sat w l) :
  Ret P F.a57 #[.pointer (some ⟨lg,0,none⟩),x.v] w fun vs w'=>vs=[.int .i64 (dropL M.pre bs D).1]∧Sat w' (lgQ lg M::dk M.d (dropL M.pre bs D).2::r) :=
 zf65_calls _ x <| by
  unfold zf65
  have hs:=hs.perm (hf.perm.trans (.cons _ hf2.perm))
  clear hf hf2
  obtain ⟨hokm,hs⟩:=lgQ_cell hs
  have hsz:=hokm.size
  have hl:=hs.slen x (xs:=bs) (enc:=encI)
  refine wp_mid (fun _ w'=>(dropL M.pre bs D).1=0∧Sat w' (lgQ lg M::dk M.d (dropL M.pre bs D).2::r)) ?_ ?_
  rotate_left
  ·rintro _ w2 ⟨h1,hs⟩
   rw [h1]
   exact ⟨rfl,rfl,hs⟩
  refine wp_loop (fun m v w=>∃ (i:Nat) (D':DiskA),v=((i:Int),())∧i≤bs.length∧bs.length-i=m∧dropL M.pre bs D=dropL M.pre (bs.drop i) D' ∧
   Sat w (pt lg (.cells #[.pointer (some ⟨M.d,0,none⟩),.string M.pre,.int .i64 M.seg,.int .i64 M.gap,.slice M.z.a M.z.len M.z.cap] T.a28)::lgR M::dk M.d D'::r)) bs.length ⟨0,D,rfl,by omega,rfl,rfl,hs⟩ ?_
  clear hs
  rintro m _ w ⟨i,D',rfl,hi,hm,hq,hs⟩
  refine wp_on ?_
  refine wp_if (fun hc=>?_) fun hc=>?_
  rotate_left
  ·have e:bs.drop i=[]:=List.drop_eq_nil_of_le (by omega)
   rw [e] at hq
   refine wp_pass (wp_lv ⟨by rw [hq];rfl,?_⟩)
   rw [hq]
   exact lgQ_uncell M hokm hs
  have hil:i<bs.length:=by omega
  rw [List.drop_eq_getElem_cons hil] at hq
  have hbb:=hb bs[i] (List.getElem_mem hil)
  refine wp_ix1 hs (xs:=bs) (enc:=encI) i hil ?_
  refine wp_lt ?_
  have hun:dropL M.pre (bs[i]::bs.drop (i+1)) D'=if (remA D' (nameS M.pre bs[i] logX)).1≠0 then remA D' (nameS M.pre bs[i] logX) else dropL M.pre (bs.drop (i+1)) (remA D' (nameS M.pre bs[i] logX)).2:=rfl
  refine wp_mid (fun v w'=>v=((remA D' (nameS M.pre bs[i] logX)).1,())∧Sat w' (pt lg (.cells #[.pointer (some ⟨M.d,0,none⟩),.string M.pre,.int .i64 M.seg,.int .i64 M.gap,.slice M.z.a M.z.len M.z.cap] T.a28)::lgR M::dk M.d (remA D' (nameS M.pre bs[i] logX)).2::r)) ?_ ?_
  ·refine wp_tk hs fun w' hs=>?_
   refine wp_nn ?_
   refine wp_hdO hs ?_
   refine wp_call (name_c0 (lg:=lg) bs[i] hbb (ByteArray.mk #[46,108,111,103]) (by decide) M.pre hsz hs) fun _ w' hs=>?_
   obtain ⟨rfl,hs⟩:=hs
   refine ret_of ?_ (by first|trivial|(repeat (first|exact trivial|exact fun _=>run_ldO hs|exact fun _=>run_ldG hs|refine And.intro ?_ ?_)))
   refine wp_untick ?_
   refine wp_call (remove_c (d:=M.d) (A:=D') (nameS M.pre bs[i] (bl (ByteArray.mk #[46,108,111,103]))) hs) fun _ w' hs=>?_
   obtain ⟨rfl,hs⟩:=hs
   refine ret_of ?_
   refine wp_lt ?_
   refine wp_untick ?_
   have hs:Sat w' (dk M.d (remA D' (nameS M.pre bs[i] logX)).2::_):=hs
   exact wp_lv ⟨rfl,hs.sub⟩
  rintro _ w2 ⟨rfl,hs⟩
  refine wp_if (fun h=>?_) fun h=>?_
  ·refine wp_lt ?_
   rw [if_pos h] at hun
   rw [hun] at hq
   rw [hq]
   exact wp_pass (wp_pass ⟨rfl,rfl,lgQ_uncell M hokm hs⟩)
  ·rw [if_neg h] at hun
   rw [hun] at hq
   rw [wS (i:=i) (by omega)]
   exact wp_lp (bs.length-(i+1)) ⟨i+1,_,rfl,by omega,rfl,hq,hs⟩
end
theorem takeF_succ (k:Nat) (n:Int) (raw:List UInt8):takeF (k+1) n raw=match firstL raw with
  | none=>([],0)
  | some (body,m)=>match decS body with
   | none=>([],0)
   | some b=>if b.base<n then ([],0) else (b::(takeF k (b.base+spanB b) (raw.drop m)).1,m+(takeF k (b.base+spanB b) (raw.drop m)).2):=rfl
theorem used_file {fs:List FileA} {n:ByteArray} {p:List UInt8 × Nat} (h:fileD fs n=some p):p.1.length≤used fs:=used_mem (fileD_some h)
section
variable {w:World} {l r:List HP} {lg:Nat} {M:LogM} {A:LogA} {D:DiskA} {gap:Int} {a:Nat} {t:SegM}
theorem take_raw (b:BatM) (z:Sl) (hv:validB b=0) (hp:b.p=b) [hf:Fo l (segP gap) a t r] [hb:FocR r z 4 (b.rs.flatMap encR)] (hlen:t.s.file.length+(frL b).length≤1000000000) (hs:Sat w l) :
  Ret P F.a75 #[.pointer (some ⟨a,0,none⟩),.agg (encB7 (b.at z)).toArray,.int .i64 ((frL b).length:Nat)] w fun vs w'=>vs=[]∧Sat w' (segP gap a ⟨t.ix,t.s.add [b]⟩::r):=by
 have hb':FocR r (b.at z).x 4 ((b.at z).rs.flatMap encR):=hb
 have h:=take_c (gap:=gap) (a:=a) (b.at z) hv hlen hs
 have e:t.s.add [b.at z]=t.s.add [b]:=by
  unfold SegA.add
  have:(b.at z).p=b.p:=rfl
  simp only [List.map_cons,List.map_nil,this]
 rw [e] at h
 exact h
set_option maxHeartbeats 1000000 in
theorem scan_c (base:Int) (hb:0≤base∧base<17592186044416) {r1:List HP} [hf:Fo l lgQ lg M r1] [hf2:Fo r1 dk M.d D r] (hlen:M.SM.length≤1000000) (hs:Sat w l) :
  Ret P F.a64 #[.pointer (some ⟨lg,0,none⟩),.int .i64 base] w fun vs w'=>vs=[.bool (scanA M.pre M.l D base).1.1,.int .i64 (scanA M.pre M.l D base).1.2] ∧
   ∃ M':LogM,(M'.d=M.d∧M'.pre=M.pre∧M'.seg=M.seg∧M'.gap=M.gap)∧M'.l=(scanA M.pre M.l D base).2.1∧M'.SM.length≤M.SM.length+1∧Sat w' (lgQ lg M'::dk M.d (scanA M.pre M.l D base).2.2::r) :=
 zf72_calls _ base <| by
  unfold zf72
  have hs:=hs.perm (hf.perm.trans (.cons _ hf2.perm))
  clear hf hf2
  obtain ⟨hokm,hs⟩:=lgQ_cell hs
  have hsz:=hokm.size
  obtain ⟨m_,FS_,-,hokD,-⟩:=dk_open (hs.pick [2])
  refine wp_call (name_c0 (lg:=lg) base hb (ByteArray.mk #[46,108,111,103]) (by decide) M.pre hsz hs) fun _ w' hs=>?_
  obtain ⟨rfl,hs⟩:=hs
  refine ret_of ?_
  have en:nameS M.pre base (bl (ByteArray.mk #[46,108,111,103]))=nameS M.pre base logX:=rfl
  rw [en]
  generalize hnm:nameS M.pre base logX=nm at *
  refine wp_lt ?_
  refine wp_nn ?_
  refine wp_ldO hs ?_
  have hsame:∀ {w:World} {D':DiskA},Sat w (pt lg (.cells #[.pointer (some ⟨M.d,0,none⟩),.string M.pre,.int .i64 M.seg,.int .i64 M.gap,.slice M.z.a M.z.len M.z.cap] T.a28)::lgR M::dk M.d D'::r)→∃ M':LogM,(M'.d=M.d∧M'.pre=M.pre∧M'.seg=M.seg∧M'.gap=M.gap)∧M'.l=M.l∧M'.SM.length≤M.SM.length+1∧Sat w (lgQ lg M'::dk M.d D'::r):=fun hs=>⟨M,⟨rfl,rfl,rfl,rfl⟩,rfl,by omega,lgQ_uncell M hokm hs⟩
  unfold scanA
  rw [hnm]
  refine wp_call (read_c (d:=M.d) (A:=D) nm hs) fun _ w' hs=>?_
  rcases hs with ⟨f,hff,hfn,x,rfl,hs⟩|⟨hno,rfl,hs⟩
  rotate_left
  ·refine ret_of ?_
   refine wp_lt ?_
   refine wp_ifT ?_ (by decide)
   refine wp_lt ?_
   rw [fileD_none.2 hno]
   exact ⟨rfl,rfl,hsame hs.sub⟩
  refine ret_of ?_
  refine wp_lt ?_
  refine wp_ifF ?_ (by simp)
  have hfd:fileD D.fs nm=some (f.b,f.kept):=by rw [← hfn];exact fileD_mem (names_nodup hokD.sorted) hff
  have hrl:f.b.length≤4194304:=Nat.le_trans (used_mem hff) hokD.used
  rw [hfd]
  simp only
  generalize f.b=raw at *
  have hl:=hs.slen x (xs:=raw) (enc:=encU)
  have hcap:=hs.slc_cap
  refine wp_call (ffirst_c x raw hcap (by omega) hs) fun _ w' hs=>?_
  obtain ⟨y,rfl,hs⟩:=hs
  refine ret_of ?_
  refine wp_lt ?_
  refine wp_lt ?_
  refine wp_mid (fun q w'=>∃ v:Int,q=(v,(scanL base raw).isSome,())∧(∀ s,scanL base raw=some s→v=s.1.fin)∧Sat w' (slc T.a34 1 x (raw.flatMap encU)::pt lg (.cells #[.pointer (some ⟨M.d,0,none⟩),.string M.pre,.int .i64 M.seg,.int .i64 M.gap,.slice M.z.a M.z.len M.z.cap] T.a28)::lgR M::dk M.d D::r)) ?_ ?_
  ·cases hfr:firstL raw with
   | none =>
    rw [hfr] at hs
    have e:scanL base raw=none:=by unfold scanL;rw [hfr]
    rw [e]
    refine wp_ifF ?_ (by simp)
    exact wp_lv ⟨0,rfl,(fun s h=>by cases h),hs.sub⟩
   | some q =>
    obtain ⟨body,m⟩:=q
    rw [hfr] at hs
    have hs:Sat w' (slc T.a34 1 y (body.flatMap encU)::_):=hs
    obtain ⟨-,-,hbd,-⟩:=first_inv hfr
    refine wp_ifT ?_ (by rfl)
    refine wp_call (headed_c y body base (by omega) (by omega) hs) fun _ w' hs=>?_
    obtain ⟨v,rfl,hv,hs⟩:=hs
    refine ret_of ?_
    refine wp_lt ?_
    refine wp_lt ?_
    have e:scanL base raw=match headS base body with
      | none=>none
      | some fin=>some (⟨base,fin,(takeF raw.length base (raw.drop m)).1⟩,m+(takeF raw.length base (raw.drop m)).2):=by simp only [scanL,hfr];cases headS base body <;> rfl
    rw [e]
    cases hh:headS base body with
    | none=>exact wp_lv ⟨v,rfl,(fun s h=>by cases h),hs.sub⟩
    | some fin =>
     have:=hv fin hh
     subst this
     exact wp_lv ⟨v,rfl,(fun s h=>by simp only [Option.some.injEq] at h;subst h;rfl),hs.sub⟩
  rintro _ w2 ⟨v,rfl,hv,hs⟩
  cases hsc:scanL base raw with
  | none =>
   refine wp_ifT ?_ (by simp)
   refine wp_nn ?_
   refine wp_ldO hs ?_
   refine wp_call (remove_c (d:=M.d) (A:=D) nm hs) fun _ w' hs=>?_
   obtain ⟨rfl,hs⟩:=hs
   refine ret_of ?_
   refine wp_lt ?_
   exact ⟨rfl,rfl,hsame hs.sub⟩
  | some q =>
   obtain ⟨s,mm⟩:=q
   dsimp only
   have hv:=hv _ hsc
   have hv:v=s.fin:=hv
   subst hv
   obtain ⟨hsok,hsb,hst,hsm,hsml⟩:=scan_inv hsc
   refine wp_ifF ?_ (by simp)
   obtain ⟨m0,hm0,htk⟩:∃ m0,((firstL raw).getD ([],0)).2=m0∧m0≤raw.length∧m0=(shL s.base s.fin).length∧s.bs=(takeF raw.length base (raw.drop m0)).1∧mm=m0+(takeF raw.length base (raw.drop m0)).2:=by
    unfold scanL at hsc
    cases hfr:firstL raw with
    | none=>rw [hfr] at hsc;cases hsc
    | some q =>
     obtain ⟨body,m⟩:=q
     rw [hfr] at hsc
     simp only at hsc
     cases hh:headS base body with
     | none=>rw [hh] at hsc;cases hsc
     | some fin =>
      rw [hh] at hsc
      simp only [Option.some.injEq,Prod.mk.injEq] at hsc
      obtain ⟨e1,e2⟩:=hsc
      obtain ⟨f1,f2,f3,f4⟩:=first_inv hfr
      obtain ⟨-,-,hb3⟩:=headS_inv hh
      refine ⟨m,rfl,f2,?_,by rw [← e1],e2.symm⟩
      rw [← e1]
      show m=(shL base fin).length
      unfold shL
      rw [seal_len (by have:=shB_len base fin;omega),← hb3,f1]
   obtain ⟨h1,h2,h3,h4⟩:=htk
   rw [hm0]
   have hbase0:=hsok.base
   have hfin0:0≤s.fin∧s.fin<9223372036854775808:=by have:=hsok.fin;omega
   have hs:=lgQ_uncell M hokm (hs.pick [1,1])
   refine wp_call (newseg_c (lg:=lg) base s.fin (by omega) hfin0 hs) fun _ w' hs=>?_
   obtain ⟨a,ix,rfl,hs⟩:=hs
   refine ret_of ?_
   refine wp_lt ?_
   refine wp_mid (fun q w'=>q=((mm:Int),())∧Sat w' (segP M.gap a ⟨ix,s⟩::lgQ lg M::slc T.a34 1 x (raw.flatMap encU)::dk M.d D::r)) ?_ ?_
   ·refine wp_loop (fun k q w=>∃ (at_:Nat) (n:Int) (done:List BatM),q=((at_:Int),(n,()))∧at_≤raw.length∧raw.length-at_≤k ∧
     s.bs=done++(takeF k n (raw.drop at_)).1∧mm=at_+(takeF k n (raw.drop at_)).2∧at_=((⟨base,s.fin,[]⟩:SegA).add done).file.length ∧
     Sat w (segP M.gap a ⟨ix,(⟨base,s.fin,[]⟩:SegA).add done⟩::lgQ lg M::slc T.a34 1 x (raw.flatMap encU)::dk M.d D::r)) raw.length
     ⟨m0,base,[],rfl,h1,by omega,by rw [List.nil_append];exact h3,h4,by rw [add_nil,file_len];simp only [List.flatMap_nil,List.length_nil];rw [h2,hsb];omega,by rw [add_nil];exact hs⟩ ?_
    clear hs
    rintro k _ w ⟨at_,n,done,rfl,ha1,ha2,ha3,ha4,ha5,hs⟩
    have hend:takeF k n (raw.drop at_)=([],0)→∀ {w:World},Sat w (segP M.gap a ⟨ix,(⟨base,s.fin,[]⟩:SegA).add done⟩::lgQ lg M::slc T.a34 1 x (raw.flatMap encU)::dk M.d D::r)→at_=mm∧Sat w (segP M.gap a ⟨ix,s⟩::lgQ lg M::slc T.a34 1 x (raw.flatMap encU)::dk M.d D::r):=by
     intro he w hs
     rw [he] at ha3 ha4
     simp only [List.append_nil] at ha3
     have hpp:done.map BatM.p=done:=by
      rw [List.map_congr_left (g:=id) fun b hb=>((hsok.bs.valid b (by rw [ha3];exact hb)).2),List.map_id]
     have es:(⟨base,s.fin,[]⟩:SegA).add done=s:=by
      unfold SegA.add
      rw [hpp,← ha3,← hsb]
      rfl
     rw [es] at hs
     exact ⟨ha4.symm,hs⟩
    refine wp_on ?_
    refine wp_must (by omega) ?_
    rw [Int.toNat_natCast]
    have hxc:FocR (segP M.gap a ⟨ix,(⟨base,s.fin,[]⟩:SegA).add done⟩::lgQ lg M::slc T.a34 1 x (raw.flatMap encU)::dk M.d D::r) ⟨cutA x.a 1 at_ x.cap,x.len-at_,x.cap-at_⟩ 1 ((raw.drop at_).flatMap encU):=FocR.post hcap
    refine wp_call (ffirst_c ⟨cutA x.a 1 at_ x.cap,x.len-at_,x.cap-at_⟩ (raw.drop at_) (by show x.len-at_≤x.cap-at_;omega) (by rw [List.length_drop];omega) hs) fun _ w' hs=>?_
    obtain ⟨y,rfl,hs⟩:=hs
    refine ret_of ?_
    refine wp_lt ?_
    refine wp_lt ?_
    cases hfr:firstL (raw.drop at_) with
    | none =>
     rw [hfr] at hs
     refine wp_ifT ?_ (by simp)
     have he:takeF k n (raw.drop at_)=([],0):=by
      cases k with
      | zero=>rfl
      | succ k=>rw [takeF_succ,hfr]
     obtain ⟨e1,hs⟩:=hend he hs.tail
     refine wp_pass (wp_lv ⟨by rw [e1],hs⟩)
    | some q =>
     obtain ⟨body,m⟩:=q
     rw [hfr] at hs
     have hs:Sat w' (slc T.a34 1 y (body.flatMap encU)::_):=hs
     obtain ⟨f1,f2,hbd,f4⟩:=first_inv hfr
     rw [List.length_drop] at f2
     dsimp only [Option.getD,Option.isSome]
     refine wp_ifF ?_ (by simp)
     obtain ⟨k,rfl⟩:∃ k',k=k'+1:=⟨k-1,by omega⟩
     rw [takeF_succ,hfr] at ha3 ha4 hend
     refine wp_call (decode_c y body (by omega) hs) fun _ w' hs=>?_
     rcases hs with ⟨b,z,hdec,rfl,hs⟩|⟨hdec,rfl,hs⟩
     rotate_left
     ·refine ⟨(0,0,0,0,0,0,noSl,6,()),rfl,trivial,wp_u8 _ _ _ _ _ _ _ _ ?_⟩
      refine wp_newO hs fun c w' hs=>?_
      refine wp_stG hs fun w' hs=>?_
      refine wp_lt ?_
      refine wp_ldO hs ?_
      refine wp_ifT ?_ (.inl (by decide))
      obtain ⟨e1,hs⟩:=hend (by simp only [hdec]) hs.tail.tail
      exact wp_pass (wp_lv ⟨by show ((at_:Int),())=_;rw [e1],hs⟩)
     ·obtain ⟨d1,d2,d3⟩:=decS_inv hdec
      have hfrb:(frL b).length=m:=by rw [(frL_len d1).2,d2,f1]
      refine ⟨(b.base,b.pid,b.epoch,b.seq,b.kind,b.time,z,0,()),rfl,trivial,wp_u8 _ _ _ _ _ _ _ _ ?_⟩
      refine wp_newO hs fun c w' hs=>?_
      refine wp_stG hs fun w' hs=>?_
      refine wp_lt ?_
      refine wp_ldO hs ?_
      simp only [hdec] at ha3 ha4 hend
      refine wp_if (fun hc=>?_) fun hc=>?_
      ·have hc:b.base<n:=by
        rcases hc with hc|hc
        ·exact absurd rfl hc
        ·exact hc
       obtain ⟨e1,hs⟩:=hend (by rw [if_pos hc]) hs.tail.tail.tail
       exact wp_pass (wp_lv ⟨by show ((at_:Int),())=_;rw [e1],hs⟩)
      have hc:¬ b.base<n:=fun h=>hc (.inr h)
      rw [if_neg hc] at ha3 ha4
      simp only at ha3 ha4
      refine wp_ldG hs ?_
      have hz:FocR (pt c (.cells #[.int .i64 b.base,.int .i64 b.pid,.int .i64 b.epoch,.int .i64 b.seq,.int .i64 b.kind,.int .i64 b.time,.slice z.a z.len z.cap] T.a1)::slc T.a3 4 z (b.rs.flatMap encR)::slc T.a34 1 y (body.flatMap encU)::lgQ lg M::slc T.a34 1 x (raw.flatMap encU)::dk M.d D::r) z 4 (b.rs.flatMap encR):=inferInstance
      have hs:Sat w' (pt c (.cells #[.int .i64 b.base,.int .i64 b.pid,.int .i64 b.epoch,.int .i64 b.seq,.int .i64 b.kind,.int .i64 b.time,.slice z.a z.len z.cap] T.a1)::slc T.a3 4 z (b.rs.flatMap encR)::slc T.a34 1 y (body.flatMap encU)::segP M.gap a ⟨ix,(⟨base,s.fin,[]⟩:SegA).add done⟩::lgQ lg M::slc T.a34 1 x (raw.flatMap encU)::dk M.d D::r):=hs
      have hml:((m:Nat):Int)=((frL b).length:Nat):=by rw [hfrb]
      show (Prog.call F.a75 [_,.agg _,.int .i64 ((m:Nat):Int)] _ _).wp P _ _ _
      rw [hml]
      refine wp_call (take_raw (gap:=M.gap) (a:=a) (t:=⟨ix,(⟨base,s.fin,[]⟩:SegA).add done⟩) b z d1 d3 (by show ((⟨base,s.fin,[]⟩:SegA).add done).file.length+_≤_;rw [← ha5];omega) hs) fun _ w' hs=>?_
      obtain ⟨rfl,hs⟩:=hs
      refine ret_of ?_
      have e6:((⟨base,s.fin,[]⟩:SegA).add done).add [b]=(⟨base,s.fin,[]⟩:SegA).add (done++[b]):=add_add _ _ _
      have hs:Sat w' (segP M.gap a ⟨ix,((⟨base,s.fin,[]⟩:SegA).add done).add [b]⟩::_):=hs
      rw [e6] at hs
      have hs:=seg_open hs
      refine wp_nn ?_
      refine wp_ldO hs ?_
      refine wp_lt ?_
      rw [w64 (by omega) (by omega)]
      refine wp_lt ?_
      have en2:nextG ((⟨base,s.fin,[]⟩:SegA).add (done++[b])).bs=b.base+spanB b:=by
       show nextG ([]++(done++[b]).map BatM.p)=_
       rw [List.nil_append,List.map_append]
       exact nextG_snoc _ _
      rw [show nextG (SegM.s ⟨ix,(⟨base,s.fin,[]⟩:SegA).add (done++[b])⟩).bs=b.base+spanB b from en2]
      have hs:=seg_close ⟨ix,(⟨base,s.fin,[]⟩:SegA).add (done++[b])⟩ hs
      have ec:(at_:Int)+((frL b).length:Nat)=((at_+m:Nat):Int):=by rw [hfrb];omega
      rw [ec]
      refine wp_lp k ⟨at_+m,b.base+spanB b,done++[b],rfl,by omega,by omega,?_,?_,?_,hs.sub⟩
      ·rw [ha3,List.append_assoc,List.drop_drop];rfl
      ·rw [ha4,List.drop_drop];omega
      ·rw [← e6,file_add,List.length_append,← ha5]
       simp only [List.flatMap_cons,List.flatMap_nil,List.append_nil]
       omega
   clear hs
   rintro _ w3 ⟨rfl,hs⟩
   refine wp_on ?_
   have hs:=hs.pick [1]
   refine wp_call (put_c (lg:=lg) a ⟨ix,s⟩ (by omega) hs) fun _ w' hs=>?_
   obtain ⟨z,rfl,hs⟩:=hs
   refine ret_of ?_
   have hfin2:∀ {w:World} {D':DiskA},Sat w (lgQ lg { M with z:=z,SM:=M.SM++[(a,⟨ix,s⟩)] }::dk M.d D'::r)→∃ M':LogM,(M'.d=M.d∧M'.pre=M.pre∧M'.seg=M.seg∧M'.gap=M.gap)∧M'.l=M.l++[s]∧M'.SM.length≤M.SM.length+1∧Sat w (lgQ lg M'::dk M.d D'::r):=fun hs =>
    ⟨{ M with z:=z,SM:=M.SM++[(a,⟨ix,s⟩)] },⟨rfl,rfl,rfl,rfl⟩,by unfold LogM.l;simp,by simp,hs⟩
   refine wp_if (fun hc=>?_) fun hc=>?_
   ·have hc:mm=raw.length:=by omega
    rw [if_pos hc]
    exact ⟨rfl,rfl,hfin2 hs.sub⟩
   ·rw [if_neg (show ¬ mm=raw.length by omega)]
    refine wp_nn ?_
    obtain ⟨hokm2,hs⟩:=lgQ_cell hs
    refine wp_ldO hs ?_
    refine wp_call (cut_c (d:=M.d) (A:=D) nm ((mm:Nat):Int) hs) fun _ w' hs=>?_
    obtain ⟨rfl,hs⟩:=hs
    refine ret_of ?_
    refine wp_lt ?_
    have hs:=lgQ_uncell { M with z:=z,SM:=M.SM++[(a,⟨ix,s⟩)] } hokm2 (hs.pick [1,1])
    exact ⟨rfl,rfl,hfin2 hs.sub⟩
end
def outP (a:Nat) (outs:List BatM):HP:=HP.ex fun z:Sl=>HP.star (pt a (.cells #[.slice z.a z.len z.cap] T.a18)) (HP.star (slc T.a1 7 z (outs.flatMap encB7)) (batsP outs))
section
variable {w:World} {l r r1 r2:List HP} {lg ao:Nat} {M:LogM} {A:LogA} {D:DiskA} {gap:Int} {a:Nat} {t:SegM} {outs:List BatM}
theorem out_open (hs:Sat w (outP ao outs::l)):∃ z:Sl,Sat w (pt ao (.cells #[.slice z.a z.len z.cap] T.a18)::slc T.a1 7 z (outs.flatMap encB7)::batsP outs::l):=by
 obtain ⟨z,hs⟩:=hs.ex
 have hs:=hs.star
 exact ⟨z,((hs.pick [1]).star).pick [2]⟩
theorem out_close {z:Sl} (hs:Sat w (pt ao (.cells #[.slice z.a z.len z.cap] T.a18)::slc T.a1 7 z (outs.flatMap encB7)::batsP outs::l)):Sat w (outP ao outs::l) :=
 .ex_mk z (.star_mk (((hs.pick [1,1]).star_mk).pick [1]))
theorem bats_put {b:BatM} (hs:Sat w (slc T.a3 4 b.x (b.rs.flatMap encR)::batsP outs::l)):Sat w (batsP (outs++[b])::l):=by
 have h1:Sat w (HP.all ((b::outs).map rsP)::l):=by
  have h2:Sat w (rsP b::HP.all (outs.map rsP)::l):=hs
  exact h2.all_put
 exact h1.all_perm ((List.perm_append_comm (l₁:=[b]) (l₂:=outs)).map rsP)
theorem bats_nil (hs:Sat w l):Sat w (batsP []::l):=hs.all_nil
theorem bats_rd {b:BatM} (hb:b ∈ outs):FocR (batsP outs::l) b.x 4 (b.rs.flatMap encR):=⟨fun w hs=>by
 obtain ⟨L,hs⟩:=hs.all_mem (f:=rsP) hb
 exact Sat.rd hs⟩
theorem told_c (b:BatM) (off most:Int) (a1 a2:Nat) (ho : -9223372036854775808≤off∧off<9223372036854775808) (hcap:b.x.len≤b.x.cap) (hol:outs.length≤2000000) [hf:Fo l outP ao outs r] [h1:FocB r a1 (.cells [.int .i64 off].toArray T.a11) r1] [h2:FocB r a2 (.cells [.int .i64 most].toArray T.a10) r2] [hb:FocR r b.x 4 (b.rs.flatMap encR)] (hs:Sat w l) :
  Ret P F.a53 #[.agg (encB7 b).toArray,.pointer (some ⟨a1,0,none⟩),.pointer (some ⟨ao,0,none⟩),.pointer (some ⟨a2,0,none⟩)] w fun vs w'=>∃ outs':List BatM,vs=[.bool (decide ((outs'.length:Int)<most))]∧outs'.map BatM.p=outs.map BatM.p++(fromB off b).toList.map BatM.p∧Sat w' (outP ao outs'::r) :=
 zf61_calls b.base b.pid b.epoch b.seq b.kind b.time b.x _ _ _ <| by
  unfold zf61
  obtain ⟨z,hs⟩:=out_open (hs.perm hf.perm)
  have hl:=hs.slen z (xs:=outs) (enc:=encB7)
  refine wp_boxO hs fun a0 w' hs=>?_
  refine wp_ldG hs ?_
  refine wp_ldO hs ?_
  refine wp_call (from_c6 b off ho hcap hs) fun _ w' hs=>?_
  rcases hs with ⟨hn,rfl,hs⟩|⟨c,zc,hc,rfl,hs⟩
  ·refine ⟨(0,0,0,0,0,0,noSl,false,()),rfl,trivial,wp_u8 _ _ _ _ _ _ _ _ ?_⟩
   refine wp_newO hs fun a3 w' hs=>?_
   refine wp_stG hs fun w' hs=>?_
   refine wp_lt ?_
   refine wp_bind ?_
   refine wp_ifF ?_ (by simp)
   refine wp_go ?_
   refine wp_ldO hs ?_
   refine wp_ldO hs ?_
   refine wp_lt ?_
   refine ⟨rfl,outs,by rw [hl],by rw [hn];simp,out_close (z:=z) hs.sub⟩
  ·refine ⟨(c.base,c.pid,c.epoch,c.seq,c.kind,c.time,zc,true,()),rfl,trivial,wp_u8 _ _ _ _ _ _ _ _ ?_⟩
   refine wp_newO hs fun a3 w' hs=>?_
   refine wp_stG hs fun w' hs=>?_
   refine wp_lt ?_
   refine wp_bind ?_
   refine wp_ifT ?_ (by trivial)
   refine wp_ldO hs ?_
   refine wp_ldG hs ?_
   refine wp_ap0 (xs:=outs) (enc:=encB7) (y:=c.at zc) hs (fun z' w' hs=>?_) rfl (by omega)
   refine wp_stO hs fun w' hs=>?_
   refine wp_go ?_
   refine wp_ldO hs ?_
   refine wp_ldO hs ?_
   refine wp_lt ?_
   have hs:Sat w' (pt ao (.cells #[.slice z'.a z'.len z'.cap] T.a18)::slc T.a1 7 z' ((outs++[c.at zc]).flatMap encB7)::pt a3 _::slc T.a3 4 (c.at zc).x ((c.at zc).rs.flatMap encR)::pt a0 _::batsP outs::r):=hs
   have hl':=hs.slen z' (xs:=outs++[c.at zc]) (enc:=encB7)
   refine ⟨rfl,outs++[c.at zc],by rw [hl'],by rw [hc];simp;rfl,?_⟩
   have hs:=bats_put (hs.pick [3,4])
   exact out_close (z:=z') (hs.pick [1,1,0]).sub
theorem sfrom_c (off:Int) (hok:SegOk t.s) (hfl:t.s.file.length≤4194304) [hf:Fo l (segP gap) a t r] (hs:Sat w l):Ret P F.a73 #[.pointer (some ⟨a,0,none⟩),.int .i64 off] w fun vs w'=>vs=[.int .i64 (placeE t.s (findE (t.s.idx gap).l off))]∧Sat w' (segP gap a t::r) :=
 zf81_calls _ off <| by
  unfold zf81
  have hi:IdxOk gap (shL t.s.base t.s.fin).length t.s.bs (t.s.idx gap):=idx_ok gap t.s.bs.length (n:=t.s.base) (q:=(shL t.s.base t.s.fin).length) rfl hok.base.1 (by omega) hok.bs (by have:=file_len t.s;omega)
  have hs:=seg_open (hs.perm hf.perm)
  refine wp_nn ?_
  refine wp_ldO hs ?_
  refine wp_call (find_c (b:=t.ix) off hi.offs hs) fun _ w' hs=>?_
  obtain ⟨rfl,hs⟩:=hs
  refine ⟨((orE (findE (t.s.idx gap).l off)).offset,(orE (findE (t.s.idx gap).l off)).place,(orE (findE (t.s.idx gap).l off)).before,(findE (t.s.idx gap).l off).isSome,()),rfl,trivial,wp_u4 _ _ _ _ ?_⟩
  refine wp_newO hs fun c w' hs=>?_
  refine wp_stG hs fun w' hs=>?_
  refine wp_lt ?_
  cases hfe:findE (t.s.idx gap).l off with
  | some e =>
   refine wp_ifT ?_ (by rfl)
   rw [hfe] at hs
   refine wp_ldO hs ?_
   refine wp_lt ?_
   exact ⟨rfl,rfl,seg_close t hs.sub⟩
  | none =>
   refine wp_ifF ?_ (by simp)
   refine wp_tk hs fun w' hs=>?_
   refine wp_nn ?_
   refine wp_ldO hs ?_
   refine wp_nn ?_
   refine wp_ldO hs ?_
   have hb:=hok.base
   have hfn:0≤t.s.fin∧t.s.fin<9223372036854775808:=by have:=hok.fin;omega
   refine wp_call (head_c t.s.base t.s.fin (by omega) hfn hs) fun _ w' hs=>?_
   obtain ⟨y,rfl,hs⟩:=hs
   refine ret_of ?_
   have hl:=hs.slen y (xs:=shL t.s.base t.s.fin) (enc:=encU)
   refine wp_lt ?_
   refine wp_untick ?_
   refine ⟨rfl,?_,seg_close t hs.sub⟩
   rw [hl]
   rfl
set_option maxHeartbeats 1000000 in
theorem walk_c (off:Int) (most:Nat) (a1 a2:Nat) (ho : -9223372036854775808≤off∧off<9223372036854775808) {i k kp:Nat} (hsi:i<M.SM.length) (hok:SegOk M.SM[i].2.s) (hfile:fileD D.fs (nameS M.pre M.SM[i].2.s.base logX)=some (M.SM[i].2.s.file,kp)) (hk:k≤M.SM[i].2.s.bs.length) (hout:outs.length<most) (hol:outs.length+M.SM[i].2.s.bs.length≤2000000)
  (hs:Sat w (outP ao outs::lgQ lg M::dk M.d D::pt a1 (.cells [.int .i64 off].toArray T.a11)::pt a2 (.cells [.int .i64 (most:Int)].toArray T.a10)::r)) :
  Ret P F.a66 #[.pointer (some ⟨lg,0,none⟩),.pointer (some ⟨M.SM[i].1,0,none⟩),.int .i64 (posB M.SM[i].2.s k:Nat),.func (.func F.a53) #[] #[.pointer (some ⟨a1,0,none⟩),.pointer (some ⟨ao,0,none⟩),.pointer (some ⟨a2,0,none⟩)]] w fun vs w' =>
   ∃ outs':List BatM,vs=[.bool (decide (outs.length+((M.SM[i].2.s.bs.drop k).filterMap (fromB off)).length<most))]∧outs'.map BatM.p=(outs.map BatM.p++(M.SM[i].2.s.bs.drop k).filterMap (fromB off)).take most∧outs'.length≤outs.length+M.SM[i].2.s.bs.length ∧
    Sat w' (outP ao outs'::lgQ lg M::dk M.d D::pt a1 (.cells [.int .i64 off].toArray T.a11)::pt a2 (.cells [.int .i64 (most:Int)].toArray T.a10)::r) :=
 zf74_calls _ _ _ _ <| by
  unfold zf74
  obtain ⟨m_,FS_,-,hokD,-⟩:=dk_open (hs.pick [2])
  obtain ⟨hokm,hs⟩:=lgQ_open (hs.pick [1])
  have hs:=seg_open (seg_at (hs.pick [2]) hsi)
  generalize hT:M.SM[i]=T0 at *
  obtain ⟨a,t⟩:=T0
  dsimp only at hok hfile hk hol hs ⊢
  have hrl:t.s.file.length≤4194304:=Nat.le_trans (used_file hfile) hokD.used
  have hbl:=file_bs hok
  have hb0:=hok.base
  refine wp_mid (fun q w'=>∃ x:Sl,q=(x,())∧x.len≤x.cap∧Sat w' (slc T.a34 1 x (t.s.file.flatMap encU)::pt a (.cells #[.pointer (some ⟨t.ix,0,none⟩),.int .i64 t.s.base,.int .i64 t.s.fin,.int .i64 (nextG t.s.bs),.int .i64 (lateG (-1) t.s.bs),.int .i64 (t.s.file.length:Nat)] T.a29)::idxP t.ix (t.s.idx M.gap)::HP.all ((M.SM.eraseIdx i).map fun t=>segP M.gap t.1 t.2)::pt lg (.cells #[.pointer (some ⟨M.d,0,none⟩),.string M.pre,.int .i64 M.seg,.int .i64 M.gap,.slice M.z.a M.z.len M.z.cap] T.a28)::slc T.a17 1 M.z ((M.SM.map Prod.fst).flatMap encP)::outP ao outs::dk M.d D::pt a1 (.cells [.int .i64 off].toArray T.a11)::pt a2 (.cells [.int .i64 (most:Int)].toArray T.a10)::r)) ?_ ?_
  ·refine wp_tk hs fun w' hs=>?_
   refine wp_nn ?_
   refine wp_hdO hs ?_
   refine wp_nn ?_
   refine wp_ldO hs ?_
   refine wp_call (name_c0 (lg:=lg) t.s.base (by omega) (ByteArray.mk #[46,108,111,103]) (by decide) M.pre hokm.size hs) fun _ w' hs=>?_
   obtain ⟨rfl,hs⟩:=hs
   refine ret_of ?_ (by first|trivial|(repeat (first|exact trivial|exact fun _=>run_ldO hs|exact fun _=>run_ldG hs|refine And.intro ?_ ?_)))
   refine wp_untick ?_
   have en:nameS M.pre t.s.base (bl (ByteArray.mk #[46,108,111,103]))=nameS M.pre t.s.base logX:=rfl
   rw [en]
   refine wp_call (read_c (d:=M.d) (A:=D) (nameS M.pre t.s.base logX) hs) fun _ w' hs=>?_
   rcases hs with ⟨f,hff,hfn,x,rfl,hs⟩|⟨hno,rfl,hs⟩
   ·refine ret_of ?_
    refine wp_lt ?_
    refine wp_untick ?_
    have hfd:fileD D.fs f.name=some (f.b,f.kept):=fileD_mem (names_nodup hokD.sorted) hff
    rw [hfn,hfile] at hfd
    simp only [Option.some.injEq,Prod.mk.injEq] at hfd
    rw [← hfd.1] at hs
    have hcap:=hs.slc_cap
    exact wp_lv ⟨x,rfl,hcap,hs.sub⟩
   ·rw [fileD_none.2 hno] at hfile
    cases hfile
  clear hs
  rintro _ w ⟨x,rfl,hcap,hs⟩
  refine wp_on ?_
  refine wp_lt ?_
  have hl:=hs.slen x (xs:=t.s.file) (enc:=encU)
  have hfin:∀ {w:World} {outs':List BatM},Sat w (slc T.a34 1 x (t.s.file.flatMap encU)::pt a (.cells #[.pointer (some ⟨t.ix,0,none⟩),.int .i64 t.s.base,.int .i64 t.s.fin,.int .i64 (nextG t.s.bs),.int .i64 (lateG (-1) t.s.bs),.int .i64 (t.s.file.length:Nat)] T.a29)::idxP t.ix (t.s.idx M.gap)::HP.all ((M.SM.eraseIdx i).map fun t=>segP M.gap t.1 t.2)::pt lg (.cells #[.pointer (some ⟨M.d,0,none⟩),.string M.pre,.int .i64 M.seg,.int .i64 M.gap,.slice M.z.a M.z.len M.z.cap] T.a28)::slc T.a17 1 M.z ((M.SM.map Prod.fst).flatMap encP)::outP ao outs'::dk M.d D::pt a1 (.cells [.int .i64 off].toArray T.a11)::pt a2 (.cells [.int .i64 (most:Int)].toArray T.a10)::r) →
    Sat w (outP ao outs'::lgQ lg M::dk M.d D::pt a1 (.cells [.int .i64 off].toArray T.a11)::pt a2 (.cells [.int .i64 (most:Int)].toArray T.a10)::r):=by
   intro w outs' hs
   have h1:Sat w (segP M.gap M.SM[i].1 M.SM[i].2::HP.all ((M.SM.eraseIdx i).map fun t=>segP M.gap t.1 t.2)::pt lg (.cells #[.pointer (some ⟨M.d,0,none⟩),.string M.pre,.int .i64 M.seg,.int .i64 M.gap,.slice M.z.a M.z.len M.z.cap] T.a28)::slc T.a17 1 M.z ((M.SM.map Prod.fst).flatMap encP)::outP ao outs'::dk M.d D::pt a1 (.cells [.int .i64 off].toArray T.a11)::pt a2 (.cells [.int .i64 (most:Int)].toArray T.a10)::r):=by
    rw [hT]
    exact seg_close t hs.tail
   have h2:=seg_back hsi h1
   exact (lgQ_close M hokm (h2.pick [1,1])).sub
  have hfull:∀ {outs':List BatM} {j:Nat},outs'.map BatM.p=outs.map BatM.p++((t.s.bs.drop k).take j).filterMap (fromB off)→outs'.length=outs.length+(((t.s.bs.drop k).take j).filterMap (fromB off)).length:=fun h=>by
   have:=congrArg List.length h
   simpa using this
  refine wp_mid (fun _ w'=>∃ outs':List BatM,outs'.map BatM.p=outs.map BatM.p++(t.s.bs.drop k).filterMap (fromB off)∧outs'.length<most∧outs'.length≤outs.length+t.s.bs.length∧Sat w' (slc T.a34 1 x (t.s.file.flatMap encU)::pt a (.cells #[.pointer (some ⟨t.ix,0,none⟩),.int .i64 t.s.base,.int .i64 t.s.fin,.int .i64 (nextG t.s.bs),.int .i64 (lateG (-1) t.s.bs),.int .i64 (t.s.file.length:Nat)] T.a29)::idxP t.ix (t.s.idx M.gap)::HP.all ((M.SM.eraseIdx i).map fun t=>segP M.gap t.1 t.2)::pt lg (.cells #[.pointer (some ⟨M.d,0,none⟩),.string M.pre,.int .i64 M.seg,.int .i64 M.gap,.slice M.z.a M.z.len M.z.cap] T.a28)::slc T.a17 1 M.z ((M.SM.map Prod.fst).flatMap encP)::outP ao outs'::dk M.d D::pt a1 (.cells [.int .i64 off].toArray T.a11)::pt a2 (.cells [.int .i64 (most:Int)].toArray T.a10)::r)) ?_ ?_
  rotate_left
  ·rintro _ w2 ⟨outs',h1,h2,h3,hs⟩
   have h4:=congrArg List.length h1
   simp only [List.length_map,List.length_append] at h4
   refine ⟨rfl,outs',by rw [decide_eq_true (by omega)],?_,h3,hfin hs⟩
   rw [← h1,List.take_of_length_le]
   rw [List.length_map];omega
  refine wp_loop (fun m v w=>∃ (j:Nat) (outs':List BatM),v=(((posB t.s (k+j):Nat):Int),())∧k+j≤t.s.bs.length∧t.s.bs.length-(k+j)=m∧outs'.map BatM.p=outs.map BatM.p++((t.s.bs.drop k).take j).filterMap (fromB off)∧outs'.length<most∧outs'.length≤outs.length+j∧Sat w (slc T.a34 1 x (t.s.file.flatMap encU)::pt a (.cells #[.pointer (some ⟨t.ix,0,none⟩),.int .i64 t.s.base,.int .i64 t.s.fin,.int .i64 (nextG t.s.bs),.int .i64 (lateG (-1) t.s.bs),.int .i64 (t.s.file.length:Nat)] T.a29)::idxP t.ix (t.s.idx M.gap)::HP.all ((M.SM.eraseIdx i).map fun t=>segP M.gap t.1 t.2)::pt lg (.cells #[.pointer (some ⟨M.d,0,none⟩),.string M.pre,.int .i64 M.seg,.int .i64 M.gap,.slice M.z.a M.z.len M.z.cap] T.a28)::slc T.a17 1 M.z ((M.SM.map Prod.fst).flatMap encP)::outP ao outs'::dk M.d D::pt a1 (.cells [.int .i64 off].toArray T.a11)::pt a2 (.cells [.int .i64 (most:Int)].toArray T.a10)::r)) (t.s.bs.length-k)
   ⟨0,outs,rfl,by omega,by omega,by simp,hout,by omega,hs⟩ ?_
  clear hs
  rintro m _ w ⟨j,outs',rfl,hj,hm,hmap,hlt,hol',hs⟩
  refine wp_on ?_
  refine wp_nng ?_
  refine wp_ldO hs ?_
  have hple:=posB_le t.s (k+j)
  refine wp_if (fun hc=>?_) fun hc=>?_
  rotate_left
  ·have hend:k+j=t.s.bs.length:=by
    apply Decidable.byContradiction
    intro hne
    have hlt2:k+j<t.s.bs.length:=by omega
    have h1:=posB_succ t.s hlt2
    have h2:=posB_le t.s (k+j+1)
    have h3:=frL_len (hok.bs.valid _ (List.getElem_mem hlt2)).1
    exact hc ⟨by omega,by omega⟩
   refine wp_pass (wp_lv ⟨outs',?_,hlt,by omega,hs⟩)
   rw [hmap,List.take_of_length_le (by rw [List.length_drop];omega)]
  have hjl:k+j<t.s.bs.length:=by
   apply Decidable.byContradiction
   intro hne
   have he:k+j=t.s.bs.length:=by omega
   have h1:=posB_all t.s
   rw [he] at hc
   have hc1:((posB t.s t.s.bs.length:Nat):Int)<(x.len:Nat):=hc.1
   omega
  obtain ⟨hfst,hdec⟩:=first_drop hok hjl
  obtain ⟨hvb,hpb⟩:=hok.bs.valid _ (List.getElem_mem hjl)
  have hblen:=batL_len hvb
  have hxl:posB t.s (k+j)≤x.len:=by omega
  refine wp_must (by omega) ?_
  rw [Int.toNat_natCast]
  have hxc:FocR (slc T.a34 1 x (t.s.file.flatMap encU)::pt a (.cells #[.pointer (some ⟨t.ix,0,none⟩),.int .i64 t.s.base,.int .i64 t.s.fin,.int .i64 (nextG t.s.bs),.int .i64 (lateG (-1) t.s.bs),.int .i64 (t.s.file.length:Nat)] T.a29)::idxP t.ix (t.s.idx M.gap)::HP.all ((M.SM.eraseIdx i).map fun t=>segP M.gap t.1 t.2)::pt lg (.cells #[.pointer (some ⟨M.d,0,none⟩),.string M.pre,.int .i64 M.seg,.int .i64 M.gap,.slice M.z.a M.z.len M.z.cap] T.a28)::slc T.a17 1 M.z ((M.SM.map Prod.fst).flatMap encP)::outP ao outs'::dk M.d D::pt a1 (.cells [.int .i64 off].toArray T.a11)::pt a2 (.cells [.int .i64 (most:Int)].toArray T.a10)::r) ⟨cutA x.a 1 (posB t.s (k+j)) x.cap,x.len-posB t.s (k+j),x.cap-posB t.s (k+j)⟩ 1 ((t.s.file.drop (posB t.s (k+j))).flatMap encU):=FocR.post hcap
  refine wp_call (ffirst_c ⟨cutA x.a 1 (posB t.s (k+j)) x.cap,x.len-posB t.s (k+j),x.cap-posB t.s (k+j)⟩ (t.s.file.drop (posB t.s (k+j))) (by show x.len-_≤x.cap-_;omega) (by rw [List.length_drop];omega) hs) fun _ w' hs=>?_
  obtain ⟨y,rfl,hs⟩:=hs
  rw [hfst] at hs ⊢
  refine ret_of ?_
  refine wp_lt ?_
  refine wp_lt ?_
  dsimp only [Option.getD,Option.isSome]
  have hs:Sat w' (slc T.a34 1 y ((batL t.s.bs[k+j]).flatMap encU)::_):=hs
  refine wp_ifF ?_ (by simp)
  refine wp_call (decode_c y (batL t.s.bs[k+j]) (by omega) hs) fun _ w' hs=>?_
  rcases hs with ⟨b,z,hdec2,rfl,hs⟩|⟨hdec2,rfl,hs⟩
  rotate_left
  ·rw [hdec] at hdec2;cases hdec2
  rw [hdec] at hdec2
  simp only [Option.some.injEq] at hdec2
  subst hdec2
  generalize hbb:t.s.bs[k+j]=b at *
  refine ⟨(b.base,b.pid,b.epoch,b.seq,b.kind,b.time,z,0,()),rfl,trivial,wp_u8 _ _ _ _ _ _ _ _ ?_⟩
  refine wp_newO hs fun c w' hs=>?_
  refine wp_stG hs fun w' hs=>?_
  refine wp_lt ?_
  have hzc:z.len≤z.cap:=(hs.pick [1]).slc_cap
  have htk:(t.s.bs.drop k).take (j+1)=(t.s.bs.drop k).take j++[b]:=by
   rw [List.take_succ_eq_append_getElem (by rw [List.length_drop];omega),List.getElem_drop,hbb]
  have hfp:(fromB off b).toList.map BatM.p=(fromB off b).toList:=by
   cases hfb:fromB off b with
   | none=>rfl
   | some c=>simp [fromB_p hpb hfb]
  have hfm:((t.s.bs.drop k).take (j+1)).filterMap (fromB off)=((t.s.bs.drop k).take j).filterMap (fromB off)++(fromB off b).toList:=by
   rw [htk,List.filterMap_append]
   congr 1
  have hpos:=posB_succ t.s hjl
  rw [hbb] at hpos
  have hple2:=posB_le t.s (k+j+1)
  refine wp_bind ?_
  refine wp_ldG hs ?_
  refine wp_ifF ?_ (by simp)
  have hzb:FocR (pt c (.cells #[.int .i64 b.base,.int .i64 b.pid,.int .i64 b.epoch,.int .i64 b.seq,.int .i64 b.kind,.int .i64 b.time,.slice z.a z.len z.cap] T.a1)::slc T.a3 4 z (b.rs.flatMap encR)::slc T.a34 1 y ((batL b).flatMap encU)::slc T.a34 1 x (t.s.file.flatMap encU)::pt a (.cells #[.pointer (some ⟨t.ix,0,none⟩),.int .i64 t.s.base,.int .i64 t.s.fin,.int .i64 (nextG t.s.bs),.int .i64 (lateG (-1) t.s.bs),.int .i64 (t.s.file.length:Nat)] T.a29)::idxP t.ix (t.s.idx M.gap)::HP.all ((M.SM.eraseIdx i).map fun t=>segP M.gap t.1 t.2)::pt lg (.cells #[.pointer (some ⟨M.d,0,none⟩),.string M.pre,.int .i64 M.seg,.int .i64 M.gap,.slice M.z.a M.z.len M.z.cap] T.a28)::slc T.a17 1 M.z ((M.SM.map Prod.fst).flatMap encP)::dk M.d D::pt a1 (.cells [.int .i64 off].toArray T.a11)::pt a2 (.cells [.int .i64 (most:Int)].toArray T.a10)::r) (b.at z).x 4 ((b.at z).rs.flatMap encR):=(inferInstance:FocR (pt c (.cells #[.int .i64 b.base,.int .i64 b.pid,.int .i64 b.epoch,.int .i64 b.seq,.int .i64 b.kind,.int .i64 b.time,.slice z.a z.len z.cap] T.a1)::slc T.a3 4 z (b.rs.flatMap encR)::_) z 4 (b.rs.flatMap encR))
  have hs:Sat w' (outP ao outs'::pt c (.cells #[.int .i64 b.base,.int .i64 b.pid,.int .i64 b.epoch,.int .i64 b.seq,.int .i64 b.kind,.int .i64 b.time,.slice z.a z.len z.cap] T.a1)::slc T.a3 4 z (b.rs.flatMap encR)::slc T.a34 1 y ((batL b).flatMap encU)::slc T.a34 1 x (t.s.file.flatMap encU)::pt a (.cells #[.pointer (some ⟨t.ix,0,none⟩),.int .i64 t.s.base,.int .i64 t.s.fin,.int .i64 (nextG t.s.bs),.int .i64 (lateG (-1) t.s.bs),.int .i64 (t.s.file.length:Nat)] T.a29)::idxP t.ix (t.s.idx M.gap)::HP.all ((M.SM.eraseIdx i).map fun t=>segP M.gap t.1 t.2)::pt lg (.cells #[.pointer (some ⟨M.d,0,none⟩),.string M.pre,.int .i64 M.seg,.int .i64 M.gap,.slice M.z.a M.z.len M.z.cap] T.a28)::slc T.a17 1 M.z ((M.SM.map Prod.fst).flatMap encP)::dk M.d D::pt a1 (.cells [.int .i64 off].toArray T.a11)::pt a2 (.cells [.int .i64 (most:Int)].toArray T.a10)::r):=hs.sub
  have htold:=told_c (ao:=ao) (outs:=outs') (b.at z) off (most:Int) a1 a2 ho hzc (by omega) hs
  refine ⟨F.a53,#[],#[.pointer (some ⟨a1,0,none⟩),.pointer (some ⟨ao,0,none⟩),.pointer (some ⟨a2,0,none⟩)],rfl,by kernel_rfl,?_⟩
  refine Calls.mono htold fun e w' ⟨vs,he,outs2,hvs,hmap2,hs⟩=>⟨(decide ((outs2.length:Int)<(most:Int)),()),by rw [he,hvs];rfl,trivial,?_⟩
  refine wp_go ?_
  have hfe:(fromB off (b.at z)).toList.map BatM.p=(fromB off b).toList:=by
   have hpz:b={ (b.at z) with x:=noSl }:=by rw [← hpb];rfl
   have e2:fromB off (b.at z)=(fromB off b).map fun c=>c.at z:=by
    unfold fromB
    have ev:validB (b.at z)=validB b:=rfl
    have en:nextB (b.at z)=nextB b:=rfl
    have em:markB (b.at z)=markB b:=rfl
    rw [ev,en,em]
    split
    ·rfl
    ·show (if markB b=true∨off≤b.base then _ else _)=_
     split <;> rfl
   rw [e2]
   cases hfb:fromB off b with
   | none=>rfl
   | some c =>
    have:=fromB_p hpb hfb
    show [(c.at z).p]=[c]
    have e3:(c.at z).p=c.p:=rfl
    rw [e3,this]
  rw [hfe,hmap,List.append_assoc,← hfm] at hmap2
  have hlen2:=hfull hmap2
  have hfl1:(fromB off b).toList.length≤1:=by cases fromB off b <;> simp
  have hlen1:=hfull hmap
  rw [hfm,List.length_append] at hlen2
  have hback:∀ {w:World},Sat w (outP ao outs2::pt c (.cells #[.int .i64 b.base,.int .i64 b.pid,.int .i64 b.epoch,.int .i64 b.seq,.int .i64 b.kind,.int .i64 b.time,.slice z.a z.len z.cap] T.a1)::slc T.a3 4 z (b.rs.flatMap encR)::slc T.a34 1 y ((batL b).flatMap encU)::slc T.a34 1 x (t.s.file.flatMap encU)::pt a (.cells #[.pointer (some ⟨t.ix,0,none⟩),.int .i64 t.s.base,.int .i64 t.s.fin,.int .i64 (nextG t.s.bs),.int .i64 (lateG (-1) t.s.bs),.int .i64 (t.s.file.length:Nat)] T.a29)::idxP t.ix (t.s.idx M.gap)::HP.all ((M.SM.eraseIdx i).map fun t=>segP M.gap t.1 t.2)::pt lg (.cells #[.pointer (some ⟨M.d,0,none⟩),.string M.pre,.int .i64 M.seg,.int .i64 M.gap,.slice M.z.a M.z.len M.z.cap] T.a28)::slc T.a17 1 M.z ((M.SM.map Prod.fst).flatMap encP)::dk M.d D::pt a1 (.cells [.int .i64 off].toArray T.a11)::pt a2 (.cells [.int .i64 (most:Int)].toArray T.a10)::r) →
    Sat w (slc T.a34 1 x (t.s.file.flatMap encU)::pt a (.cells #[.pointer (some ⟨t.ix,0,none⟩),.int .i64 t.s.base,.int .i64 t.s.fin,.int .i64 (nextG t.s.bs),.int .i64 (lateG (-1) t.s.bs),.int .i64 (t.s.file.length:Nat)] T.a29)::idxP t.ix (t.s.idx M.gap)::HP.all ((M.SM.eraseIdx i).map fun t=>segP M.gap t.1 t.2)::pt lg (.cells #[.pointer (some ⟨M.d,0,none⟩),.string M.pre,.int .i64 M.seg,.int .i64 M.gap,.slice M.z.a M.z.len M.z.cap] T.a28)::slc T.a17 1 M.z ((M.SM.map Prod.fst).flatMap encP)::outP ao outs2::dk M.d D::pt a1 (.cells [.int .i64 off].toArray T.a11)::pt a2 (.cells [.int .i64 (most:Int)].toArray T.a10)::r):=fun hs=>hs.sub
  have hs:=hback hs
  refine wp_if (fun h5=>?_) fun h5=>?_
  ·have h5:most≤outs2.length:=by
    have:¬ ((outs2.length:Int)<(most:Int)):=by simpa using h5
    omega
   have h6:outs2.length=most:=by omega
   have h7:((t.s.bs.drop k).filterMap (fromB off))=((t.s.bs.drop k).take (j+1)).filterMap (fromB off)++((t.s.bs.drop k).drop (j+1)).filterMap (fromB off):=by
    rw [← List.filterMap_append,List.take_append_drop]
   have h8:=congrArg List.length hmap2
   simp only [List.length_map,List.length_append] at h8
   refine wp_pass (wp_pass ⟨rfl,outs2,?_,?_,by omega,hfin hs⟩)
   ·rw [decide_eq_false]
    rw [h7,List.length_append]
    omega
   ·rw [h7,← List.append_assoc,← hmap2]
    rw [List.take_append_of_le_length (by rw [List.length_map];omega),List.take_of_length_le (by rw [List.length_map];omega)]
  ·have h5:outs2.length<most:=by
    have:((outs2.length:Int)<(most:Int)):=by simpa using h5
    omega
   have ew:IntKind.wrap .i64 (((posB t.s (k+j):Nat):Int)+((frL b).length:Nat))=((posB t.s (k+(j+1)):Nat):Int):=by
    rw [show k+(j+1)=k+j+1 by omega,hpos,w64 (by omega) (by omega)];omega
   refine wp_ltx (y:=((posB t.s (k+(j+1)):Nat):Int)) ?_ ew
   exact wp_lp (t.s.bs.length-(k+(j+1))) ⟨j+1,outs2,rfl,by omega,rfl,hmap2,h5,by omega,hs⟩
end
def HasL (pre:ByteArray) (l:List SegA) (D:DiskA):Prop:=∀ s ∈ l,∃ k,fileD D.fs (nameS pre s.base logX)=some (s.file,k)
theorem bs_base {n:Int} {bs:List BatM} (h:BsOk n bs):∀ b ∈ bs,n≤b.base:=by
 intro b hb
 obtain ⟨j,hj,rfl⟩:=List.mem_iff_getElem.1 hb
 cases j with
 | zero =>
  cases bs with
  | nil=>simp at hj
  | cons c cs=>exact h.2.2.1
 | succ j =>
  have h1:=h.lt 0 (j+1) hj (by omega)
  obtain ⟨s1,-,-,-,-⟩:=span_le _ (h.valid _ (List.getElem_mem (show 0<bs.length by omega))).1
  omega
theorem fromB_all {off:Int} {b:BatM} (hv:validB b=0) (h:off≤b.base):fromB off b=some b:=by
 obtain ⟨s1,-,-,-,-⟩:=span_le b hv
 unfold fromB
 rw [if_neg,if_pos (.inr h)]
 rintro (hh|hh)
 ·exact hh hv
 ·unfold nextB at hh;rw [if_neg (by rw [hv];simp)] at hh;omega
theorem filterMap_id {α:Type} {f:α→Option α} {l:List α} (h:∀ x ∈ l,f x=some x):l.filterMap f=l:=by
 induction l with
 | nil=>rfl
 | cons a l ih=>rw [List.filterMap_cons,h a (List.mem_cons_self ..)];simp only;rw [ih fun x hx=>h x (List.mem_cons_of_mem _ hx)]
section
variable {w:World} {l r r1 r2:List HP} {lg ao:Nat} {M:LogM} {A:LogA} {D:DiskA} {gap:Int} {a:Nat} {t:SegM} {outs:List BatM}
theorem read1_cl (i:Nat) (a0 a1:Nat) (off:Int) (hi:i<M.SM.length)
  (hs:Sat w (pt a0 (.cells [.pointer (some ⟨lg,0,none⟩)].toArray T.a16)::pt a1 (.cells [.int .i64 off].toArray T.a11)::lgQ lg M::r)) :
  Ret P F.a52 #[.int .i64 (i:Int),.pointer (some ⟨a0,0,none⟩),.pointer (some ⟨a1,0,none⟩)] w fun vs w'=>vs=[.bool (decide (M.SM[i].2.s.base>off))]∧Sat w' (pt a0 (.cells [.pointer (some ⟨lg,0,none⟩)].toArray T.a16)::pt a1 (.cells [.int .i64 off].toArray T.a11)::lgQ lg M::r) :=
 zf60_calls _ _ _ <| by
  unfold zf60
  obtain ⟨hokm,hs⟩:=lgQ_open (hs.pick [2])
  refine wp_tk hs fun w' hs=>?_
  refine wp_ldO hs ?_
  refine wp_nn ?_
  refine wp_ldO hs ?_
  refine wp_ix1 hs (xs:=M.SM.map Prod.fst) (enc:=encP) i (by rw [List.length_map];exact hi) ?_
  have e0:(M.SM.map Prod.fst)[i]'(by rw [List.length_map];exact hi)=M.SM[i].1:=by simp
  rw [e0]
  refine wp_nn ?_
  have hs:=seg_open (seg_at (hs.pick [2]) hi)
  refine wp_ldO hs ?_
  refine wp_ldO hs ?_
  refine wp_lt ?_
  refine wp_untick ?_
  have hs:=seg_back hi (seg_close M.SM[i].2 hs)
  have hs:=lgQ_close M hokm (hs.pick [1,1])
  exact ⟨rfl,rfl,hs.sub⟩
set_option maxHeartbeats 1000000 in
theorem lread_c (off most:Int) (ho : -9223372036854775808≤off∧off<9223372036854775808) (hmo:most≤1099511627776) {r1:List HP} [hf:Fo l lgP lg A r1] [hf2:Fo r1 dk A.d D r] (hok:SegsOk 0 A.l) (hhas:HasL A.pre A.l D) (hlen:A.l.length≤1000000) (hall:(allB A.l).length≤1000000) (hs:Sat w l) :
  Ret P F.a51 #[.pointer (some ⟨lg,0,none⟩),.int .i64 off,.int .i64 most] w fun vs w'=>∃ (z:Sl) (outs:List BatM),vs=[z.v,.int .i64 (readA A.l off most).1]∧outs.map BatM.p=(readA A.l off most).2∧Sat w' (slc T.a1 7 z (outs.flatMap encB7)::batsP outs::lgP lg A::dk A.d D::r) :=
 zf59_calls _ off most <| by
  unfold zf59
  have hs:=hs.perm (hf.perm.trans (.cons _ hf2.perm))
  clear hf hf2
  obtain ⟨M,rfl,hs⟩:=lgP_open hs
  have hMl:M.A.l=M.l:=rfl
  have hMpre:M.A.pre=M.pre:=rfl
  have hMd:M.A.d=M.d:=rfl
  rw [hMl] at hlen hok hhas hall ⊢
  rw [hMpre] at hhas
  rw [hMd] at hs ⊢
  have hll:M.l.length=M.SM.length:=List.length_map ..
  have hget:∀ (i:Nat) (h:i<M.SM.length),M.SM[i].2.s=M.l[i]'(by omega):=fun i h=>by unfold LogM.l;simp
  obtain ⟨m_,FS_,-,hokD,-⟩:=dk_open (hs.pick [1])
  refine wp_boxO hs fun a0 w' hs=>?_
  refine wp_boxO hs fun a1 w' hs=>?_
  refine wp_boxO hs fun a2 w' hs=>?_
  refine wp_ldO hs ?_
  refine wp_lt ?_
  refine wp_ifF ?_ (by simp)
  refine wp_ldO hs ?_
  refine wp_lt ?_
  have hfin0:∀ {w:World} {L:List HP},Sat w (lgQ lg M::dk M.d D::r)→Sat w (slc T.a1 7 ⟨none,0,0⟩ (([]:List BatM).flatMap encB7)::batsP []::lgP lg M.A::dk M.d D::r):=fun hs=>(bats_nil (lgP_close M hs)).slc_nil
  unfold readA
  refine wp_if (fun h=>?_) fun h=>?_
  ·rw [if_pos (show most<1 by omega)]
   have hs:Sat w' (lgQ lg M::dk M.d D::r):=hs.sub
   exact ⟨rfl,⟨none,0,0⟩,[],rfl,rfl,hfin0 (L:=[]) hs⟩
  rw [if_neg (show ¬ most<1 by omega)]
  refine wp_mid (fun q w'=>q=(decide (off<firstG M.l∨off>nextL M.l),())∧Sat w' (pt a2 (.cells [.int .i64 most].toArray T.a10)::pt a1 (.cells [.int .i64 off].toArray T.a11)::pt a0 (.cells [.pointer (some ⟨lg,0,none⟩)].toArray T.a16)::lgQ lg M::dk M.d D::r)) ?_ ?_
  ·refine wp_tk hs fun w' hs=>?_
   refine wp_hdO hs ?_
   refine wp_ldO hs ?_
   refine wp_call (first_c (lg:=lg) hs) fun _ w' hs=>?_
   obtain ⟨rfl,hs⟩:=hs
   refine ret_of ?_ (by first|trivial|(repeat (first|exact trivial|exact fun _=>run_ldO hs|exact fun _=>run_ldG hs|refine And.intro ?_ ?_)))
   refine wp_hdO hs ?_
   refine wp_ldO hs ?_
   refine wp_if (fun h1=>?_) fun h1=>?_
   ·refine wp_untick ?_
    exact wp_lv ⟨by rw [decide_eq_true (.inl h1)],hs.sub⟩
   ·refine wp_call (lnext_c (lg:=lg) (by omega) hs) fun _ w' hs=>?_
    obtain ⟨rfl,hs⟩:=hs
    refine ret_of ?_ (by first|trivial|(repeat (first|exact trivial|exact fun _=>run_ldO hs|exact fun _=>run_ldG hs|refine And.intro ?_ ?_)))
    refine wp_lt ?_
    refine wp_untick ?_
    refine wp_lv ⟨?_,hs.sub⟩
    rw [decide_eq_decide.2 (show (off<firstG M.l∨off>nextL M.l)↔off>nextL M.l from ⟨fun hh=>hh.resolve_left h1,.inr⟩)]
  rintro _ w2 ⟨rfl,hs⟩
  refine wp_if (fun h1=>?_) fun h1=>?_
  ·have h1:off<firstG M.l∨off>nextL M.l:=by simpa using h1
   rw [if_pos h1]
   have hs:Sat w2 (lgQ lg M::dk M.d D::r):=hs.sub
   exact ⟨rfl,⟨none,0,0⟩,[],rfl,rfl,hfin0 (L:=[]) hs⟩
  have h1:¬ (off<firstG M.l∨off>nextL M.l):=by simpa using h1
  rw [if_neg h1]
  obtain ⟨mN,rfl⟩:∃ mN:Nat,most=(mN:Int):=⟨most.toNat,by omega⟩
  rw [Int.toNat_natCast]
  refine wp_newO hs fun ao w' hs=>?_
  refine wp_ldO hs ?_
  refine wp_nn ?_
  obtain ⟨hokm,hs⟩:=lgQ_open (hs.pick [4])
  refine wp_ldO hs ?_
  have hl:=hs.slen M.z (xs:=M.SM.map Prod.fst) (enc:=encP)
  rw [List.length_map] at hl
  have hs:=lgQ_close M hokm hs
  have hs:Sat w' (pt a0 (.cells [.pointer (some ⟨lg,0,none⟩)].toArray T.a16)::pt a1 (.cells [.int .i64 off].toArray T.a11)::lgQ lg M::pt ao (.cells #[.slice none 0 0] T.a18)::pt a2 (.cells [.int .i64 (mN:Int)].toArray T.a10)::dk M.d D::r):=hs.sub
  rw [hl]
  refine wp_call (search_c M.SM.length (by omega) F.a52 #[.pointer (some ⟨a0,0,none⟩),.pointer (some ⟨a1,0,none⟩)] (fun i=>decide (((M.l.map SegA.base).getD i 0)>off)) (by kernel_rfl) (fun i w hi hs=>?_) hs) fun _ w' hs=>?_
  ·have e:(M.l.map SegA.base).getD i 0=M.SM[i].2.s.base:=by
    rw [List.getD_eq_getElem?_getD,List.getElem?_map,List.getElem?_eq_getElem (by omega),hget i hi];rfl
   simp only [e]
   exact read1_cl (M:=M) i a0 a1 off hi hs
  obtain ⟨i0,hi0,hs1,hs2,rfl,hs⟩:=hs
  refine ret_of ?_
  refine wp_ltx (y:=(i0:Int)-1) ?_ (by rw [w64 (by omega) (by omega)])
  refine wp_ltx (y:=((i0-1:Nat):Int)) ?_ (by split <;> omega)
  have hskip:i0-1<M.SM.length→(allB M.l).filterMap (fromB off)=(allB (M.l.drop (i0-1))).filterMap (fromB off):=fun hlt=>by
   refine skip_all hok (i:=i0-1) (by omega) ?_
   by_cases h0:i0=0
   ·right;omega
   ·left
    have h2:=hs1 (by omega)
    rw [List.getD_eq_getElem?_getD,List.getElem?_map,List.getElem?_eq_getElem (by omega)] at h2
    have h2:decide ((M.l[i0-1]'(by omega)).base>off)=false:=h2
    simpa using h2
  have hs:Sat w' (outP ao []::lgQ lg M::dk M.d D::pt a1 (.cells [.int .i64 off].toArray T.a11)::pt a2 (.cells [.int .i64 (mN:Int)].toArray T.a10)::pt a0 (.cells [.pointer (some ⟨lg,0,none⟩)].toArray T.a16)::r):=by
   have h3:Sat w' (slc T.a1 7 ⟨none,0,0⟩ (([]:List BatM).flatMap encB7)::batsP []::_):=(bats_nil hs).slc_nil
   have h4:Sat w' (pt ao (.cells #[.slice none 0 0] T.a18)::slc T.a1 7 ⟨none,0,0⟩ (([]:List BatM).flatMap encB7)::batsP []::lgQ lg M::dk M.d D::pt a1 (.cells [.int .i64 off].toArray T.a11)::pt a2 (.cells [.int .i64 (mN:Int)].toArray T.a10)::pt a0 (.cells [.pointer (some ⟨lg,0,none⟩)].toArray T.a16)::r):=h3.sub
   exact out_close (z:=⟨none,0,0⟩) h4
  refine wp_mid (fun _ w'=>∃ outs:List BatM,outs.map BatM.p=((allB M.l).filterMap (fromB off)).take mN∧Sat w' (outP ao outs::lgQ lg M::dk M.d D::pt a1 (.cells [.int .i64 off].toArray T.a11)::pt a2 (.cells [.int .i64 (mN:Int)].toArray T.a10)::pt a0 (.cells [.pointer (some ⟨lg,0,none⟩)].toArray T.a16)::r)) ?_ ?_
  rotate_left
  ·rintro _ w3 ⟨outs,h4,hs⟩
   obtain ⟨z,hs⟩:=out_open hs
   refine wp_ldO hs ?_
   refine ⟨rfl,z,outs,rfl,h4,?_⟩
   have hs:Sat w3 (lgQ lg M::slc T.a1 7 z (outs.flatMap encB7)::batsP outs::dk M.d D::r):=hs.sub
   have hs:=lgP_close M hs
   exact hs.sub
  have hpre:∀ (j:Nat),i0-1≤j→j≤M.l.length→(allB ((M.l.drop (i0-1)).take (j-(i0-1)))).length≤1000000:=fun j h1 h2=>by
   refine Nat.le_trans ?_ hall
   have:∀ (a b:List SegA),a.Sublist b→(allB a).length≤(allB b).length:=fun a b h=>by
    induction h with
    | slnil=>exact Nat.le_refl _
    | cons x _ ih=>unfold allB at *;rw [List.flatMap_cons,List.length_append];omega
    | cons_cons x _ ih=>unfold allB at *;rw [List.flatMap_cons,List.flatMap_cons,List.length_append,List.length_append];omega
   exact this _ _ ((List.take_sublist _ _).trans (List.drop_sublist _ _))
  refine wp_loop (fun m v w=>∃ (j:Nat) (outs:List BatM),v=((j:Int),())∧i0-1≤j∧(j≤M.SM.length∨j=i0-1)∧M.SM.length-j=m∧outs.map BatM.p=(allB ((M.l.drop (i0-1)).take (j-(i0-1)))).filterMap (fromB off)∧outs.length<mN ∧
   Sat w (outP ao outs::lgQ lg M::dk M.d D::pt a1 (.cells [.int .i64 off].toArray T.a11)::pt a2 (.cells [.int .i64 (mN:Int)].toArray T.a10)::pt a0 (.cells [.pointer (some ⟨lg,0,none⟩)].toArray T.a16)::r)) (M.SM.length-(i0-1))
   ⟨i0-1,[],rfl,Nat.le_refl _,.inr rfl,rfl,by simp [allB],by show 0<mN;omega,hs⟩ ?_
  clear hs
  rintro m _ w ⟨j,outs,rfl,hj1,hj2,hm,hmap,hlt,hs⟩
  refine wp_on ?_
  refine wp_ldO hs ?_
  refine wp_nn ?_
  obtain ⟨hokm,hs⟩:=lgQ_open (hs.pick [1])
  refine wp_ldO hs ?_
  refine wp_if (fun hc=>?_) fun hc=>?_
  rotate_left
  ·have hs:=lgQ_close M hokm hs
   refine wp_pass (wp_lv ⟨outs,?_,hs.sub⟩)
   by_cases hlt2:i0-1<M.SM.length
   ·have hje:j=M.SM.length:=by omega
    rw [hskip hlt2,hmap,hje]
    rw [List.take_of_length_le (l:=M.l.drop (i0-1)) (by rw [List.length_drop];omega)] at hmap ⊢
    have:=congrArg List.length hmap
    rw [List.length_map] at this
    rw [List.take_of_length_le (by omega)]
   ·have h0:M.l=[]:=List.length_eq_zero_iff.1 (by omega)
    rw [hmap,h0]
    simp [allB]
  have hjl:j<M.SM.length:=by omega
  refine wp_ldO hs ?_
  refine wp_nn ?_
  refine wp_ldO hs ?_
  refine wp_ix1 hs (xs:=M.SM.map Prod.fst) (enc:=encP) j (by rw [List.length_map];exact hjl) ?_
  have e0:(M.SM.map Prod.fst)[j]'(by rw [List.length_map];exact hjl)=M.SM[j].1:=by simp
  rw [e0]
  have hmem:M.SM[j].2.s ∈ M.l:=List.mem_map.2 ⟨_,List.getElem_mem hjl,rfl⟩
  have hsok:=(hok.mem _ hmem).1
  obtain ⟨kp,hfile⟩:=hhas _ hmem
  have hrl:M.SM[j].2.s.file.length≤4194304:=Nat.le_trans (used_file hfile) hokD.used
  have hbl:=file_bs hsok
  obtain ⟨k,hk,hpl,hskp⟩:=find_spec hsok hrl M.gap off
  have hlt2:i0-1<M.SM.length:=by omega
  have hstep:(M.l.drop (i0-1)).take (j+1-(i0-1))=(M.l.drop (i0-1)).take (j-(i0-1))++[M.SM[j].2.s]:=by
   rw [show j+1-(i0-1)=(j-(i0-1))+1 by omega,List.take_succ_eq_append_getElem (by rw [List.length_drop];omega),List.getElem_drop,hget j hjl]
   congr 3
   omega
  have hnone:(M.SM[j].2.s.bs).filterMap (fromB off)=(M.SM[j].2.s.bs.drop k).filterMap (fromB off):=by
   have e:M.SM[j].2.s.bs=M.SM[j].2.s.bs.take k++M.SM[j].2.s.bs.drop k:=(List.take_append_drop _ _).symm
   calc (M.SM[j].2.s.bs).filterMap (fromB off)=(M.SM[j].2.s.bs.take k++M.SM[j].2.s.bs.drop k).filterMap (fromB off):=by rw [← e]
    _=(M.SM[j].2.s.bs.drop k).filterMap (fromB off):=by
     rw [List.filterMap_append,filterMap_none (l:=M.SM[j].2.s.bs.take k),List.nil_append]
     intro b hb
     exact fromB_none (hsok.bs.valid b (List.mem_of_mem_take hb)).1 (hskp b hb)
  have hall2:(allB ((M.l.drop (i0-1)).take (j+1-(i0-1)))).filterMap (fromB off)=(allB ((M.l.drop (i0-1)).take (j-(i0-1)))).filterMap (fromB off)++(M.SM[j].2.s.bs.drop k).filterMap (fromB off):=by
   rw [hstep]
   unfold allB
   rw [List.flatMap_append,List.filterMap_append,← hnone]
   simp
  have hol:outs.length≤1000000:=by
   have:=congrArg List.length hmap
   rw [List.length_map] at this
   rw [this]
   exact Nat.le_trans (List.length_filterMap_le _ _) (hpre j hj1 (by omega))
  refine wp_mid (fun q w'=>∃ outs':List BatM,q=(decide (outs.length+((M.SM[j].2.s.bs.drop k).filterMap (fromB off)).length<mN),())∧outs'.map BatM.p=(outs.map BatM.p++(M.SM[j].2.s.bs.drop k).filterMap (fromB off)).take mN ∧
    Sat w' (outP ao outs'::lgQ lg M::dk M.d D::pt a1 (.cells [.int .i64 off].toArray T.a11)::pt a2 (.cells [.int .i64 (mN:Int)].toArray T.a10)::pt a0 (.cells [.pointer (some ⟨lg,0,none⟩)].toArray T.a16)::r)) ?_ ?_
  ·refine wp_tk hs fun w' hs=>?_
   refine wp_hdO hs ?_
   refine wp_ldO hs ?_
   have hs:=seg_at (hs.pick [2]) hjl
   refine wp_call (sfrom_c (gap:=M.gap) (a:=M.SM[j].1) (t:=M.SM[j].2) off hsok hrl hs) fun _ w' hs=>?_
   obtain ⟨rfl,hs⟩:=hs
   refine ret_of ?_ (by first|trivial|(repeat (first|exact trivial|exact fun _=>run_ldO hs|exact fun _=>run_ldG hs|refine And.intro ?_ ?_)))
   refine wp_untick ?_
   have hs:=seg_back hjl hs
   have hs:=lgQ_close M hokm (hs.pick [1,1])
   have hs:Sat w' (outP ao outs::lgQ lg M::dk M.d D::pt a1 (.cells [.int .i64 off].toArray T.a11)::pt a2 (.cells [.int .i64 (mN:Int)].toArray T.a10)::pt a0 (.cells [.pointer (some ⟨lg,0,none⟩)].toArray T.a16)::r):=hs.sub
   rw [hpl]
   refine wp_call (walk_c off mN a1 a2 ho hjl hsok hfile hk hlt (by omega) hs) fun _ w' hs=>?_
   obtain ⟨outs',rfl,hm2,-,hs⟩:=hs
   refine ret_of ?_
   refine wp_lt ?_
   refine wp_untick ?_
   exact wp_lv ⟨outs',rfl,hm2,hs⟩
  clear hs
  rintro _ w3 ⟨outs',rfl,hm2,hs⟩
  rw [hmap,← hall2] at hm2
  have hlm:=congrArg List.length hmap
  rw [List.length_map] at hlm
  refine wp_if (fun h5=>?_) fun h5=>?_
  ·have h5:¬ (outs.length+((M.SM[j].2.s.bs.drop k).filterMap (fromB off)).length<mN):=by simpa using h5
   refine wp_pass (wp_lv ⟨outs',?_,hs⟩)
   rw [hm2,hskip hlt2]
   have e:allB (M.l.drop (i0-1))=allB ((M.l.drop (i0-1)).take (j+1-(i0-1)))++allB ((M.l.drop (i0-1)).drop (j+1-(i0-1))):=by
    unfold allB;rw [← List.flatMap_append,List.take_append_drop]
   rw [e,List.filterMap_append,List.take_append_of_le_length]
   rw [hall2,List.length_append]
   omega
  ·have h5:(outs.length+((M.SM[j].2.s.bs.drop k).filterMap (fromB off)).length<mN):=by simpa using h5
   refine wp_ltx (y:=((j+1:Nat):Int)) ?_ (by rw [w64 (by omega) (by omega)];omega)
   have hll2:((allB ((M.l.drop (i0-1)).take (j+1-(i0-1)))).filterMap (fromB off)).length<mN:=by rw [hall2,List.length_append];omega
   rw [List.take_of_length_le (by omega)] at hm2
   have hl3:=congrArg List.length hm2
   rw [List.length_map] at hl3
   exact wp_lp (M.SM.length-(j+1)) ⟨j+1,outs',rfl,by omega,.inl (by omega),rfl,hm2,by omega,hs⟩
end
def okCfg (seg gap:Int):Prop:=(64≤seg∧seg≤4194304)∧(1≤gap∧gap≤4194304)
instance (seg gap:Int):Decidable (okCfg seg gap):=by unfold okCfg;infer_instance
section
variable {w:World} {l r:List HP} {lg d:Nat} {M:LogM} {A:LogA} {D:DiskA}
set_option maxHeartbeats 1000000 in
theorem lopen_c (pre:ByteArray) (seg gap:Int) (hp:preS pre=true) (hc:okCfg seg gap) (hg:D.gone=false) [hf:Fo l dk d D r] (hs:Sat w l):Ret P F.a67 #[.pointer (some ⟨d,0,none⟩),.string pre,.agg #[.int .i64 seg,.int .i64 gap]] w fun vs w' =>
  ((lopenA pre D).1≠0∧vs=[.pointer none,.int .i64 (lopenA pre D).1]∧Sat w' (dk d (lopenA pre D).2.2::r)) ∨
  ((lopenA pre D).1=0∧∃ lg,vs=[.pointer (some ⟨lg,0,none⟩),.int .i64 0]∧Sat w' (lgP lg ⟨d,pre,seg,gap,(lopenA pre D).2.1⟩::dk d (lopenA pre D).2.2::r)) :=
 zf75_calls _ pre seg gap <| by
  unfold zf75
  have hs:=hs.perm hf.perm
  obtain ⟨m_,FS_,-,hokD,-⟩:=dk_open hs
  refine wp_boxO hs fun a0 w' hs=>?_
  refine wp_lt ?_
  refine wp_ifF ?_ (by simp)
  refine wp_mid (fun q w'=>q=(false,())∧Sat w' (dk d D::pt a0 (.cells #[.int .i64 seg,.int .i64 gap] T.a27)::r)) ?_ ?_
  ·refine wp_call (prefix_l pre hs) fun _ w' hs=>?_
   obtain ⟨rfl,hs⟩:=hs
   refine ret_of ?_
   refine wp_ldG hs ?_
   refine wp_ifF ?_ (by rw [hp];simp)
   refine wp_call (lmay_c seg gap hs) fun _ w' hs=>?_
   obtain ⟨rfl,hs⟩:=hs
   refine ret_of ?_
   refine wp_lt ?_
   refine wp_lv ⟨?_,hs.sub⟩
   have:((64≤seg∧seg≤4194304)∧(1≤gap∧gap≤4194304)):=hc
   rw [decide_eq_true this]
   rfl
  rintro _ w2 ⟨rfl,hs⟩
  refine wp_ifF ?_ (by simp)
  refine wp_call (gone_c (d:=d) hs) fun _ w' hs=>?_
  obtain ⟨rfl,hs⟩:=hs
  refine ret_of ?_
  refine wp_lt ?_
  refine wp_ifF ?_ (by rw [hg];simp)
  refine wp_ldG hs ?_
  refine wp_boxO hs fun lg w' hs=>?_
  have hokm:okM gap seg pre:=⟨hc.2,hc.1,hp⟩
  have hs:Sat w' (lgQ lg ⟨d,pre,seg,gap,⟨none,0,0⟩,[]⟩::dk d D::r):=by
   refine lgQ_close ⟨d,pre,seg,gap,⟨none,0,0⟩,[]⟩ hokm ?_
   have h1:Sat w' (HP.all (([]:List (Nat × SegM)).map fun t=>segP gap t.1 t.2)::pt lg (.cells #[.pointer (some ⟨d,0,none⟩),.string pre,.int .i64 seg,.int .i64 gap,.slice none 0 0] T.a28)::dk d D::r):=by
    have hs:Sat w' (pt lg (.cells #[.pointer (some ⟨d,0,none⟩),.string pre,.int .i64 seg,.int .i64 gap,.slice none 0 0] T.a28)::dk d D::r):=hs.sub
    exact Sat.all_nil hs
   have h2:Sat w' (slc T.a17 1 ⟨none,0,0⟩ (((([]:List (Nat × SegM))).map Prod.fst).flatMap encP)::_):=h1.slc_nil
   exact h2.pick [2]
  unfold lopenA
  refine wp_call (files_c (lg:=lg) (M:=⟨d,pre,seg,gap,⟨none,0,0⟩,[]⟩) (D:=D) hs) fun _ w' hs=>?_
  have hnl:(filesL pre (namesF (dashN pre) D.fs) D).2.1.length≤128:=by
   refine Nat.le_trans filesL_len ?_
   unfold namesF
   exact Nat.le_trans (List.length_filter_le _ _) (by rw [List.length_map];exact hokD.many)
  have hlt:=filesL_lt (pre:=pre) (ns:=namesF (dashN pre) D.fs) (D:=D)
  rcases hs with ⟨he,rfl,hs⟩|⟨he,x,rfl,hs⟩
  ·have he:(filesL pre (namesF (dashN pre) D.fs) D).1≠0:=he
   refine ret_of ?_
   refine wp_lt ?_
   refine wp_ifT ?_ he
   refine wp_lt ?_
   rw [if_pos he]
   exact ⟨rfl,.inl ⟨he,rfl,hs.tail⟩⟩
  have he:(filesL pre (namesF (dashN pre) D.fs) D).1=0:=he
  refine ⟨(x,0,()),rfl,trivial,wp_u2 _ _ ?_⟩
  refine wp_lt ?_
  refine wp_ifF ?_ (by simp)
  rw [if_neg (by rw [he];simp)]
  have hs:Sat w' (slc T.a11 1 x ((filesL pre (namesF (dashN pre) D.fs) D).2.1.flatMap encI)::lgQ lg ⟨d,pre,seg,gap,⟨none,0,0⟩,[]⟩::dk d (filesL pre (namesF (dashN pre) D.fs) D).2.2::r):=hs
  generalize (filesL pre (namesF (dashN pre) D.fs) D).2.2=D1 at *
  generalize (filesL pre (namesF (dashN pre) D.fs) D).2.1=bs at *
  have hl:=hs.slen x (xs:=bs) (enc:=encI)
  have hcap:=hs.slc_cap
  refine wp_mid (fun q w'=>∃ M:LogM,q=((openS pre bs [] D1).1,())∧(M.d=d∧M.pre=pre∧M.seg=seg∧M.gap=gap)∧M.l=(openS pre bs [] D1).2.1∧Sat w' (lgQ lg M::dk d (openS pre bs [] D1).2.2::r)) ?_ ?_
  rotate_left
  ·rintro _ w3 ⟨M,rfl,⟨rfl,rfl,rfl,rfl⟩,h2,hs⟩
   refine wp_if (fun h=>?_) fun h=>?_
   ·refine wp_lt ?_
    exact ⟨rfl,.inl ⟨h,rfl,hs.tail⟩⟩
   ·have h:(openS M.pre bs [] D1).1=0:=Decidable.not_not.1 h
    refine ⟨rfl,.inr ⟨h,lg,rfl,?_⟩⟩
    have:=lgP_close M hs
    have e:M.A=⟨M.d,M.pre,M.seg,M.gap,(openS M.pre bs [] D1).2.1⟩:=by rw [← h2];rfl
    rw [← e]
    exact this
  refine wp_loop (fun m v w=>∃ (i:Nat) (M:LogM) (D':DiskA),v=((0:Int),((i:Int),()))∧i≤bs.length∧bs.length-i=m∧M.SM.length≤i∧openS pre bs [] D1=openS pre (bs.drop i) M.l D'∧(M.d=d∧M.pre=pre∧M.seg=seg∧M.gap=gap) ∧
   Sat w (slc T.a11 1 x (bs.flatMap encI)::lgQ lg M::dk d D'::r)) bs.length ⟨0,⟨d,pre,seg,gap,⟨none,0,0⟩,[]⟩,D1,rfl,by omega,rfl,by simp,rfl,⟨rfl,rfl,rfl,rfl⟩,hs⟩ ?_
  clear hs
  rintro m _ w ⟨i,M,D',rfl,hi,hm,hsm,hq,⟨rfl,rfl,rfl,rfl⟩,hsn⟩
  have hs:=hsn
  refine wp_on ?_
  refine wp_if (fun hcc=>?_) fun hcc=>?_
  rotate_left
  ·have e:bs.drop i=[]:=List.drop_eq_nil_of_le (by omega)
   rw [e] at hq
   have hq:openS M.pre bs [] D1=(0,M.l,D'):=hq
   rw [hq]
   exact wp_pass (wp_lv ⟨M,rfl,⟨rfl,rfl,rfl,rfl⟩,rfl,hs.sub⟩)
  have hil:i<bs.length:=by omega
  rw [List.drop_eq_getElem_cons hil] at hq
  have hbb:=hlt bs[i] (List.getElem_mem hil)
  have hun:openS M.pre (bs[i]::bs.drop (i+1)) M.l D'=if bs[i]<nextL M.l then (if (remA D' (nameS M.pre bs[i] logX)).1≠0 then ((remA D' (nameS M.pre bs[i] logX)).1,M.l,(remA D' (nameS M.pre bs[i] logX)).2) else openS M.pre (bs.drop (i+1)) M.l (remA D' (nameS M.pre bs[i] logX)).2) else
   if (scanA M.pre M.l D' bs[i]).1.2≠0 then ((scanA M.pre M.l D' bs[i]).1.2,(scanA M.pre M.l D' bs[i]).2) else
   if (scanA M.pre M.l D' bs[i]).1.1=true then openS M.pre (bs.drop (i+1)) (scanA M.pre M.l D' bs[i]).2.1 (scanA M.pre M.l D' bs[i]).2.2 else ((dropL M.pre (bs.drop (i+1)) (scanA M.pre M.l D' bs[i]).2.2).1,(scanA M.pre M.l D' bs[i]).2.1,(dropL M.pre (bs.drop (i+1)) (scanA M.pre M.l D' bs[i]).2.2).2):=rfl
  have ei:IntKind.wrap .i64 ((i:Int)+1)=((i+1:Nat):Int):=by rw [w64 (by omega) (by omega)];omega
  refine wp_mid (fun q w'=>∃ (M2:LogM) (D2:DiskA),q=((0:Int),())∧M2.SM.length≤i+1∧openS M.pre bs [] D1=openS M.pre (bs.drop (i+1)) M2.l D2∧(M2.d=M.d∧M2.pre=M.pre∧M2.seg=M.seg∧M2.gap=M.gap) ∧
   Sat w' (slc T.a11 1 x (bs.flatMap encI)::lgQ lg M2::dk M.d D2::r)) ?_ ?_
  rotate_left
  ·rintro _ w3 ⟨M2,D2,rfl,h1,h2,h3,hs⟩
   rw [ei]
   exact wp_lp (bs.length-(i+1)) ⟨i+1,M2,D2,rfl,by omega,rfl,h1,h2,h3,hs⟩
  refine wp_ix1 hs (xs:=bs) (enc:=encI) i hil ?_
  refine wp_lt ?_
  refine wp_lt ?_
  refine wp_call (lnext_c (lg:=lg) (by omega) hs) fun _ w' hs=>?_
  obtain ⟨rfl,hs⟩:=hs
  refine ret_of ?_
  refine wp_if (fun h1=>?_) fun h1=>?_
  ·rw [if_pos h1] at hun
   obtain ⟨hokm,hs⟩:=lgQ_cell hs
   refine wp_call (name_c0 (lg:=lg) bs[i] hbb (ByteArray.mk #[46,108,111,103]) (by decide) M.pre hokm.size hs) fun _ w' hs=>?_
   obtain ⟨rfl,hs⟩:=hs
   refine ret_of ?_
   refine wp_call (remove_c (d:=M.d) (A:=D') (nameS M.pre bs[i] (bl (ByteArray.mk #[46,108,111,103]))) hs) fun _ w' hs=>?_
   obtain ⟨rfl,hs⟩:=hs
   refine ret_of ?_
   refine wp_lt ?_
   have en:nameS M.pre bs[i] (bl (ByteArray.mk #[46,108,111,103]))=nameS M.pre bs[i] logX:=rfl
   rw [en] at hs ⊢
   have hs:=lgQ_uncell M hokm (hs.pick [1,1])
   refine wp_if (fun h2=>?_) fun h2=>?_
   ·rw [if_pos h2] at hun
    rw [hun] at hq
    rw [hq]
    exact wp_pass (wp_pass (wp_lv ⟨M,rfl,⟨rfl,rfl,rfl,rfl⟩,rfl,hs.sub⟩))
   ·rw [if_neg h2] at hun
    rw [hun] at hq
    have h2:=Decidable.not_not.1 h2
    rw [h2]
    exact wp_lv ⟨M,_,rfl,by omega,hq,⟨rfl,rfl,rfl,rfl⟩,hs.sub⟩
  ·rw [if_neg h1] at hun
   refine wp_call (scan_c (lg:=lg) (D:=D') bs[i] hbb (by omega) hs) fun _ w' hs=>?_
   obtain ⟨rfl,M2,⟨e1,e2,e3,e4⟩,hMl,hMs,hs⟩:=hs
   refine ret_of ?_
   refine wp_lt ?_
   refine wp_lt ?_
   have hs:Sat w' (lgQ lg M2::dk M.d (scanA M.pre M.l D' bs[i]).2.2::slc T.a11 1 x (bs.flatMap encI)::r):=hs
   generalize scanA M.pre M.l D' bs[i]=SC at *
   obtain ⟨⟨b0,e0⟩,l0,D0⟩:=SC
   dsimp only at hun hMl hs ⊢
   refine wp_if (fun h2=>?_) fun h2=>?_
   ·obtain ⟨h2a,h2b⟩:=h2
    have h2a:e0=0:=h2a
    have h2b:b0=false:=by simpa using h2b
    rw [if_neg (by rw [h2a];simp),if_neg (by rw [h2b];simp)] at hun
    rw [ei]
    refine wp_must (by omega) ?_
    rw [Int.toNat_natCast]
    rw [← e1] at hs
    have hx:FocR (slc T.a11 1 x (bs.flatMap encI)::r) ⟨cutA x.a 1 (i+1) x.cap,x.len-(i+1),x.cap-(i+1)⟩ 1 ((bs.drop (i+1)).flatMap encI):=FocR.post hcap
    refine wp_call (drop_c6 (lg:=lg) (M:=M2) (D:=D0) ⟨cutA x.a 1 (i+1) x.cap,x.len-(i+1),x.cap-(i+1)⟩ (bs.drop (i+1)) (fun b hb=>hlt b (List.mem_of_mem_drop hb)) hx (by rw [List.length_drop];omega) hs) fun _ w' hs=>?_
    obtain ⟨rfl,hs⟩:=hs
    refine ret_of ?_
    refine wp_lt ?_
    rw [e2,e1] at hs
    rw [e2]
    rw [hun] at hq
    rw [hq]
    refine wp_pass (wp_pass (wp_lv ⟨M2,rfl,⟨e1,e2,e3,e4⟩,hMl,hs.sub⟩))
   ·refine wp_if (fun h3=>?_) fun h3=>?_
    ·rw [if_pos h3] at hun
     rw [hun] at hq
     rw [hq]
     refine wp_pass (wp_pass (wp_lv ⟨M2,rfl,⟨e1,e2,e3,e4⟩,hMl,hs.sub⟩))
    ·have h3:e0=0:=Decidable.not_not.1 h3
     have h4:b0=true:=by
      cases hb0:b0 with
      | true=>rfl
      | false=>exact absurd ⟨h3,by rw [hb0];simp⟩ h2
     rw [if_neg (by rw [h3];simp),if_pos h4,← hMl] at hun
     rw [hun] at hq
     rw [h3]
     exact wp_lv ⟨M2,D0,rfl,by omega,hq,⟨e1,e2,e3,e4⟩,hs.sub⟩
end
theorem placeL_bs:∀ {bs:List BatM} {n:Int},0≤n→(placeL n bs).1=0→BsOk n ((placeL n bs).2.map BatM.p)∧(∀ b ∈ (placeL n bs).2,n≤b.base)
 | [],n,_,_=>⟨trivial,fun _ h=>by cases h⟩
 | b::bs,n,hn,h=>by
  unfold placeL at h ⊢
  by_cases h1:validB (b.to n)≠0
  ·rw [if_pos h1] at h;exact absurd h h1
  rw [if_neg h1] at h ⊢
  by_cases h2:(placeL (n+spanB b) bs).1≠0
  ·rw [if_pos h2] at h;exact absurd h h2
  rw [if_neg h2]
  have hv:=Decidable.not_not.1 h1
  obtain ⟨s1,-,-,-,-⟩:=span_le _ hv
  have s1:1≤spanB b:=s1
  obtain ⟨i1,i2⟩:=placeL_bs (n:=n+spanB b) (by omega) (Decidable.not_not.1 h2)
  refine ⟨⟨hv,rfl,Int.le_refl _,i1⟩,fun c hc=>?_⟩
  rcases List.mem_cons.1 hc with rfl|hc
  ·exact Int.le_refl _
  ·have:=i2 c hc;omega
theorem BsOk.append:∀ {n:Int} {cs bs:List BatM},0≤n→BsOk n cs→BsOk (max n (nextG cs)) bs→BsOk n (cs++bs)
 | n,[],bs,hn,_,h2=>h2.mono (by show n≤max n 0;omega)
 | n,a::cs,bs,hn,⟨h1,h2,h3,h4⟩,hb=>by
  obtain ⟨s1,-,⟨-,hba,-⟩,-,-⟩:=span_le a h1
  refine ⟨h1,h2,h3,h4.append (by omega) (hb.mono ?_)⟩
  have h5:a.base+spanB a≤nextG (a::cs):=BsOk.le_next (n:=n) (bs:=a::cs) ⟨h1,h2,h3,h4⟩ (List.mem_cons_self ..)
  have h6:nextG cs≤nextG (a::cs):=by
   cases cs with
   | nil=>show (0:Int)≤_;omega
   | cons c ds=>exact Int.le_refl _
  omega
theorem SegsOk.mono {m n:Int} {l:List SegA} (h:SegsOk n l) (hm:m≤n):SegsOk m l:=by
 cases l with
 | nil=>trivial
 | cons s l=>exact ⟨by have:=h.1;omega,h.2.1,h.2.2⟩
theorem nextL_snoc (l:List SegA) (s:SegA):nextL (l++[s])=s.reach:=by unfold nextL;rw [getLast_snoc]
theorem baseL_snoc (l:List SegA) (s:SegA):baseL (l++[s])=s.base:=by unfold baseL;rw [getLast_snoc]
theorem addLast_snoc (l:List SegA) (s:SegA) (bs:List BatM):addLast (l++[s]) bs=l++[s.add bs]:=by unfold addLast;rw [getLast_snoc];simp
theorem SegsOk.snoc:∀ {n:Int} {l:List SegA} {s:SegA},SegsOk n l→SegOk s→n≤s.base→(∀ t ∈ l,t.reach≤s.base∧t.base<s.base)→SegsOk n (l++[s])
 | n,[],s,_,hs,hn,_=>⟨hn,hs,trivial⟩
 | n,a::l,s,⟨h1,h2,h3⟩,hs,hn,ht=>by
  have:=ht a (List.mem_cons_self ..)
  exact ⟨h1,h2,h3.snoc hs (by omega) fun t h=>ht t (List.mem_cons_of_mem _ h)⟩
theorem SegsOk.front:∀ {n:Int} {l:List SegA} {s:SegA},SegsOk n (l++[s])→SegsOk n l∧SegOk s∧n≤s.base∧∀ t ∈ l,t.reach≤s.base∧t.base<s.base
 | n,[],s,h=>⟨trivial,h.2.1,h.1,fun _ h=>by cases h⟩
 | n,a::l,s,⟨h1,h2,h3⟩=>by
  obtain ⟨i1,i2,i3,i4⟩:=h3.front
  have:=(reach_le h2).1
  refine ⟨⟨h1,h2,i1⟩,i2,by omega,fun t ht=>?_⟩
  rcases List.mem_cons.1 ht with rfl|ht
  ·omega
  ·exact i4 t ht
theorem add_reach {s:SegA} (hs:SegOk s) {bs:List BatM} {n:Int} (h:(placeL n bs).1=0) (hn:n=s.reach):SegOk (s.add (placeL n bs).2):=by
 have hr:=reach_le hs
 have hb:=hs.base
 refine ⟨hs.base,hs.fin,?_⟩
 subst hn
 have hm:max s.base (nextG s.bs)≤s.reach:=by omega
 exact hs.bs.append hb.1 ((placeL_bs (by omega) h).1.mono hm)
theorem place_valid {bs:List BatM} {n:Int} (h:(placeL n bs).1=0) (hb:bs≠[]):0≤n∧n≤1099511627776:=by
 cases bs with
 | nil=>exact absurd rfl hb
 | cons b bs =>
  unfold placeL at h
  by_cases h1:validB (b.to n)≠0
  ·rw [if_pos h1] at h;exact absurd h h1
  ·obtain ⟨-,-,⟨-,hba,-⟩,-,-⟩:=span_le _ (Decidable.not_not.1 h1)
   exact hba
def rappA (seg:Int) (l:List SegA) (bs:List BatM):(Int × Int) × List SegA :=
 if bs=[] then ((0,3),l) else if (placeL (nextL l) bs).1≠0 then ((0,(placeL (nextL l) bs).1),l) else
 ((nextL l,0),if roomy seg l ((placeL (nextL l) bs).2.flatMap frL).length then addLast l (placeL (nextL l) bs).2 else l++[(⟨nextL l,0,[]⟩:SegA).add (placeL (nextL l) bs).2])
theorem rapp_segs {seg:Int} {l:List SegA} {bs:List BatM} (h:SegsOk 0 l):SegsOk 0 (rappA seg l bs).2:=by
 unfold rappA
 split
 ·exact h
 rename_i hb
 split
 ·exact h
 rename_i hp
 have hp:=Decidable.not_not.1 hp
 have hv:=place_valid hp hb
 simp only
 split
 ·rename_i hr
  have hne:l≠[]:=by rintro rfl;cases hr
  obtain ⟨l0,s,rfl⟩:=snoc_of hne
  rw [addLast_snoc]
  obtain ⟨h1,h2,h3,h4⟩:=h.front
  exact h1.snoc (add_reach h2 hp (nextL_snoc _ _)) h3 h4
 ·rename_i hr
  have hs:SegOk ((⟨nextL l,0,[]⟩:SegA).add (placeL (nextL l) bs).2):=by
   refine ⟨hv,.inl rfl,?_⟩
   show BsOk _ ([]++_)
   rw [List.nil_append]
   exact (placeL_bs hv.1 hp).1
  refine h.snoc hs hv.1 fun t ht=>?_
  show t.reach≤nextL l∧t.base<nextL l
  have hne:l≠[]:=List.ne_nil_of_mem ht
  obtain ⟨l0,s,rfl⟩:=snoc_of hne
  obtain ⟨h1,h2,h3,h4⟩:=h.front
  rw [nextL_snoc]
  have hsr:=reach_le h2
  have hlast:s.base<s.reach:=by
   have hr2:roomy seg (l0++[s]) ((placeL (nextL (l0++[s])) bs).2.flatMap frL).length=false:=by simpa using hr
   unfold roomy at hr2
   rw [getLast_snoc] at hr2
   simp only [Bool.or_eq_false_iff,decide_eq_false_iff_not] at hr2
   have hbs:s.bs≠[]:=by rintro hbs;rw [hbs] at hr2;exact hr2.1 rfl
   have:=hsr.2.2.2.2 hbs
   omega
  rcases List.mem_append.1 ht with ht|ht
  ·have:=h4 t ht;omega
  ·simp only [List.mem_cons,List.not_mem_nil,or_false] at ht
   subst ht
   exact ⟨Int.le_refl _,hlast⟩
theorem lapp_cases (pre:ByteArray) (seg:Int) (l:List SegA) (D:DiskA) (bs:List BatM):((lappA pre seg l D bs).1=(rappA seg l bs).1∧(lappA pre seg l D bs).2.1=(rappA seg l bs).2)∨((lappA pre seg l D bs).1.1=0∧(lappA pre seg l D bs).1.2≠0∧(lappA pre seg l D bs).2.1=l∧(rappA seg l bs).1.2=0):=by
 unfold lappA rappA
 split
 ·exact .inl ⟨rfl,rfl⟩
 split
 ·exact .inl ⟨rfl,rfl⟩
 split
 ·split
  ·rename_i h;exact .inr ⟨rfl,h,rfl,rfl⟩
  ·exact .inl ⟨rfl,rfl⟩
 ·split
  ·rename_i h;exact .inr ⟨rfl,h,rfl,rfl⟩
  split
  ·rename_i h;exact .inr ⟨rfl,h,rfl,rfl⟩
  ·exact .inl ⟨rfl,rfl⟩
theorem lapp_segs {pre:ByteArray} {seg:Int} {l:List SegA} {D:DiskA} {bs:List BatM} (h:SegsOk 0 l):SegsOk 0 (lappA pre seg l D bs).2.1:=by
 rcases lapp_cases pre seg l D bs with ⟨-,h2⟩|⟨-,-,h2,-⟩
 ·rw [h2];exact rapp_segs h
 ·rw [h2];exact h
section
variable {w:World} {l r:List HP} {d:Nat} {D:DiskA}
theorem read_f (n:ByteArray) (p:List UInt8 × Nat) (hfd:fileD D.fs n=some p) [hf:Fo l dk d D r] (hs:Sat w l):Ret P F.a8 #[.pointer (some ⟨d,0,none⟩),.string n] w fun vs w'=>∃ z:Sl,vs=[z.v,.int .i64 0]∧Sat w' (slc T.a34 1 z (p.1.flatMap encU)::dk d D::r):=by
 obtain ⟨m_,FS_,-,hokD,-⟩:=dk_open (hs.perm hf.perm)
 refine (read_c (d:=d) (A:=D) n hs).mono fun vs w' h=>?_
 rcases h with ⟨f,hff,hfn,x,rfl,hs⟩|⟨hno,rfl,hs⟩
 ·have hfd2:fileD D.fs f.name=some (f.b,f.kept):=fileD_mem (names_nodup hokD.sorted) hff
  rw [hfn,hfd] at hfd2
  simp only [Option.some.injEq] at hfd2
  rw [hfd2]
  exact ⟨x,rfl,hs⟩
 ·rw [fileD_none.2 hno] at hfd;cases hfd
end
def oneB (key value:ByteArray) (x:Sl):BatM:=⟨0,0,0,0,0,0,x,[⟨key,value,false,0⟩]⟩
def aP:ByteArray:=ByteArray.mk #[112]
def aD0:DiskA:=⟨1000,-1,false,[]⟩
def aB:BatM:=oneB (ByteArray.mk #[97]) (ByteArray.mk #[120]) noSl
def aS1:(Int × Int) × List SegA × DiskA:=lappA aP 64 [] aD0 [aB]
def aS2:(Int × Int) × List SegA × DiskA:=lappA aP 64 aS1.2.1 aS1.2.2 [aB]
def aS3:(Int × Int) × List SegA × DiskA:=lappA aP 64 aS2.2.1 aS2.2.2 [aB]
theorem place_p:∀ (bs:List BatM) (n:Int),(placeL n (bs.map BatM.p)).1=(placeL n bs).1∧(placeL n (bs.map BatM.p)).2.map BatM.p=(placeL n bs).2.map BatM.p
 | [],n=>⟨rfl,rfl⟩
 | b::bs,n=>by
  rw [List.map_cons]
  unfold placeL
  have e1:validB (b.p.to n)=validB (b.to n):=rfl
  have e2:spanB b.p=spanB b:=rfl
  obtain ⟨i1,i2⟩:=place_p bs (n+spanB b)
  rw [e1,e2,i1]
  split
  ·exact ⟨rfl,rfl⟩
  split
  ·exact ⟨rfl,rfl⟩
  ·exact ⟨rfl,by rw [List.map_cons,List.map_cons,i2];rfl⟩
theorem flat_eq_p {a b:List BatM} (h:a.map BatM.p=b.map BatM.p):a.flatMap frL=b.flatMap frL:=by
 rw [← flat_p a,h,flat_p]
theorem add_p {a b:List BatM} (h:a.map BatM.p=b.map BatM.p) (s:SegA):s.add a=s.add b:=by unfold SegA.add;rw [h]
theorem addLast_p {a b:List BatM} (h:a.map BatM.p=b.map BatM.p) (l:List SegA):addLast l a=addLast l b:=by
 unfold addLast
 split
 ·rfl
 ·rw [add_p h]
theorem lapp_p (pre:ByteArray) (seg:Int) (l:List SegA) (D:DiskA) (bs:List BatM):lappA pre seg l D (bs.map BatM.p)=lappA pre seg l D bs:=by
 obtain ⟨h1,h2⟩:=place_p bs (nextL l)
 unfold lappA
 rw [h1,flat_eq_p h2,addLast_p h2,add_p h2]
 by_cases hb:bs=[]
 ·subst hb;rfl
 ·rw [if_neg hb,if_neg (by intro h;exact hb (List.map_eq_nil_iff.1 h))]
theorem rapp_p (seg:Int) (l:List SegA) (bs:List BatM):rappA seg l (bs.map BatM.p)=rappA seg l bs:=by
 obtain ⟨h1,h2⟩:=place_p bs (nextL l)
 unfold rappA
 rw [h1,flat_eq_p h2,addLast_p h2,add_p h2]
 by_cases hb:bs=[]
 ·subst hb;rfl
 ·rw [if_neg hb,if_neg (by intro h;exact hb (List.map_eq_nil_iff.1 h))]
theorem aw_open:lopenA aP aD0=(0,[],aD0):=by kernel_rfl
theorem aw_1:aS1.1=(0,0):=by kernel_rfl
theorem aw_2:aS2.1=(1,0):=by kernel_rfl
theorem aw_3:aS3.1=(2,0):=by kernel_rfl
theorem aw_segs:aS3.2.1.map SegA.base=[0,2]:=by kernel_rfl
theorem aw_l1:aS1.2.1.length=1∧aS1.2.1.map (fun s=>s.file.length)=[32]:=by constructor <;> kernel_rfl
theorem aw_l2:aS2.2.1.length=1∧aS2.2.1.map (fun s=>s.file.length)=[53]:=by constructor <;> kernel_rfl
theorem aw_l3:aS3.2.1.length=2:=by kernel_rfl
theorem aw_file:(fileD aS3.2.2.fs (ByteArray.mk #[112,45,48,48,48,48,48,48,48,48,48,48,48,46,108,111,103])).map (fun p=>(p.1.length,p.1[0]?,p.1[4]?))=some (53,some 3,some 83):=by kernel_rfl
structure Calm (D:DiskA):Prop where
 gone:D.gone=false
 left:D.left = -1
theorem done_calm {D:DiskA} (h:D.left = -1):doneA D=D:=by unfold doneA;rw [if_neg (by omega)]
theorem app_calm {D:DiskA} (h:Calm D) (n:ByteArray) (bs:List UInt8):Calm (appendA D n bs).2:=by
 unfold appendA
 split
 ·exact h
 split
 ·exact h
 split
 ·exact h
 ·show Calm (doneA _)
  rw [done_calm (by exact h.left)]
  exact ⟨h.gone,h.left⟩
theorem sync_calm {D:DiskA} (h:Calm D) (ns:List ByteArray):Calm (syncA D ns).2:=by
 unfold syncA
 split
 ·exact h
 split
 ·exact h
 ·show Calm (doneA _)
  rw [done_calm (by exact h.left)]
  exact ⟨h.gone,h.left⟩
theorem rem_calm {D:DiskA} (h:Calm D) (n:ByteArray):Calm (remA D n).2:=by
 unfold remA
 split
 ·exact h
 split
 ·exact h
 ·show Calm (doneA _)
  rw [done_calm (by exact h.left)]
  exact ⟨h.gone,h.left⟩
theorem lsync_calm {D:DiskA} (h:Calm D) (pre:ByteArray) (l:List SegA):Calm (lsyncA pre l D).2:=by
 unfold lsyncA
 split
 ·exact h
 ·exact sync_calm h _
theorem append_len {A:DiskA} {n:ByteArray} {bs:List UInt8}:(appendA A n bs).2.fs.length≤A.fs.length+1∧((fileD A.fs n).isSome=true→(appendA A n bs).2.fs.length=A.fs.length):=by
 unfold appendA
 split
 ·exact ⟨by show A.fs.length≤_;omega,fun _=>rfl⟩
 split
 ·exact ⟨by show A.fs.length≤_;omega,fun _=>rfl⟩
 split
 ·exact ⟨by show A.fs.length≤_;omega,fun _=>rfl⟩
 ·show (doneA _).fs.length≤_∧(_→(doneA _).fs.length=_)
  rw [doneA_fs]
  show (if hasF A.fs n=true then _ else _:List FileA).length≤_∧(_→(if hasF A.fs n=true then _ else _:List FileA).length=_)
  rw [← hasF_fileD]
  split
  ·rw [List.length_map];exact ⟨by omega,fun _=>rfl⟩
  ·rename_i h
   rw [(insF_perm _ _).length_eq]
   exact ⟨by simp,fun h2=>absurd h2 h⟩
structure Cpl (pre:ByteArray) (l:List SegA) (D:DiskA):Prop where
 ok:okA D
 segs:SegsOk 0 l
 has:HasL pre l D
 only:∀ n,(fileD D.fs n).isSome=true→(bl (dashN pre)).isPrefixOf (bl n)=true→∃ s ∈ l,n=nameS pre s.base logX
def sumF (l:List SegA):Nat:=(l.map fun s=>s.file.length).sum
theorem sumF_snoc (l:List SegA) (s:SegA):sumF (l++[s])=sumF l+s.file.length:=by simp [sumF]
theorem name_ne {pre:ByteArray} {s t:SegA} (hs:SegOk s) (ht:SegOk t) (h:s.base≠t.base):nameS pre s.base logX≠nameS pre t.base logX:=fun e=>by
 have h1:=hs.base
 have h2:=ht.base
 exact h (nameS_inj (by omega) (by omega) e).1
theorem name_ok {pre:ByteArray} (hp:preS pre=true) (base:Int):nameF (nameS pre base logX)=true:=nameF_nameS hp base rfl (by decide)
structure Fr (pre:ByteArray) (D D':DiskA):Prop where
 room:D'.room=D.room
 other:∀ m,(bl (dashN pre)).isPrefixOf (bl m)=false→fileD D'.fs m=fileD D.fs m
theorem Fr.refl (pre:ByteArray) (D:DiskA):Fr pre D D:=⟨rfl,fun _ _=>rfl⟩
theorem Fr.trans {pre:ByteArray} {D D' D'':DiskA} (h1:Fr pre D D') (h2:Fr pre D' D''):Fr pre D D'':=⟨h2.room.trans h1.room,fun m hm=>(h2.other m hm).trans (h1.other m hm)⟩
theorem sync_all {D:DiskA} (hok:okA D) (n:ByteArray):okA (syncA D [n]).2∧(syncA D [n]).2.room=D.room∧used (syncA D [n]).2.fs=used D.fs∧(syncA D [n]).2.fs.length=D.fs.length ∧
  ∀ m,fileD (syncA D [n]).2.fs m=fileD D.fs m∨(m=n∧(syncA D [n]).1=0∧fileD (syncA D [n]).2.fs m=(fileD D.fs m).map fun p=>(p.1,p.1.length)):=by
 by_cases h:(syncA D [n]).1=0
 ·obtain ⟨-,h1,h2,h3,h4,h5⟩:=sync_ok hok h
  refine ⟨h1,h2,h3,h4,fun m=>?_⟩
  by_cases hm:n=m
  ·subst hm
   refine .inr ⟨rfl,h,?_⟩
   rw [h5]
   simp
  ·refine .inl ?_
   rw [h5]
   simp [hm]
 ·rcases sync_one (A:=D) (n:=n) with ⟨h1,-,-,-⟩|⟨-,-,h4⟩|⟨-,-,-,h4⟩
  ·exact absurd h1 h
  ·rw [h4];exact ⟨hok,rfl,rfl,rfl,fun m=>.inl rfl⟩
  ·rw [h4];exact ⟨hok,rfl,rfl,rfl,fun m=>.inl rfl⟩
theorem Cpl.same {pre:ByteArray} {l:List SegA} {D D':DiskA} (h:Cpl pre l D) (hok:okA D') (hf:∀ m,(bl (dashN pre)).isPrefixOf (bl m)=true→(fileD D'.fs m).map Prod.fst=(fileD D.fs m).map Prod.fst):Cpl pre l D':=by
 refine ⟨hok,h.segs,fun s hs=>?_,fun n hn hp=>?_⟩
 ·obtain ⟨k,hk⟩:=h.has s hs
  have:=hf _ (pre_nameS pre s.base logX)
  rw [hk] at this
  cases hq:fileD D'.fs (nameS pre s.base logX) with
  | none=>rw [hq] at this;cases this
  | some q =>
   rw [hq] at this
   simp only [Option.map_some,Option.some.injEq] at this
   exact ⟨q.2,by rw [← this]⟩
 ·refine h.only n ?_ hp
  have:=hf n hp
  cases hq:fileD D.fs n with
  | none =>
   rw [hq] at this
   cases hq2:fileD D'.fs n with
   | none=>rw [hq2] at hn;cases hn
   | some q=>rw [hq2] at this;cases this
  | some q=>rfl
theorem lsync_all {pre:ByteArray} {l:List SegA} {D:DiskA} (h:Cpl pre l D):Cpl pre l (lsyncA pre l D).2∧Fr pre D (lsyncA pre l D).2∧used (lsyncA pre l D).2.fs=used D.fs∧(lsyncA pre l D).2.fs.length=D.fs.length∧(Calm D→(lsyncA pre l D).1=0):=by
 unfold lsyncA
 cases hl:l.getLast? with
 | none=>exact ⟨h,.refl _ _,rfl,rfl,fun _=>rfl⟩
 | some s =>
  simp only
  obtain ⟨h1,h2,h3,h4,h5⟩:=sync_all h.ok (nameS pre s.base logX)
  refine ⟨h.same h1 fun m hm=>?_,⟨h2,fun m hm=>?_⟩,h3,h4,fun hc=>?_⟩
  ·rcases h5 m with h6|⟨-,-,h6⟩
   ·rw [h6]
   ·rw [h6,Option.map_map];rfl
  ·rcases h5 m with h6|⟨h6,-,-⟩
   ·exact h6
   ·rw [h6,pre_nameS] at hm;cases hm
  ·rcases sync_one (A:=D) (n:=nameS pre s.base logX) with ⟨h6,-,-,-⟩|⟨-,h6,-⟩|⟨-,-,h6,-⟩
   ·exact h6
   ·rw [hc.gone] at h6;cases h6
   ·obtain ⟨k,hk⟩:=h.has s (List.mem_of_getLast? hl)
    rw [hk] at h6;cases h6
theorem Cpl.grow {pre:ByteArray} {l0:List SegA} {s s':SegA} {D:DiskA} {x:List UInt8} (hp:preS pre=true) (h:Cpl pre (l0++[s]) D) (hsegs:SegsOk 0 (l0++[s'])) (hb:s'.base=s.base) (hx:s'.file=s.file++x) (ha:(appendA D (nameS pre s.base logX) x).1=0) :
  Cpl pre (l0++[s']) (appendA D (nameS pre s.base logX) x).2∧Fr pre D (appendA D (nameS pre s.base logX) x).2∧used (appendA D (nameS pre s.base logX) x).2.fs+sumF (l0++[s])=used D.fs+sumF (l0++[s'])∧(appendA D (nameS pre s.base logX) x).2.fs.length=D.fs.length:=by
 obtain ⟨h1,h2,h3,h4,h5,h6,h7⟩:=append_ok h.ok ha
 obtain ⟨k,hk⟩:=h.has s (by simp)
 obtain ⟨f1,f2,f3,f4⟩:=h.segs.front
 refine ⟨⟨h4,hsegs,fun t ht=>?_,fun n hn hpn=>?_⟩,⟨h5,fun m hm=>?_⟩,?_,(append_len.2 (by rw [hk];rfl))⟩
 ·rcases List.mem_append.1 ht with ht|ht
  ·have hto:=(f1.mem t ht).1
   have hne:nameS pre t.base logX≠nameS pre s.base logX:=name_ne hto f2 (by have:=(f4 t ht).2;omega)
   rw [h7,if_neg hne]
   exact h.has t (by simp [ht])
  ·simp only [List.mem_cons,List.not_mem_nil,or_false] at ht
   subst ht
   rw [hb,h7,if_pos rfl,hk,hx]
   exact ⟨k,rfl⟩
 ·rw [h7] at hn
  by_cases hm:n=nameS pre s.base logX
  ·exact ⟨s',by simp,by rw [hb];exact hm⟩
  ·rw [if_neg hm] at hn
   obtain ⟨t,ht,rfl⟩:=h.only n hn hpn
   rcases List.mem_append.1 ht with ht|ht
   ·exact ⟨t,by simp [ht],rfl⟩
   ·simp only [List.mem_cons,List.not_mem_nil,or_false] at ht
    subst ht
    exact absurd rfl hm
 ·rw [h7,if_neg]
  rintro rfl
  rw [pre_nameS] at hm;cases hm
 ·rw [h6,sumF_snoc,sumF_snoc,hx,List.length_append];omega
theorem Cpl.begin {pre:ByteArray} {l:List SegA} {s:SegA} {D:DiskA} (h:Cpl pre l D) (hsegs:SegsOk 0 (l++[s])) (ha:(appendA D (nameS pre s.base logX) s.file).1=0) :
  Cpl pre (l++[s]) (appendA D (nameS pre s.base logX) s.file).2∧Fr pre D (appendA D (nameS pre s.base logX) s.file).2∧used (appendA D (nameS pre s.base logX) s.file).2.fs+sumF l=used D.fs+sumF (l++[s])∧(appendA D (nameS pre s.base logX) s.file).2.fs.length≤D.fs.length+1:=by
 obtain ⟨h1,h2,h3,h4,h5,h6,h7⟩:=append_ok h.ok ha
 obtain ⟨f1,f2,f3,f4⟩:=hsegs.front
 have hnone:fileD D.fs (nameS pre s.base logX)=none:=by
  cases hq:fileD D.fs (nameS pre s.base logX) with
  | none=>rfl
  | some q =>
   obtain ⟨t,ht,e⟩:=h.only _ (by rw [hq];rfl) (pre_nameS pre s.base logX)
   exact absurd e (name_ne f2 (f1.mem t ht).1 (by have:=(f4 t ht).2;omega))
 refine ⟨⟨h4,hsegs,fun t ht=>?_,fun n hn hpn=>?_⟩,⟨h5,fun m hm=>?_⟩,?_,append_len.1⟩
 ·rcases List.mem_append.1 ht with ht|ht
  ·have hto:=(f1.mem t ht).1
   have hne:nameS pre t.base logX≠nameS pre s.base logX:=name_ne hto f2 (by have:=(f4 t ht).2;omega)
   rw [h7,if_neg hne]
   exact h.has t ht
  ·simp only [List.mem_cons,List.not_mem_nil,or_false] at ht
   subst ht
   rw [h7,if_pos rfl,hnone]
   exact ⟨0,rfl⟩
 ·rw [h7] at hn
  by_cases hm:n=nameS pre s.base logX
  ·exact ⟨s,by simp,hm⟩
  ·rw [if_neg hm] at hn
   obtain ⟨t,ht,rfl⟩:=h.only n hn hpn
   exact ⟨t,by simp [ht],rfl⟩
 ·rw [h7,if_neg]
  rintro rfl
  rw [pre_nameS] at hm;cases hm
 ·rw [h6,sumF_snoc];omega
def Stp (pre:ByteArray) (l:List SegA) (D:DiskA) (l':List SegA) (D':DiskA):Prop :=
 Cpl pre l' D'∧Fr pre D D'∧used D'.fs+sumF l=used D.fs+sumF l'∧D'.fs.length+l.length≤D.fs.length+l'.length∧(Calm D→Calm D')
theorem Stp.same {pre:ByteArray} {l:List SegA} {D:DiskA} (h:Cpl pre l D):Stp pre l D l D:=⟨h,.refl _ _,rfl,Nat.le_refl _,id⟩
theorem Stp.trans {pre:ByteArray} {l l' l'':List SegA} {D D' D'':DiskA} (h1:Stp pre l D l' D') (h2:Stp pre l' D' l'' D''):Stp pre l D l'' D'' :=
 ⟨h2.1,h1.2.1.trans h2.2.1,by have:=h1.2.2.1;have:=h2.2.2.1;omega,by have:=h1.2.2.2.1;have:=h2.2.2.2.1;omega,fun h=>h2.2.2.2.2 (h1.2.2.2.2 h)⟩
theorem lsync_stp {pre:ByteArray} {l:List SegA} {D:DiskA} (h:Cpl pre l D):Stp pre l D l (lsyncA pre l D).2:=by
 obtain ⟨h1,h2,h3,h4,-⟩:=lsync_all h
 exact ⟨h1,h2,by omega,by omega,fun hc=>lsync_calm hc _ _⟩
theorem shL_file (n:Int) (bs:List BatM):(SegA.add ⟨n,0,[]⟩ bs).file=shL n 0++bs.flatMap frL:=by
 rw [file_add];simp [SegA.file]
theorem lapp_stp {pre:ByteArray} (seg:Int) {l:List SegA} {D:DiskA} (bs:List BatM) (hp:preS pre=true) (h:Cpl pre l D):Stp pre l D (lappA pre seg l D bs).2.1 (lappA pre seg l D bs).2.2:=by
 have hsegs:=rapp_segs (seg:=seg) (bs:=bs) h.segs
 unfold lappA
 unfold rappA at hsegs
 split
 ·exact .same h
 rename_i hb
 rw [if_neg hb] at hsegs
 split
 ·exact .same h
 rename_i hpl
 rw [if_neg hpl] at hsegs
 simp only at hsegs
 split
 ·rename_i hr
  rw [if_pos hr] at hsegs
  have hne:l≠[]:=by rintro rfl;cases hr
  obtain ⟨l0,s,rfl⟩:=snoc_of hne
  rw [baseL_snoc]
  rw [addLast_snoc] at hsegs
  split
  ·rename_i he
   simp only
   rw [append_err he]
   exact .same h
  ·rename_i he
   have he:=Decidable.not_not.1 he
   simp only
   rw [addLast_snoc]
   obtain ⟨c1,c2,c3,c4⟩:=h.grow hp hsegs rfl (file_add _ _) he
   exact ⟨c1,c2,c3,by rw [List.length_append,List.length_append];simp;omega,fun hc=>app_calm hc _ _⟩
 ·rename_i hr
  rw [if_neg hr] at hsegs
  have hst:=lsync_stp h
  split
  ·exact hst
  split
  ·rename_i he
   simp only
   rw [append_err he]
   exact hst
  ·rename_i he
   have he:=Decidable.not_not.1 he
   simp only
   rw [← shL_file] at he ⊢
   obtain ⟨c1,c2,c3,c4⟩:=hst.1.begin (s:=SegA.add ⟨nextL l,0,[]⟩ (placeL (nextL l) bs).2) hsegs he
   refine hst.trans ⟨c1,c2,c3,?_,fun hc=>app_calm hc _ _⟩
   rw [List.length_append,List.length_singleton]
   have c4:(appendA (lsyncA pre l D).2 (nameS pre (nextL l) logX) _).2.fs.length≤_:=c4
   omega
theorem sorted_eq:∀ {xs ys:List ByteArray},xs.Pairwise (fun a b=>ltS a b=true)→ys.Pairwise (fun a b=>ltS a b=true)→(∀ n,n ∈ xs↔n ∈ ys)→xs=ys
 | [],[],_,_,_=>rfl
 | [],y::ys,_,_,h=>absurd ((h y).2 (List.mem_cons_self ..)) (by simp)
 | x::xs,[],_,_,h=>absurd ((h x).1 (List.mem_cons_self ..)) (by simp)
 | x::xs,y::ys,hx,hy,h=>by
  rw [List.pairwise_cons] at hx hy
  have hxy:x=y:=by
   rcases List.mem_cons.1 ((h x).1 (List.mem_cons_self ..)) with h1|h1
   ·exact h1
   ·rcases List.mem_cons.1 ((h y).2 (List.mem_cons_self ..)) with h2|h2
    ·exact h2.symm
    ·have h3:=hy.1 x h1
     have h4:=hx.1 y h2
     rw [ltS_asymm h3] at h4
     cases h4
  subst hxy
  congr 1
  refine sorted_eq hx.2 hy.2 fun n=>?_
  constructor
  ·intro hn
   rcases List.mem_cons.1 ((h n).1 (List.mem_cons_of_mem _ hn)) with h1|h1
   ·subst h1
    have:=hx.1 n hn
    rw [ltS_irrefl] at this;cases this
   ·exact h1
  ·intro hn
   rcases List.mem_cons.1 ((h n).2 (List.mem_cons_of_mem _ hn)) with h1|h1
   ·subst h1
    have:=hy.1 n hn
    rw [ltS_irrefl] at this;cases this
   ·exact h1
theorem preF_bl (p s:ByteArray):Go.Proofs.YtfnldnodhfkojaaGreat.preF p s=(bl p).isPrefixOf (bl s):=by
 unfold Go.Proofs.YtfnldnodhfkojaaGreat.preF
 rw [ByteArray.toList_eq,ByteArray.toList_eq]
theorem mem_names {D:DiskA} {pre n:ByteArray}:n ∈ namesF (dashN pre) D.fs↔(fileD D.fs n).isSome=true∧(bl (dashN pre)).isPrefixOf (bl n)=true:=by
 unfold namesF
 rw [List.mem_filter,← hasF_fileD,hasF_iff,preF_bl]
 constructor
 ·rintro ⟨h1,h2⟩
  obtain ⟨f,hf,rfl⟩:=List.mem_map.1 h1
  exact ⟨⟨f,hf,rfl⟩,h2⟩
 ·rintro ⟨⟨f,hf,rfl⟩,h2⟩
  exact ⟨List.mem_map.2 ⟨f,hf,rfl⟩,h2⟩
theorem names_sorted {D:DiskA} (hok:okA D) (p:ByteArray):(namesF p D.fs).Pairwise fun a b=>ltS a b=true:=by
 unfold namesF
 exact ((List.pairwise_map.2 hok.sorted).filter _)
theorem segs_sorted (pre:ByteArray):∀ {n:Int} {l:List SegA},SegsOk n l→(l.map fun s=>nameS pre s.base logX).Pairwise fun a b=>ltS a b=true
 | _,[],_=>List.Pairwise.nil
 | n,s::l,⟨h1,h2,h3⟩=>by
  rw [List.map_cons,List.pairwise_cons]
  refine ⟨fun m hm=>?_,segs_sorted pre h3⟩
  obtain ⟨t,ht,rfl⟩:=List.mem_map.1 hm
  have h4:=h3.mem t ht
  have:=h2.base
  have:=h4.1.base
  exact (ltS_nameS pre (by omega) (by omega) logX).2 (by omega)
theorem Cpl.names {pre:ByteArray} {l:List SegA} {D:DiskA} (h:Cpl pre l D):namesF (dashN pre) D.fs=l.map fun s=>nameS pre s.base logX:=by
 refine sorted_eq (names_sorted h.ok _) (segs_sorted pre h.segs) fun n=>?_
 rw [mem_names]
 constructor
 ·rintro ⟨h1,h2⟩
  obtain ⟨s,hs,rfl⟩:=h.only n h1 h2
  exact List.mem_map.2 ⟨s,hs,rfl⟩
 ·intro hn
  obtain ⟨s,hs,rfl⟩:=List.mem_map.1 hn
  obtain ⟨k,hk⟩:=h.has s hs
  exact ⟨by rw [hk];rfl,pre_nameS pre s.base logX⟩
theorem files_segs (pre:ByteArray) (D:DiskA):∀ {l:List SegA},(∀ s ∈ l,SegOk s)→filesL pre (l.map fun s=>nameS pre s.base logX) D=(0,l.map SegA.base,D)
 | [],_=>rfl
 | s::l,h=>by
  have hb:=(h s (List.mem_cons_self ..)).base
  have h1:baseN pre (nameS pre s.base logX) logX=some s.base.toNat:=baseN_nameS pre (by omega) logX
  have h2:baseN pre (nameS pre s.base logX) newX=none:=baseN_end h1 (by decide)
  rw [List.map_cons]
  unfold filesL
  rw [h2]
  rw [if_neg (by rintro ⟨h3,-⟩;cases h3)]
  simp only [Option.isSome_none,Bool.false_eq_true,if_false]
  rw [files_segs pre D fun t ht=>h t (List.mem_cons_of_mem _ ht),h1]
  simp only [List.map_cons]
  have e:((s.base.toNat:Nat):Int)=s.base:=by omega
  rw [e]
  rfl
theorem openS_segs {pre:ByteArray} {D:DiskA}:∀ {l l1:List SegA},SegsOk 0 (l1++l)→(∀ s ∈ l,∃ k,fileD D.fs (nameS pre s.base logX)=some (s.file,k))→openS pre (l.map SegA.base) l1 D=(0,l1++l,D)
 | [],l1,_,_=>by unfold openS;simp
 | s::l,l1,hok,hh=>by
  rw [List.map_cons]
  unfold openS
  have hok2:SegsOk 0 ((l1++[s])++l):=by rwa [List.append_assoc]
  have hs:SegOk s:=(hok.mem s (by simp)).1
  obtain ⟨k,hk⟩:=hh s (List.mem_cons_self ..)
  have hb:¬ s.base<nextL l1:=by
   have:=hs.base
   by_cases h0:l1=[]
   ·subst h0;show ¬ s.base<0;omega
   ·obtain ⟨l0,t,rfl⟩:=snoc_of h0
    rw [nextL_snoc]
    have h1:=hok.skip l0.length (l0.length+1) (by simp) (by omega)
    have e1:(l0++[t]++s::l)[l0.length]'(by simp)=t:=by simp
    have e2:(l0++[t]++s::l)[l0.length+1]'(by simp)=s:=by
     rw [List.getElem_append_right (by simp)];simp
    rw [e1,e2] at h1
    omega
  have hsc:scanA pre l1 D s.base=((true,0),l1++[s],D):=by
   unfold scanA
   rw [hk]
   simp only
   rw [scan_file hs]
   simp only
   rw [if_pos trivial]
  rw [if_neg hb,hsc,if_neg (by simp),if_pos rfl]
  simp only
  rw [openS_segs hok2 fun t ht=>hh t (List.mem_cons_of_mem _ ht),List.append_assoc]
  rfl
theorem Cpl.opened {pre:ByteArray} {l:List SegA} {D:DiskA} (h:Cpl pre l D):lopenA pre D=(0,l,D):=by
 unfold lopenA
 rw [h.names,files_segs pre D fun s hs=>(h.segs.mem s hs).1]
 rw [if_neg (by simp)]
 simp only
 have:=openS_segs (pre:=pre) (D:=D) (l:=l) (l1:=[]) h.segs h.has
 rw [this]
 rfl
theorem Cpl.frame {pre q:ByteArray} {l:List SegA} {D D':DiskA} (h:Cpl q l D) (hok:okA D') (hp:preS pre=true) (hq:preS q=true) (hne:pre≠q) (hf:Fr pre D D'):Cpl q l D' :=
 h.same hok fun m hm=>by
  rw [hf.other m ?_]
  cases hx:(bl (dashN pre)).isPrefixOf (bl m) with
  | false=>rfl
  | true=>exact absurd (dash_two hp hq hx hm) hne
theorem cpl_empty (pre:ByteArray) (n:Nat) (hn:n≤4194304):Cpl pre [] ⟨n,-1,false,[]⟩ :=
 ⟨⟨hn,by show (0:Nat)≤_;omega,by show (0:Nat)≤_;omega,by show -1≤(-1:Int)∧(-1:Int)≤_;omega,List.Pairwise.nil,(fun f h=>by cases h),fun f h=>by cases h⟩,trivial,(fun s h=>by cases h),fun n h=>by cases h⟩
section
variable {w:World} {l r:List HP} {b:BatM}
theorem out_c (n lo hi:Int) (hs:Sat w l):Ret P F.a115 #[.int .i64 n,.int .i64 lo,.int .i64 hi] w fun vs w'=>vs=[.bool (!decide (lo≤n∧n≤hi))]∧Sat w' l :=
 zf124_calls n lo hi <| by
  unfold zf124
  refine wp_lt ?_
  refine ⟨rfl,?_,hs⟩
  congr 2
  rw [Bool.eq_iff_iff]
  simp only [Bool.or_eq_true,decide_eq_true_eq,Bool.not_eq_true',decide_eq_false_iff_not]
  omega
theorem dspan_c (b:BatM) [hb:FocR l b.x 4 (b.rs.flatMap encR)] (hs:Sat w l):Ret P F.a113 #[.agg (encB7 b).toArray] w fun vs w'=>vs=[.int .i64 (spanB b)]∧Sat w' l :=
 zf122_calls b.base b.pid b.epoch b.seq b.kind b.time b.x <| by
  unfold zf122 spanB
  have hl:=hs.slen b.x (xs:=b.rs) (enc:=encR)
  refine wp_boxO hs fun a0 w' hs=>?_
  refine wp_ldG hs ?_
  refine wp_call (dmark_c b hs) fun _ _ hs=>?_
  obtain ⟨rfl,hs⟩:=hs
  refine ret_of ?_
  refine wp_if (fun h=>?_) fun h=>?_
  ·rw [if_pos h];exact ⟨rfl,rfl,hs.tail⟩
  ·rw [if_neg h]
   refine wp_ldO hs ?_
   refine wp_lt ?_
   rw [hl]
   exact ⟨rfl,rfl,hs.tail⟩
theorem dvalid_c (b:BatM) [hb:FocR l b.x 4 (b.rs.flatMap encR)] (hs:Sat w l):Ret P F.a114 #[.agg (encB7 b).toArray] w fun vs w'=>vs=[.int .i64 (validB b)]∧Sat w' l :=
 zf123_calls b.base b.pid b.epoch b.seq b.kind b.time b.x <| by
  unfold zf123 validB
  have hl:=hs.slen b.x (xs:=b.rs) (enc:=encR)
  refine wp_boxO hs fun a0 w' hs=>?_
  refine wp_mid (fun v w'=>v=(decide (¬ numsB b),())∧Sat w' (pt a0 (.cells #[.int .i64 b.base,.int .i64 b.pid,.int .i64 b.epoch,.int .i64 b.seq,.int .i64 b.kind,.int .i64 b.time,.slice b.x.a b.x.len b.x.cap] T.a1)::l)) ?_ ?_
  ·have hno:∀ {w'},¬ numsB b→Sat w' (pt a0 (.cells #[.int .i64 b.base,.int .i64 b.pid,.int .i64 b.epoch,.int .i64 b.seq,.int .i64 b.kind,.int .i64 b.time,.slice b.x.a b.x.len b.x.cap] T.a1)::l)→((true,()):Bool × Unit)=(decide (¬ numsB b),())∧Sat w' (pt a0 (.cells #[.int .i64 b.base,.int .i64 b.pid,.int .i64 b.epoch,.int .i64 b.seq,.int .i64 b.kind,.int .i64 b.time,.slice b.x.a b.x.len b.x.cap] T.a1)::l):=fun h hs=>⟨by rw [decide_eq_true h],hs⟩
   refine wp_ldO hs ?_
   refine wp_call (out_c b.kind 0 3 hs) fun _ _ hs=>?_
   obtain ⟨rfl,hs⟩:=hs
   refine ret_of ?_
   refine wp_ldO hs ?_
   refine wp_if (fun h1=>?_) fun h1=>?_
   ·exact wp_lv (hno (fun h=>h1 h.1) hs)
   refine wp_call (out_c b.base 0 1099511627776 hs) fun _ _ hs=>?_
   obtain ⟨rfl,hs⟩:=hs
   refine ret_of ?_
   refine wp_ldO hs ?_
   refine wp_if (fun h2=>?_) fun h2=>?_
   ·exact wp_lv (hno (fun h=>h2 h.2.1) hs)
   refine wp_call (out_c b.pid 0 1048576 hs) fun _ _ hs=>?_
   obtain ⟨rfl,hs⟩:=hs
   refine ret_of ?_
   refine wp_ldO hs ?_
   refine wp_if (fun h3=>?_) fun h3=>?_
   ·exact wp_lv (hno (fun h=>h3 h.2.2.1) hs)
   refine wp_call (out_c b.epoch 0 32767 hs) fun _ _ hs=>?_
   obtain ⟨rfl,hs⟩:=hs
   refine ret_of ?_
   refine wp_ldO hs ?_
   refine wp_if (fun h4=>?_) fun h4=>?_
   ·exact wp_lv (hno (fun h=>h4 h.2.2.2.1) hs)
   refine wp_call (out_c b.seq 0 2147483647 hs) fun _ _ hs=>?_
   obtain ⟨rfl,hs⟩:=hs
   refine ret_of ?_
   refine wp_ldO hs ?_
   refine wp_if (fun h5=>?_) fun h5=>?_
   ·exact wp_lv (hno (fun h=>h5 h.2.2.2.2.1) hs)
   refine wp_call (out_c b.time 0 1099511627776 hs) fun _ _ hs=>?_
   obtain ⟨rfl,hs⟩:=hs
   refine ret_of ?_
   refine wp_lv ⟨?_,hs⟩
   have:numsB b↔(0≤b.time∧b.time≤1099511627776):=⟨fun h=>h.2.2.2.2.2,fun h=>⟨Decidable.not_not.1 h1,Decidable.not_not.1 h2,Decidable.not_not.1 h3,Decidable.not_not.1 h4,Decidable.not_not.1 h5,h⟩⟩
   rw [decide_not,decide_eq_decide.2 this]
  clear hs
  rintro _ w ⟨rfl,hs⟩
  refine wp_on ?_
  refine wp_if (fun h1=>?_) fun h1=>?_
  ·rw [if_pos (.inl h1)];exact ⟨rfl,rfl,hs.tail⟩
  have hnum:numsB b:=Decidable.not_not.1 h1
  refine wp_ldO hs ?_
  refine wp_ldO hs ?_
  refine wp_ldO hs ?_
  refine wp_ldO hs ?_
  refine wp_if (fun h2=>?_) fun h2=>?_
  ·rw [if_pos (.inr fun h=>h.1 ⟨h2.1,or_assoc.1 h2.2⟩)];exact ⟨rfl,rfl,hs.tail⟩
  have h2:¬ (b.pid=0∧(b.kind≠0∨b.epoch≠0∨b.seq≠0)):=fun h=>h2 ⟨h.1,or_assoc.2 h.2⟩
  refine wp_mid (fun v w'=>v=(decide (¬ fitsB b),())∧Sat w' (pt a0 (.cells #[.int .i64 b.base,.int .i64 b.pid,.int .i64 b.epoch,.int .i64 b.seq,.int .i64 b.kind,.int .i64 b.time,.slice b.x.a b.x.len b.x.cap] T.a1)::l)) ?_ ?_
  ·refine wp_tk hs fun w' hs=>?_
   refine wp_ldG hs ?_
   refine wp_hdO hs ?_
   refine wp_call (dmark_c b hs) fun _ w' hs=>?_
   obtain ⟨rfl,hs⟩:=hs
   refine ret_of ?_ ⟨trivial,fun _=>run_ldO hs⟩
   refine wp_ldG hs ?_
   refine wp_untick ?_
   refine wp_if (fun h3=>?_) fun h3=>?_
   ·refine wp_untick ?_
    refine wp_lv ⟨?_,hs⟩
    rw [decide_eq_true]
    rintro ⟨-,h4⟩
    apply h3
    rw [Bool.eq_iff_iff,beq_iff_eq,hl]
    by_cases hm:markB b=true
    ·rw [if_pos hm] at h4;simp [hm,h4.2]
    ·rw [if_neg hm] at h4;simp [hm];intro h5;rw [h5] at h4;simp at h4
   have h3:markB b=true↔b.rs.length=0:=by
    have:=Decidable.not_not.1 h3
    rw [Bool.eq_iff_iff,beq_iff_eq,hl] at this
    rw [this];omega
   refine wp_call (dmark_c b hs) fun _ _ hs=>?_
   obtain ⟨rfl,hs⟩:=hs
   refine ret_of ?_
   refine wp_ldO hs ?_
   refine wp_untick ?_
   refine wp_lv ⟨?_,hs⟩
   have:¬ fitsB b↔(markB b=true∧b.seq≠0):=by
    unfold fitsB
    by_cases hm:markB b=true
    ·rw [if_pos hm]
     have:=h3.1 hm
     constructor
     ·exact fun h=>⟨hm,fun h5=>h ⟨h2,h5,this⟩⟩
     ·exact fun h h5=>h.2 h5.2.1
    ·rw [if_neg hm]
     have:0<b.rs.length:=Nat.pos_of_ne_zero fun h=>hm (h3.2 h)
     constructor
     ·exact fun h=>absurd ⟨h2,this⟩ h
     ·exact fun h=>absurd h.1 hm
   rw [decide_eq_decide.2 this,Bool.decide_and]
   cases markB b <;> simp [bne]
   rfl
  clear hs
  rintro _ w ⟨rfl,hs⟩
  refine wp_on ?_
  refine wp_if (fun h3=>?_) fun h3=>?_
  ·rw [if_pos (.inr h3)];exact ⟨rfl,rfl,hs.tail⟩
  have hfit:fitsB b:=Decidable.not_not.1 h3
  rw [if_neg (fun h=>h.elim h1 h3)]
  refine wp_ldO hs ?_
  refine wp_if (fun h4=>?_) fun h4=>?_
  ·rw [if_pos (by omega)];exact ⟨rfl,rfl,hs.tail⟩
  rw [if_neg (by omega)]
  refine wp_ldO hs ?_
  refine wp_mid (fun v w'=>badF b.rs=0∧Sat w' (pt a0 (.cells #[.int .i64 b.base,.int .i64 b.pid,.int .i64 b.epoch,.int .i64 b.seq,.int .i64 b.kind,.int .i64 b.time,.slice b.x.a b.x.len b.x.cap] T.a1)::l)) ?_ ?_
  ·refine wp_loop (fun k v w=>∃ i:Nat,v=((i:Int),())∧i≤b.rs.length∧b.rs.length-i=k∧badF (b.rs.take i)=0∧Sat w (pt a0 (.cells #[.int .i64 b.base,.int .i64 b.pid,.int .i64 b.epoch,.int .i64 b.seq,.int .i64 b.kind,.int .i64 b.time,.slice b.x.a b.x.len b.x.cap] T.a1)::l)) b.rs.length ⟨0,rfl,by omega,rfl,rfl,hs⟩ ?_
   clear hs
   rintro k _ w ⟨i,rfl,hi,hk,hbad,hs⟩
   refine wp_on ?_
   refine wp_if (fun hc=>?_) fun hc=>?_
   rotate_left
   ·refine wp_pass (wp_lv ⟨?_,hs⟩)
    rwa [List.take_of_length_le (by omega)] at hbad
   have hil:i<b.rs.length:=by omega
   have hbt:=badF_take b.rs i hil hbad
   have hbs':=badF_step b.rs i hil hbad
   refine wp_ixA hs i hil ?_
   refine wp_newO hs fun c w' hs=>?_
   refine wp_stG hs fun w' hs=>?_
   refine wp_ldO hs ?_
   refine wp_ldO hs ?_
   refine wp_if (fun h5=>?_) fun h5=>?_
   ·have e:recF b.rs[i]=7:=by unfold recF;rw [if_pos (by omega)]
    rw [e] at hbt
    have:=hbt (by decide)
    rw [if_pos (by rw [this];decide),this]
    refine wp_pass (wp_pass ?_)
    exact ⟨rfl,rfl,hs.tail.tail⟩
   refine wp_ldO hs ?_
   refine wp_call (out_c b.rs[i].time 0 1099511627776 hs) fun _ _ hs=>?_
   obtain ⟨rfl,hs⟩:=hs
   refine ret_of ?_
   refine wp_ldO hs ?_
   refine wp_ldO hs ?_
   refine wp_if (fun h6=>?_) fun h6=>?_
   ·have e:recF b.rs[i]=2:=by
     unfold recF
     rw [if_neg (by omega),if_pos]
     rcases h6 with h6|⟨h6,h7⟩
     ·exact .inl h6
     ·exact .inr ⟨h6,by omega⟩
    rw [e] at hbt
    have:=hbt (by decide)
    rw [if_pos (by rw [this];decide),this]
    refine wp_pass (wp_pass ?_)
    exact ⟨rfl,rfl,hs.tail.tail⟩
   ·have e:recF b.rs[i]=0:=by
     unfold recF
     rw [if_neg (by omega),if_neg]
     rintro (h7|⟨h7,h8⟩)
     ·exact h6 (.inl h7)
     ·exact h6 (.inr ⟨h7,by omega⟩)
    refine wp_dn (us':=[.int .i64 ((i+1:Nat):Int)]) (by (try simp (disch:=omega) only [w64]);first|rfl|(congr;omega)) ?_
    refine wp_lp (b.rs.length-(i+1)) ?_
    exact ⟨i+1,rfl,by omega,rfl,hbs' e,hs.sub⟩
  clear hs
  rintro _ w ⟨hbad,hs⟩
  refine wp_on ?_
  rw [if_neg (by rw [hbad];simp)]
  have hsp:1≤spanB b∧spanB b≤64:=by
   unfold spanB
   have h3:=hfit.2
   split
   ·omega
   ·rename_i hm
    rw [if_neg hm] at h3
    omega
  obtain ⟨-,hba,-,-,hse,-⟩:=hnum
  refine wp_tk hs fun w' hs=>?_
  refine wp_hdO hs ?_
  refine wp_ldG hs ?_
  refine wp_call (dspan_c b hs) fun _ w' hs=>?_
  obtain ⟨rfl,hs⟩:=hs
  refine ret_of ?_ ⟨trivial,fun _=>run_ldO hs⟩
  refine wp_untick ?_
  rw [w64 (x:=b.base+spanB b) (by omega) (by omega),w64 (x:=b.base+spanB b-1) (by omega) (by omega)]
  refine wp_if (fun h5=>?_) fun h5=>?_
  ·rw [if_pos (.inl (by omega))];exact ⟨rfl,rfl,hs.tail⟩
  refine wp_mid (fun v w'=>v=(decide (b.pid>0∧markB b=false∧b.seq>2147483647-(spanB b-1)),())∧Sat w' l) ?_ ?_
  ·refine wp_ldO hs ?_
   refine wp_ldG hs ?_
   refine wp_if (fun h6=>?_) fun h6=>?_
   rotate_left
   ·exact wp_lv ⟨by rw [decide_eq_false (fun h=>h6 h.1)],hs.tail⟩
   refine wp_call (dmark_c b hs) fun _ _ hs=>?_
   obtain ⟨rfl,hs⟩:=hs
   refine ret_of ?_
   refine wp_ldO hs ?_
   refine wp_ldO hs ?_
   rw [w64 (x:=b.seq+((b.x.len:Nat):Int)) (by omega) (by omega),w64 (x:=b.seq+((b.x.len:Nat):Int)-1) (by omega) (by omega)]
   refine wp_lv ⟨?_,hs.tail⟩
   have:(b.pid>0∧markB b=false∧b.seq>2147483647-(spanB b-1))↔(markB b=false∧b.seq+((b.x.len:Nat):Int)-1>2147483647):=by
    constructor
    ·rintro ⟨-,h7,h8⟩
     refine ⟨h7,?_⟩
     unfold spanB at h8
     rw [if_neg (by rw [h7];simp)] at h8
     omega
    ·rintro ⟨h7,h8⟩
     refine ⟨h6,h7,?_⟩
     unfold spanB
     rw [if_neg (by rw [h7];simp)]
     omega
   rw [decide_eq_decide.2 this,Bool.decide_and]
   cases markB b <;> rfl
  clear hs
  rintro _ w ⟨rfl,hs⟩
  refine wp_on ?_
  refine wp_if (fun h6=>?_) fun h6=>?_
  ·rw [if_pos (.inr h6)];exact ⟨rfl,rfl,hs⟩
  ·rw [if_neg (fun h=>h.elim (fun h=>h5 (by omega)) h6)];exact ⟨rfl,rfl,hs⟩
end
structure SegR where
 base:Int
 fin:Int
 x:Sl
 bs:List BatM
structure RefM where
 seg:Int
 gap:Int
 SR:List SegR
def SegR.p (s:SegR):SegA:=⟨s.base,s.fin,s.bs.map BatM.p⟩
def RefM.l (R:RefM):List SegA:=R.SR.map SegR.p
def RefM.bs (R:RefM):List BatM:=R.SR.flatMap SegR.bs
def encSR (s:SegR):List Value:=[.int .i64 s.base,.int .i64 s.fin,.slice s.x.a s.x.len s.x.cap]
instance:EncA encSR [.int .i64,.int .i64,.slc] (fun s=>(s.base,s.fin,s.x,())):=⟨fun _=>rfl⟩
instance:EncN encSR 3:=⟨fun _=>rfl,by decide,by simp [encSR,Value.oneCell']⟩
instance:EncF encSR 0 (.int .i64) (fun s=>s.base):=⟨fun _=>rfl⟩
def rsgP (s:SegR):HP:=slc T.a1 7 s.x (s.bs.flatMap encB7)
def rfQ (a:Nat) (z:Sl) (R:RefM):HP:=HP.star (pt a (.cells #[.int .i64 R.seg,.int .i64 R.gap,.slice z.a z.len z.cap] T.a32)) (HP.star (slc T.a33 3 z (R.SR.flatMap encSR)) (HP.all (R.SR.map rsgP)))
def rfP (a:Nat) (R:RefM):HP:=HP.ex fun z:Sl=>rfQ a z R
section
variable {w:World} {l r:List HP} {a:Nat} {R:RefM}
theorem rf_open (hs:Sat w (rfP a R::l)):∃ z:Sl,Sat w (pt a (.cells #[.int .i64 R.seg,.int .i64 R.gap,.slice z.a z.len z.cap] T.a32)::slc T.a33 3 z (R.SR.flatMap encSR)::HP.all (R.SR.map rsgP)::l):=by
 obtain ⟨z,hs⟩:=hs.ex
 have hs:=hs.star
 exact ⟨z,((hs.pick [1]).star).pick [2]⟩
theorem rf_close (R:RefM) {z:Sl} (hs:Sat w (pt a (.cells #[.int .i64 R.seg,.int .i64 R.gap,.slice z.a z.len z.cap] T.a32)::slc T.a33 3 z (R.SR.flatMap encSR)::HP.all (R.SR.map rsgP)::l)):Sat w (rfP a R::l) :=
 .ex_mk z (.star_mk (((hs.pick [1,1]).star_mk).pick [1]))
theorem rsg_rd {SR:List SegR} {s:SegR} (hm:s ∈ SR) [hf:Foc l (HP.all (SR.map rsgP)) r]:FocR l s.x 7 (s.bs.flatMap encB7):=⟨fun w hs=>by
 obtain ⟨L,hs⟩:=(hs.perm hf.perm).all_mem hm
 exact Sat.rd hs⟩
theorem allB_l:allB R.l=R.bs.map BatM.p:=by
 unfold allB RefM.l RefM.bs
 rw [List.flatMap_map,List.map_flatMap]
 rfl
theorem nextG_p (bs:List BatM):nextG (bs.map BatM.p)=nextG bs:=by
 unfold nextG
 rw [getLast_map]
 cases bs.getLast? <;> rfl
theorem reach_p (s:SegR):s.p.reach=max (max s.base s.fin) (nextG s.bs):=by
 unfold SegA.reach SegR.p
 simp only [nextG_p]
theorem rreach_c (s:SegR) [hx:FocR l s.x 7 (s.bs.flatMap encB7)] (hv:∀ b ∈ s.bs,validB b=0) (hbs:∀ b ∈ s.bs,FocR l b.x 4 (b.rs.flatMap encR)) (hb:s.bs.length≤1000000000) (hbf : -9223372036854775808≤s.base∧s.base<9223372036854775808) (hn0:s.bs=[]→0≤s.base) (hs:Sat w l) :
  Ret P F.a121 #[.agg (encSR s).toArray] w fun vs w'=>vs=[.int .i64 s.p.reach]∧Sat w' l :=
 zf130_calls s.base s.fin s.x <| by
  unfold zf130
  have hl:=hs.slen s.x (xs:=s.bs) (enc:=encB7)
  rw [reach_p]
  refine wp_boxO hs fun a0 w' hs=>?_
  refine wp_ldO hs ?_
  refine wp_lt ?_
  refine wp_ldO hs ?_
  refine wp_mid (fun q w'=>q=(max s.base s.fin,())∧Sat w' (pt a0 (.cells [.int .i64 s.base,.int .i64 s.fin,.slice s.x.a s.x.len s.x.cap].toArray T.a33)::l)) ?_ ?_
  ·refine wp_if (fun h=>?_) fun h=>?_
   ·refine wp_ldO hs ?_
    refine wp_lt ?_
    exact wp_lv ⟨by rw [Int.max_def,if_pos (by omega)],hs⟩
   ·have e:max s.base s.fin=s.base:=by omega
    exact wp_lv ⟨by rw [e],hs⟩
  clear hs
  rintro _ w2 ⟨rfl,hs⟩
  refine wp_ldO hs ?_
  refine wp_mid (fun q w'=>q=(max (max s.base s.fin) (nextG s.bs),())∧Sat w' l) ?_ ?_
  rotate_left
  ·rintro _ w3 ⟨rfl,hs⟩
   refine wp_lt ?_
   exact ⟨rfl,rfl,hs⟩
  refine wp_if (fun h=>?_) fun h=>?_
  rotate_left
  ·have h0:s.bs=[]:=List.length_eq_zero_iff.1 (by omega)
   refine wp_lv ⟨?_,hs.tail⟩
   have:=hn0 h0
   rw [h0]
   show (max s.base s.fin,())=(max (max s.base s.fin) 0,())
   congr 1;omega
  have hp:0<s.bs.length:=by omega
  have hil:s.bs.length-1<s.bs.length:=by omega
  have hnx:nextG s.bs=s.bs[s.bs.length-1].base+spanB s.bs[s.bs.length-1]:=by
   unfold nextG
   rw [List.getLast?_eq_getElem?,List.getElem?_eq_getElem hil]
  obtain ⟨s1,s2,⟨-,hba,-⟩,-,s3⟩:=span_le _ (hv _ (List.getElem_mem hil))
  have hR:=hbs _ (List.getElem_mem hil)
  refine wp_ldO hs ?_
  refine wp_ldO hs ?_
  rw [w64 (by omega) (by omega)]
  refine wp_ixA hs (xs:=s.bs) (enc:=encB7) (s.bs.length-1) hil ?_
  generalize s.bs[s.bs.length-1]=b at *
  refine wp_newO hs fun c w' hs=>?_
  refine wp_stG hs fun w' hs=>?_
  refine wp_tk hs fun w' hs=>?_
  refine wp_hdO hs ?_
  refine wp_ldG hs ?_
  refine wp_call (dspan_c b hs) fun _ w' hs=>?_
  obtain ⟨rfl,hs⟩:=hs
  refine ret_of ?_ (by first|trivial|(repeat (first|exact trivial|exact fun _=>run_ldO hs|exact fun _=>run_ldG hs|refine And.intro ?_ ?_)))
  refine wp_untick ?_
  rw [w64 (by omega) (by omega)]
  refine wp_bind ?_
  refine wp_if (fun h2=>?_) fun h2=>?_
  ·refine wp_tk hs fun w' hs=>?_
   refine wp_hdO hs ?_
   refine wp_ldG hs ?_
   refine wp_call (dspan_c b hs) fun _ w' hs=>?_
   obtain ⟨rfl,hs⟩:=hs
   refine ret_of ?_ (by first|trivial|(repeat (first|exact trivial|exact fun _=>run_ldO hs|exact fun _=>run_ldG hs|refine And.intro ?_ ?_)))
   rw [w64 (by omega) (by omega)]
   refine wp_lt ?_
   refine wp_untick ?_
   refine wp_go ?_
   refine wp_lv ⟨?_,hs.tail.tail⟩
   rw [hnx,Int.max_def (max s.base s.fin),if_pos (by omega)]
  ·refine wp_go ?_
   have e:max (max s.base s.fin) (nextG s.bs)=max s.base s.fin:=by omega
   exact wp_lv ⟨by rw [e],hs.tail.tail⟩
class okR (R:RefM) (l:List HP):Prop where
 segs:SegsOk 0 R.l
 rd:∀ b ∈ R.bs,FocR l b.x 4 (b.rs.flatMap encR)
 len:R.SR.length≤1000000
 all:R.bs.length≤1000000
theorem okR.valid {L:List HP} (h:okR R L):∀ s ∈ R.SR,SegOk s.p∧(∀ b ∈ s.bs,validB b=0∧FocR L b.x 4 (b.rs.flatMap encR))∧s.bs.length≤1000000:=fun s hs=>by
 have h1:=(h.segs.mem s.p (List.mem_map.2 ⟨s,hs,rfl⟩)).1
 refine ⟨h1,fun b hb=>⟨(h1.bs.valid b.p (List.mem_map.2 ⟨b,hb,rfl⟩)).1,h.rd b (List.mem_flatMap.2 ⟨s,hs,hb⟩)⟩,?_⟩
 refine Nat.le_trans ?_ h.all
 obtain ⟨u,v,huv⟩:=List.append_of_mem hs
 unfold RefM.bs
 rw [huv]
 simp only [List.flatMap_append,List.flatMap_cons,List.length_append]
 omega
instance okR.cons {H:HP} {L:List HP} [h:okR R L]:okR R (H::L):=⟨h.segs,fun b hb=>by have:=h.rd b hb;infer_instance,h.len,h.all⟩
theorem rall_c [hf:Fo l rfP a R r] [hok:okR R r] (hs:Sat w l):Ret P F.a117 #[.pointer (some ⟨a,0,none⟩)] w fun vs w'=>∃ y:Sl,vs=[y.v]∧Sat w' (slc T.a1 7 y (R.bs.flatMap encB7)::rfP a R::r) :=
 zf126_calls _ <| by
  unfold zf126
  obtain ⟨z,hs⟩:=rf_open (hs.perm hf.perm)
  have hl:=hs.slen z (xs:=R.SR) (enc:=encSR)
  have hln:=hok.len
  refine wp_nn ?_
  refine wp_ldO hs ?_
  refine wp_mid (fun q w'=>∃ y:Sl,q=(y,())∧Sat w' (slc T.a1 7 y (R.bs.flatMap encB7)::rfP a R::r)) ?_ ?_
  rotate_left
  ·rintro _ w2 ⟨y,rfl,hs⟩
   exact ⟨rfl,y,rfl,hs⟩
  refine wp_loop (fun m v w=>∃ (i:Nat) (y:Sl),v=(y,((i:Int),()))∧i≤R.SR.length∧R.SR.length-i=m∧Sat w (slc T.a1 7 y (((R.SR.take i).flatMap SegR.bs).flatMap encB7)::pt a (.cells #[.int .i64 R.seg,.int .i64 R.gap,.slice z.a z.len z.cap] T.a32)::slc T.a33 3 z (R.SR.flatMap encSR)::HP.all (R.SR.map rsgP)::r)) R.SR.length ⟨0,⟨none,0,0⟩,rfl,by omega,rfl,hs.slc_nil⟩ ?_
  clear hs
  rintro m _ w ⟨i,y,rfl,hi,hm,hs⟩
  refine wp_on ?_
  refine wp_if (fun hc=>?_) fun hc=>?_
  rotate_left
  ·refine wp_pass (wp_lv ⟨y,rfl,?_⟩)
   rw [List.take_of_length_le (by omega)] at hs
   exact (rf_close R (hs.pick [1,1,1])).pick [1]
  have hil:i<R.SR.length:=by omega
  refine wp_ixA hs (xs:=R.SR) (enc:=encSR) i hil ?_
  refine wp_newO hs fun c w' hs=>?_
  refine wp_stG hs fun w' hs=>?_
  refine wp_ldO hs ?_
  have hR:FocR (HP.all (R.SR.map rsgP)::r) R.SR[i].x 7 (R.SR[i].bs.flatMap encB7):=rsg_rd (List.getElem_mem hil)
  have hbl:((R.SR.take i).flatMap SegR.bs).length+R.SR[i].bs.length≤1000000:=by
   refine Nat.le_trans ?_ hok.all
   unfold RefM.bs
   have e:R.SR=R.SR.take i++R.SR[i]::R.SR.drop (i+1):=by rw [← List.drop_eq_getElem_cons hil,List.take_append_drop]
   have:=congrArg (fun x:List SegR=>(x.flatMap SegR.bs).length) e
   simp only [List.flatMap_append,List.flatMap_cons,List.length_append] at this
   omega
  refine wp_app' (xs:=(R.SR.take i).flatMap SegR.bs) (ys:=R.SR[i].bs) (enc:=encB7) hs fun y' w' hs=>?_
  rw [wS (i:=i) (by omega)]
  refine wp_lp (R.SR.length-(i+1)) ⟨i+1,y',rfl,by omega,rfl,?_⟩
  have e:(R.SR.take (i+1)).flatMap SegR.bs=(R.SR.take i).flatMap SegR.bs++R.SR[i].bs:=by
   rw [List.take_succ_eq_append_getElem hil,List.flatMap_append];simp
  rw [e]
  exact hs.sub
theorem p_fields {b c:BatM} (h:b.p=c.p):b.base=c.base∧b.pid=c.pid∧b.epoch=c.epoch∧b.seq=c.seq∧b.kind=c.kind∧b.time=c.time∧b.rs=c.rs:=by
 unfold BatM.p at h
 simp only [BatM.mk.injEq] at h
 exact ⟨h.1,h.2.1,h.2.2.1,h.2.2.2.1,h.2.2.2.2.1,h.2.2.2.2.2.1,h.2.2.2.2.2.2.2⟩
theorem dsame_c (b c:BatM) (h:b.p=c.p) [hb:FocR l b.x 4 (b.rs.flatMap encR)] [hc:FocR l c.x 4 (c.rs.flatMap encR)] (hlen:b.rs.length≤1000000000) (hs:Sat w l):Ret P F.a111 #[.agg (encB7 b).toArray,.agg (encB7 c).toArray] w fun vs w'=>vs=[.bool true]∧Sat w' l :=
 zf120_calls b.base b.pid b.epoch b.seq b.kind b.time b.x c.base c.pid c.epoch c.seq c.kind c.time c.x <| by
  unfold zf120
  obtain ⟨e1,e2,e3,e4,e5,e6,e7⟩:=p_fields h
  have hl1:=hs.slen b.x (xs:=b.rs) (enc:=encR)
  have hl2:=hs.slen c.x (xs:=c.rs) (enc:=encR)
  rw [← e7] at hl2
  rw [← e1,← e2,← e3,← e4,← e5,← e6]
  have hc:FocR l c.x 4 (b.rs.flatMap encR):=by rw [e7];exact hc
  refine wp_boxO hs fun a0 w' hs=>?_
  refine wp_boxO hs fun a1 w' hs=>?_
  refine wp_ldO hs ?_
  refine wp_ldO hs ?_
  refine wp_ifF ?_ (by omega)
  refine wp_ldO hs ?_
  refine wp_mid (fun _ w'=>Sat w' (pt a1 (.cells [.int .i64 b.base,.int .i64 b.pid,.int .i64 b.epoch,.int .i64 b.seq,.int .i64 b.kind,.int .i64 b.time,.slice c.x.a c.x.len c.x.cap].toArray T.a1)::pt a0 (.cells [.int .i64 b.base,.int .i64 b.pid,.int .i64 b.epoch,.int .i64 b.seq,.int .i64 b.kind,.int .i64 b.time,.slice b.x.a b.x.len b.x.cap].toArray T.a1)::l)) ?_ ?_
  ·refine wp_loop (fun m v w=>∃ i:Nat,v=((i:Int),())∧i≤b.rs.length∧b.rs.length-i=m∧Sat w (pt a1 (.cells [.int .i64 b.base,.int .i64 b.pid,.int .i64 b.epoch,.int .i64 b.seq,.int .i64 b.kind,.int .i64 b.time,.slice c.x.a c.x.len c.x.cap].toArray T.a1)::pt a0 (.cells [.int .i64 b.base,.int .i64 b.pid,.int .i64 b.epoch,.int .i64 b.seq,.int .i64 b.kind,.int .i64 b.time,.slice b.x.a b.x.len b.x.cap].toArray T.a1)::l)) b.rs.length ⟨0,rfl,by omega,rfl,hs⟩ ?_
   clear hs
   rintro m _ w ⟨i,rfl,hi,hm,hs⟩
   refine wp_on ?_
   refine wp_if (fun hcc=>?_) fun hcc=>?_
   rotate_left
   ·exact wp_pass (wp_lv hs)
   have hil:i<b.rs.length:=by omega
   refine wp_lt ?_
   refine wp_tk hs fun w' hs=>?_
   refine wp_ldO hs ?_
   refine wp_ixA hs (xs:=b.rs) (enc:=encR) i hil ?_
   refine wp_ldO hs ?_
   refine wp_ixA hs (xs:=b.rs) (enc:=encR) i hil ?_
   refine wp_untick ?_
   refine wp_ifF ?_ (by simp [beq_bytes])
   rw [wS (i:=i) (by omega)]
   exact wp_lp (b.rs.length-(i+1)) ⟨i+1,rfl,by omega,rfl,hs⟩
  clear hs
  rintro _ w hs
  refine wp_on ?_
  refine wp_ldO hs ?_
  refine wp_ldO hs ?_
  refine wp_ldO hs ?_
  refine wp_ldO hs ?_
  refine wp_ldO hs ?_
  refine wp_ldO hs ?_
  refine wp_ldO hs ?_
  refine wp_ldO hs ?_
  refine wp_ldO hs ?_
  refine wp_ldO hs ?_
  refine wp_ldO hs ?_
  refine wp_ldO hs ?_
  refine wp_lt ?_
  refine ⟨rfl,?_,hs.tail.tail⟩
  simp
theorem dsameall_c (x y:Sl) (bs cs:List BatM) (h:bs.map BatM.p=cs.map BatM.p) (hx:FocR l x 7 (bs.flatMap encB7)) (hy:FocR l y 7 (cs.flatMap encB7)) (hb:∀ b ∈ bs,FocR l b.x 4 (b.rs.flatMap encR)) (hc:∀ b ∈ cs,FocR l b.x 4 (b.rs.flatMap encR)) (hlen:bs.length≤1000000000) (hrl:∀ b ∈ bs,b.rs.length≤1000000000) (hs:Sat w l) :
  Ret P F.a112 #[x.v,y.v] w fun vs w'=>vs=[.bool true]∧Sat w' l :=
 zf121_calls x y <| by
  unfold zf121
  have hl1:=hs.slen x (xs:=bs) (enc:=encB7)
  have hl2:=hs.slen y (xs:=cs) (enc:=encB7)
  have hll:bs.length=cs.length:=by have:=congrArg List.length h;simpa using this
  refine wp_ifF ?_ (by omega)
  refine wp_mid (fun _ w'=>Sat w' l) ?_ ?_
  rotate_left
  ·rintro _ w2 hs
   exact ⟨rfl,rfl,hs⟩
  refine wp_loop (fun m v w=>∃ i:Nat,v=((i:Int),())∧i≤bs.length∧bs.length-i=m∧Sat w l) bs.length ⟨0,rfl,by omega,rfl,hs⟩ ?_
  clear hs
  rintro m _ w ⟨i,rfl,hi,hm,hs⟩
  refine wp_on ?_
  refine wp_if (fun hcc=>?_) fun hcc=>?_
  rotate_left
  ·exact wp_pass (wp_lv hs)
  have hil:i<bs.length:=by omega
  have hil2:i<cs.length:=by omega
  have hp:bs[i].p=cs[i].p:=by
   have:=List.getElem_of_eq h (i:=i) (by rw [List.length_map];exact hil)
   simpa using this
  have hr1:=hb _ (List.getElem_mem hil)
  have hr2:=hc _ (List.getElem_mem hil2)
  refine wp_lt ?_
  refine wp_tk hs fun w' hs=>?_
  refine wp_ixA hs (xs:=bs) (enc:=encB7) i hil ?_
  refine wp_ixA hs (xs:=cs) (enc:=encB7) i hil2 ?_
  refine wp_call (dsame_c bs[i] cs[i] hp (hrl _ (List.getElem_mem hil)) hs) fun _ w' hs=>?_
  obtain ⟨rfl,hs⟩:=hs
  refine ret_of ?_
  refine wp_untick ?_
  refine wp_ifF ?_ (by simp)
  rw [wS (i:=i) (by omega)]
  exact wp_lp (bs.length-(i+1)) ⟨i+1,rfl,by omega,rfl,hs⟩
end
instance:EncF encR 0 .str (fun r=>r.key):=⟨fun _=>rfl⟩
def lastK (rs:List RecM):ByteArray:=match rs.getLast? with
 | none=>⟨#[]⟩
 | some x=>x.key
theorem recsL_snocK (time:Int) (rs:List RecM) (r:RecM):recsL time ⟨#[]⟩ (rs++[r])=recsL time ⟨#[]⟩ rs++recL time (lastK rs) r:=recsL_snoc time rs ⟨#[]⟩ r
section
variable {w:World} {l r:List HP}
theorem dtext_c (t:ByteArray) (ht:t.size≤1000000000) (hs:Sat w l):Ret P F.a102 #[.string t] w fun vs w'=>∃ z:Sl,vs=[z.v]∧Sat w' (slc T.a34 1 z ((uI (t.size:Nat)++bl t).flatMap encU)::l) :=
 zf111_calls t <| by
  unfold zf111
  refine wp_call (dint_c ((t.size:Nat):Int) (by omega) hs) fun _ w' hs=>?_
  obtain ⟨x,rfl,hs⟩:=hs
  refine ret_of ?_
  have hl:=hs.slen x
  have hul:=uI_len ((t.size:Nat):Int)
  refine wp_apT (t0:=t) (xs:=uI (t.size:Nat)) hs (fun z w' hs=>?_) (by omega)
  exact ⟨rfl,z,rfl,hs⟩
theorem dflag_c (b:Bool) (hs:Sat w l):Ret P F.a100 #[.bool b] w fun vs w'=>∃ z:Sl,vs=[z.v]∧Sat w' (slc T.a34 1 z ([flagB b].flatMap encU)::l) :=
 zf109_calls b <| by
  unfold zf109
  refine wp_if (fun h=>?_) fun h=>?_
  ·subst h
   refine wp_slit1 hs (enc:=encU) (1:UInt8) fun z w' hs=>?_
   exact ⟨rfl,z,rfl,hs⟩
  ·have h:b=false:=by simpa using h
   subst h
   refine wp_slit1 hs (enc:=encU) (0:UInt8) fun z w' hs=>?_
   exact ⟨rfl,z,rfl,hs⟩
set_option maxHeartbeats 1000000 in
theorem dencode_c (b:BatM) [hb:FocR l b.x 4 (b.rs.flatMap encR)] (hs:Sat w l) :
  Ret P F.a107 #[.agg (encB7 b).toArray] w fun vs w'=>(validB b≠0∧vs=[.slice none 0 0,.int .i64 (validB b)]∧Sat w' l)∨(validB b=0∧∃ z:Sl,vs=[z.v,.int .i64 0]∧Sat w' (slc T.a34 1 z ((batL b).flatMap encU)::l)) :=
 zf116_calls b.base b.pid b.epoch b.seq b.kind b.time b.x <| by
  unfold zf116
  have hlx:=hs.slen b.x (xs:=b.rs) (enc:=encR)
  refine wp_boxO hs fun a0 w' hs=>?_
  refine wp_ldG hs ?_
  refine wp_call (dvalid_c b hs) fun _ w' hs=>?_
  obtain ⟨rfl,hs⟩:=hs
  refine ret_of ?_
  refine wp_lt ?_
  refine wp_if (fun h=>?_) fun h=>?_
  ·refine wp_lt ?_
   exact ⟨rfl,.inl ⟨h,rfl,hs.tail⟩⟩
  have hv:validB b=0:=Decidable.not_not.1 h
  obtain ⟨-,-,⟨hk,hba,hpi,hep,hsq,htm⟩,hfit,-⟩:=span_le b hv
  obtain ⟨h64,hrs⟩:=valid_recs hv
  have ek:IntKind.wrap .u8 b.kind=(((UInt8.ofNat b.kind.toNat).toNat:Nat):Int):=by
   rw [wu8 (by omega) (by omega),UInt8.toNat_ofNat'];omega
  have hul1:=uI_len b.base
  have hul2:=uI_len b.pid
  have hul3:=uI_len b.epoch
  have hul4:=uI_len b.seq
  have hul5:=uI_len b.time
  refine wp_ldO hs ?_
  rw [ek]
  refine wp_litx hs (enc:=encU) [1,UInt8.ofNat b.kind.toNat] fun z1 w' hs=>?_
  refine wp_ldO hs ?_
  refine wp_call (dint_c b.base (by omega) hs) fun _ w' hs=>?_
  obtain ⟨z2,rfl,hs⟩:=hs
  refine ret_of ?_
  refine wp_app' (xs:=[1,UInt8.ofNat b.kind.toNat]) (ys:=uI b.base) (enc:=encU) hs (fun z3 w' hs=>?_) (by simp only [List.length_cons,List.length_nil];omega)
  refine wp_ldO hs ?_
  refine wp_call (dint_c b.pid (by omega) hs) fun _ w' hs=>?_
  obtain ⟨z4,rfl,hs⟩:=hs
  refine ret_of ?_
  refine wp_app' (xs:=[1,UInt8.ofNat b.kind.toNat]++uI b.base) (ys:=uI b.pid) (enc:=encU) hs (fun z5 w' hs=>?_) (by simp only [List.length_append,List.length_cons,List.length_nil];omega)
  have hhd:[1,UInt8.ofNat b.kind.toNat]++uI b.base++uI b.pid=hdL b:=by unfold hdL;simp
  rw [hhd] at hs
  replace hs:Sat w' (slc T.a34 1 z5 ((hdL b).flatMap encU)::pt a0 (.cells (cB b) T.a1)::l):=hs.sub
  have hdl:(hdL b).length≤22:=by rw [← hhd];simp only [List.length_append,List.length_cons,List.length_nil];omega
  refine wp_ldO hs ?_
  refine wp_mid (fun q w'=>∃ z:Sl,q=(z,())∧Sat w' (slc T.a34 1 z ((hdL b++if b.pid>0 then uI b.epoch else []).flatMap encU)::pt a0 (.cells (cB b) T.a1)::l)) ?_ ?_
  ·refine wp_if (fun h2=>?_) fun h2=>?_
   ·refine wp_ldO hs ?_
    refine wp_call (dint_c b.epoch (by omega) hs) fun _ w' hs=>?_
    obtain ⟨z6,rfl,hs⟩:=hs
    refine ret_of ?_
    refine wp_app' (xs:=hdL b) (ys:=uI b.epoch) (enc:=encU) hs fun z7 w' hs=>?_
    refine wp_lv ⟨z7,rfl,?_⟩
    rw [if_pos h2]
    exact hs.sub
   ·refine wp_lv ⟨z5,rfl,?_⟩
    rw [if_neg h2,List.append_nil]
    exact hs
  clear hs
  rintro _ w ⟨z8,rfl,hs⟩
  refine wp_on ?_
  refine wp_mid (fun q w'=>q=(decide (b.pid>0∧markB b=false),())∧Sat w' (slc T.a34 1 z8 ((hdL b++if b.pid>0 then uI b.epoch else []).flatMap encU)::pt a0 (.cells (cB b) T.a1)::l)) ?_ ?_
  ·refine wp_ldO hs ?_
   refine wp_ldG hs ?_
   refine wp_if (fun h2=>?_) fun h2=>?_
   ·refine wp_call (dmark_c b hs) fun _ w' hs=>?_
    obtain ⟨rfl,hs⟩:=hs
    refine ret_of ?_
    refine wp_lv ⟨?_,hs⟩
    have e:decide (b.pid>0∧markB b=false)=!markB b:=by
     rw [Bool.eq_iff_iff,decide_eq_true_iff]
     simp [h2]
    rw [e]
   ·exact wp_lv ⟨by rw [decide_eq_false fun h=>h2 h.1],hs⟩
  clear hs
  rintro _ w ⟨rfl,hs⟩
  refine wp_on ?_
  have hml:(hdL b++midL b).length≤42:=by
   unfold midL
   rw [List.length_append]
   split
   ·split
    ·simp only [List.length_append,List.length_nil];omega
    ·simp only [List.length_append];omega
   ·simp only [List.length_nil];omega
  refine wp_mid (fun q w'=>∃ z:Sl,q=(z,())∧Sat w' (slc T.a34 1 z ((hdL b++midL b).flatMap encU)::pt a0 (.cells (cB b) T.a1)::l)) ?_ ?_
  ·refine wp_if (fun h2=>?_) fun h2=>?_
   ·have h2:b.pid>0∧markB b=false:=by simpa using h2
    refine wp_ldO hs ?_
    refine wp_call (dint_c b.seq (by omega) hs) fun _ w' hs=>?_
    obtain ⟨z6,rfl,hs⟩:=hs
    refine ret_of ?_
    rw [if_pos h2.1] at hs
    refine wp_app' (xs:=hdL b++uI b.epoch) (ys:=uI b.seq) (enc:=encU) hs (fun z7 w' hs=>?_) (by rw [List.length_append];omega)
    refine wp_lv ⟨z7,rfl,?_⟩
    have e:hdL b++midL b=hdL b++uI b.epoch++uI b.seq:=by unfold midL;rw [if_pos h2.1,h2.2,if_neg (by simp),List.append_assoc]
    rw [e]
    exact hs.sub
   ·have h2:¬ (b.pid>0∧markB b=false):=by simpa using h2
    refine wp_lv ⟨z8,rfl,?_⟩
    have e:midL b=if b.pid>0 then uI b.epoch else []:=by
     unfold midL
     split
     ·rename_i h3
      have hm:markB b=true:=by
       cases hm:markB b with
       | true=>rfl
       | false=>exact absurd ⟨h3,hm⟩ h2
      rw [hm,if_pos rfl,List.append_nil]
     ·rfl
    rw [e]
    exact hs
  clear hs
  rintro _ w ⟨z9,rfl,hs⟩
  refine wp_on ?_
  refine wp_ldO hs ?_
  refine wp_call (dint_c b.time (by omega) hs) fun _ w' hs=>?_
  obtain ⟨z3,rfl,hs⟩:=hs
  refine ret_of ?_
  refine wp_app' (xs:=hdL b++midL b) (ys:=uI b.time) (enc:=encU) hs (fun z4 w' hs=>?_) (by omega)
  refine wp_ldG hs ?_
  refine wp_call (dmark_c b hs) fun _ w' hs=>?_
  obtain ⟨rfl,hs⟩:=hs
  refine ret_of ?_
  refine wp_if (fun h3=>?_) fun h3=>?_
  ·refine ⟨rfl,.inr ⟨hv,z4,rfl,?_⟩⟩
   rw [batL_eq,h3,if_pos rfl,List.append_nil]
   exact hs.sub
  have h3:markB b=false:=by simpa using h3
  have hcl:=uI_len ((b.rs.length:Nat):Int)
  refine wp_ldO hs ?_
  rw [hlx]
  refine wp_call (dint_c ((b.rs.length:Nat):Int) (by omega) hs) fun _ w' hs=>?_
  obtain ⟨z5,rfl,hs⟩:=hs
  refine ret_of ?_
  generalize hX:hdL b++midL b++uI b.time=X at hs
  have hXl:X.length≤60:=by rw [← hX,List.length_append];omega
  refine wp_app' (xs:=X) (ys:=uI (b.rs.length:Nat)) (enc:=encU) hs (fun z6 w' hs=>?_) (by omega)
  refine wp_ldO hs ?_
  generalize hY:X++uI ((b.rs.length:Nat):Int)=Y at hs
  have hYl:Y.length≤80:=by rw [← hY];simp only [List.length_append];omega
  have hfin:batL b=Y++recsL b.time ⟨#[]⟩ b.rs:=by
   rw [batL_eq,hX,h3,if_neg (by simp),← hY,List.append_assoc]
  refine wp_mid (fun q w'=>∃ z:Sl,q=(z,())∧Sat w' (slc T.a34 1 z ((batL b).flatMap encU)::l)) ?_ ?_
  rotate_left
  ·rintro _ w' ⟨z,rfl,hs⟩
   exact ⟨rfl,.inr ⟨hv,z,rfl,hs⟩⟩
  have hrec:=recs_le hv
  refine wp_loop (fun m v w=>∃ (i:Nat) (z:Sl),v=(z,((i:Int),()))∧i≤b.rs.length∧b.rs.length-i=m∧Sat w (slc T.a34 1 z ((Y++recsL b.time ⟨#[]⟩ (b.rs.take i)).flatMap encU)::pt a0 (.cells (cB b) T.a1)::l)) b.rs.length ⟨0,z6,rfl,by omega,rfl,by
   rw [List.take_zero]
   show Sat _ (slc T.a34 1 z6 ((Y++[]).flatMap encU)::_)
   rw [List.append_nil]
   exact hs.sub⟩ ?_
  clear hs
  rintro m _ w ⟨i,z,rfl,hi,hm,hs⟩
  refine wp_on ?_
  refine wp_if (fun hc=>?_) fun hc=>?_
  rotate_left
  ·refine wp_pass (wp_lv ⟨z,rfl,?_⟩)
   have hi2:i=b.rs.length:=by omega
   rw [hi2,List.take_length,← hfin] at hs
   exact hs.sub
  have hil:i<b.rs.length:=by omega
  obtain ⟨hr1,hr2,hr3,hr4⟩:=recF_zero (hrs b.rs[i] (List.getElem_mem hil))
  have hsn:=recsL_snocK b.time (b.rs.take i) b.rs[i]
  rw [← List.take_succ_eq_append_getElem hil] at hsn
  have hln:=hrec (i+1)
  rw [hsn,List.length_append] at hln
  have hah:∃ ahead:ByteArray,lastK (b.rs.take i)=ahead∧ahead.size≤1024∧(i=0→ahead=⟨#[]⟩)∧∀ h:0<i,ahead=(b.rs[i-1]'(by omega)).key:=by
   by_cases h0:i=0
   ·subst h0
    exact ⟨⟨#[]⟩,rfl,by show 0≤1024;omega,fun _=>rfl,fun h=>by omega⟩
   ·have e:(b.rs.take i).getLast? = some (b.rs[i-1]'(by omega)):=by
     rw [take_last (by omega),if_neg h0,List.getElem?_eq_getElem (by omega)]
    exact ⟨(b.rs[i-1]'(by omega)).key,by unfold lastK;rw [e],(recF_zero (hrs _ (List.getElem_mem (by omega)))).1,fun h=>absurd h h0,fun _=>rfl⟩
  obtain ⟨ahead,hahe,hahs,hah0,hah1⟩:=hah
  rw [hahe] at hsn hln
  have hal:=alikeL_le (bl ahead) (bl b.rs[i].key)
  rw [size_bl,size_bl] at hal
  have hrl:recL b.time ahead b.rs[i]=(sintL (b.rs[i].time-b.time)++([flagB b.rs[i].gone]++(uI (alikeL (bl ahead) (bl b.rs[i].key):Nat)++tailL ahead b.rs[i].key)))++if b.rs[i].gone then [] else uI b.rs[i].value.size++bl b.rs[i].value:=by
   unfold recL
   simp only [List.append_assoc,List.cons_append,List.nil_append,List.singleton_append]
  generalize hZ:Y++recsL b.time ⟨#[]⟩ (b.rs.take i)=Z at *
  have hZl:Z.length≤200000:=by rw [← hZ,List.length_append];omega
  have htl1:=sintL_len (b.rs[i].time-b.time)
  have htl2:=uI_len ((alikeL (bl ahead) (bl b.rs[i].key):Nat):Int)
  have htl3:(tailL ahead b.rs[i].key).length≤1034:=by
   unfold tailL
   have:=uI_len (((b.rs[i].key.size-alikeL (bl ahead) (bl b.rs[i].key):Nat)):Int)
   rw [List.length_append,List.length_drop,size_bl]
   omega
  refine wp_mid (fun q w'=>∃ z:Sl,q=(z,())∧Sat w' (slc T.a34 1 z ((Z++recL b.time ahead b.rs[i]).flatMap encU)::pt a0 (.cells (cB b) T.a1)::l)) ?_ ?_
  rotate_left
  ·rintro _ w2 ⟨z',rfl,hs⟩
   rw [wS (i:=i) (by omega)]
   refine wp_lp (b.rs.length-(i+1)) ⟨i+1,z',rfl,by omega,rfl,?_⟩
   rw [hsn,← List.append_assoc,hZ]
   exact hs
  refine wp_ixA hs (xs:=b.rs) (enc:=encR) i hil ?_
  refine wp_newO hs fun a1 w' hs=>?_
  refine wp_lt ?_
  refine wp_stG hs fun w' hs=>?_
  refine wp_mid (fun q w'=>q=(((alikeL (bl ahead) (bl b.rs[i].key):Nat):Int),())∧Sat w' (pt a1 (.cells (cR b.rs[i]) T.a3)::slc T.a34 1 z (Z.flatMap encU)::pt a0 (.cells (cB b) T.a1)::l)) ?_ ?_
  ·refine wp_loop (fun k v w=>∃ j:Nat,v=((j:Int),())∧j≤alikeL (bl ahead) (bl b.rs[i].key)∧alikeL (bl ahead) (bl b.rs[i].key)-j=k∧Sat w (pt a1 (.cells (cR b.rs[i]) T.a3)::slc T.a34 1 z (Z.flatMap encU)::pt a0 (.cells (cB b) T.a1)::l)) (alikeL (bl ahead) (bl b.rs[i].key)) ⟨0,rfl,by omega,rfl,hs⟩ ?_
   clear hs
   rintro k _ w ⟨j,rfl,hj,hk2,hs⟩
   refine wp_on ?_
   refine wp_tk hs fun w' hs=>?_
   refine wp_ldO hs ?_
   refine wp_ldO hs ?_
   by_cases h0:i=0
   ·have hg:∀ {c:Bool},¬ ((decide ((i:Int)>0) && c)=true):=fun {c} h=>by rw [h0] at h;simp at h
    have hg2:∀ {c d:Bool},¬ ((decide ((i:Int)>0) && c && d)=true):=fun {c d} h=>by rw [h0] at h;simp at h
    refine wp_exF (fun h=>absurd h hg) ?_
    refine wp_gr (⟨#[]⟩:ByteArray) hg ?_
    refine wp_gr (⟨#[]⟩:ByteArray) hg2 ?_
    refine wp_must (fun h=>absurd h hg2) ?_
    refine wp_gr (⟨none,0,0⟩:Sl) hg2 ?_
    refine wp_exF (fun h=>absurd h hg2) ?_
    refine wp_gr (⟨#[]⟩:ByteArray) hg2 ?_
    refine wp_must (fun h=>absurd h hg2) ?_
    refine wp_untick ?_
    refine wp_ite (fun hcc=>?_) fun hcc=>?_
    ·have hc3:=hcc
     simp only [Bool.and_eq_true,decide_eq_true_eq] at hc3
     omega
    ·have ha0:=hah0 h0
     have e0:alikeL (bl ahead) (bl b.rs[i].key)=0:=by rw [ha0];rfl
     refine wp_pass (wp_lv ⟨?_,hs⟩)
     congr 2
     omega
   ·have hgt:0<i:=by omega
    have hpre:=hah1 hgt
    have ew:IntKind.wrap .i64 ((i:Int)-1)=((i-1:Nat):Int):=by rw [w64 (by omega) (by omega)];omega
    rw [ew]
    refine wp_ixFgg hs (xs:=b.rs) (enc:=encR) ahead (fun _=>⟨i-1,by omega,rfl,hpre.symm⟩) ?_
    refine wp_ldO hs ?_
    refine wp_must (fun h=>?_) ?_
    ·simp only [Bool.and_eq_true,decide_eq_true_eq] at h;omega
    refine wp_ldO hs ?_
    refine wp_ixFgg hs (xs:=b.rs) (enc:=encR) ahead (fun _=>⟨i-1,by omega,rfl,hpre.symm⟩) ?_
    refine wp_must (fun h=>?_) ?_
    ·simp only [Bool.and_eq_true,decide_eq_true_eq] at h;omega
    refine wp_untick ?_
    have hbt:∀ (c:ByteArray) (h:j<(bl c).length),bt c (j:Int)=(((bl c)[j]).toNat:Int):=fun c h=>by
     unfold bt
     rw [Int.toNat_natCast,List.getD_eq_getElem?_getD,List.getElem?_eq_getElem h];rfl
    have htk:=alikeL_take (bl ahead) (bl b.rs[i].key)
    refine wp_ite (fun hcc=>?_) fun hcc=>?_
    ·simp only [Bool.and_eq_true,decide_eq_true_eq,beq_iff_eq] at hcc
     obtain ⟨⟨⟨h1,h2⟩,h3⟩,h4⟩:=hcc
     have l1:j<(bl ahead).length:=by rw [size_bl];omega
     have l2:j<(bl b.rs[i].key).length:=by rw [size_bl];omega
     rw [hbt _ l1,hbt _ l2] at h4
     have hne:j≠alikeL (bl ahead) (bl b.rs[i].key):=by
      intro he
      have hmax:∀ (x y:List UInt8) (h1:alikeL x y<x.length) (h2:alikeL x y<y.length),x[alikeL x y]≠y[alikeL x y]:=by
       intro x
       induction x with
       | nil=>intro y h1;simp at h1
       | cons p x ih =>
        intro y h1 h2
        cases y with
        | nil=>simp at h2
        | cons q y =>
         by_cases hpq:p=q
         ·have e:alikeL (p::x) (q::y)=alikeL x y+1:=by simp [alikeL,hpq]
          have l1:alikeL x y<x.length:=by rw [e] at h1;simpa using h1
          have l2:alikeL x y<y.length:=by rw [e] at h2;simpa using h2
          have:=ih y l1 l2
          intro hh
          apply this
          have e1:(p::x)[alikeL (p::x) (q::y)]? = (p::x)[alikeL x y+1]? := by rw [e]
          have e2:(q::y)[alikeL (p::x) (q::y)]? = (q::y)[alikeL x y+1]? := by rw [e]
          rw [List.getElem?_eq_getElem h1,List.getElem?_cons_succ,List.getElem?_eq_getElem l1] at e1
          rw [List.getElem?_eq_getElem h2,List.getElem?_cons_succ,List.getElem?_eq_getElem l2] at e2
          exact (Option.some.inj e1).symm.trans (hh.trans (Option.some.inj e2))
         ·have e:alikeL (p::x) (q::y)=0:=by simp [alikeL,hpq]
          intro hh
          apply hpq
          have e1:(p::x)[alikeL (p::x) (q::y)]? = (p::x)[0]? := by rw [e]
          have e2:(q::y)[alikeL (p::x) (q::y)]? = (q::y)[0]? := by rw [e]
          rw [List.getElem?_eq_getElem h1] at e1
          rw [List.getElem?_eq_getElem h2] at e2
          have e1:=Option.some.inj e1
          have e2:=Option.some.inj e2
          exact e1.symm.trans (hh.trans e2)
      have hx:=hmax (bl ahead) (bl b.rs[i].key) (by rw [← he];exact l1) (by rw [← he];exact l2)
      apply hx
      apply UInt8.toNat_inj.1
      have h5:((bl b.rs[i].key)[j]).toNat=((bl ahead)[j]).toNat:=by omega
      simp only [← he]
      omega
     refine wp_ltx (y:=((j+1:Nat):Int)) ?_ (by rw [w64 (by omega) (by omega)];omega)
     exact wp_lp (alikeL (bl ahead) (bl b.rs[i].key)-(j+1)) ⟨j+1,rfl,by omega,rfl,hs⟩
    ·have he:j=alikeL (bl ahead) (bl b.rs[i].key):=by
      apply Decidable.byContradiction
      intro hne
      have hjl:j<alikeL (bl ahead) (bl b.rs[i].key):=by omega
      have l1:j<(bl ahead).length:=by rw [size_bl];omega
      have l2:j<(bl b.rs[i].key).length:=by rw [size_bl];omega
      have e1:(bl ahead)[j]? = (bl b.rs[i].key)[j]? := by
       have:=congrArg (fun x:List UInt8=>x[j]?) htk
       simp only [List.getElem?_take,if_pos hjl] at this
       exact this
      rw [List.getElem?_eq_getElem l1,List.getElem?_eq_getElem l2] at e1
      have e1:=Option.some.inj e1
      rw [Bool.eq_false_iff] at hcc
      apply hcc
      simp only [Bool.and_eq_true,decide_eq_true_eq,beq_iff_eq]
      refine ⟨⟨⟨by omega,by rw [size_bl] at l2;omega⟩,by rw [size_bl] at l1;omega⟩,?_⟩
      rw [hbt _ l1,hbt _ l2,e1]
     refine wp_pass (wp_lv ⟨by rw [← he],hs⟩)
  clear hs
  rintro _ w ⟨rfl,hs⟩
  refine wp_on ?_
  refine wp_ldO hs ?_
  refine wp_ldO hs ?_
  rw [w64 (by omega) (by omega)]
  refine wp_call (dsint_c (b.rs[i].time-b.time) (by omega) hs) fun _ w' hs=>?_
  obtain ⟨u1_,rfl,hs⟩:=hs
  refine ret_of ?_
  refine wp_app' (xs:=Z) (ys:=sintL (b.rs[i].time-b.time)) (enc:=encU) hs (fun y1 w' hs=>?_) (by omega)
  refine wp_ldO hs ?_
  refine wp_call (dflag_c b.rs[i].gone hs) fun _ w' hs=>?_
  obtain ⟨u2_,rfl,hs⟩:=hs
  refine ret_of ?_
  refine wp_app' (xs:=Z++sintL (b.rs[i].time-b.time)) (ys:=[flagB b.rs[i].gone]) (enc:=encU) hs (fun y2 w' hs=>?_) (by simp only [List.length_append,List.length_cons,List.length_nil];omega)
  refine wp_call (dint_c ((alikeL (bl ahead) (bl b.rs[i].key):Nat):Int) (by omega) hs) fun _ w' hs=>?_
  obtain ⟨u3_,rfl,hs⟩:=hs
  refine ret_of ?_
  refine wp_app' (xs:=Z++sintL (b.rs[i].time-b.time)++[flagB b.rs[i].gone]) (ys:=uI ((alikeL (bl ahead) (bl b.rs[i].key):Nat):Int)) (enc:=encU) hs (fun y3 w' hs=>?_) (by simp only [List.length_append,List.length_cons,List.length_nil];omega)
  refine wp_ldO hs ?_
  refine wp_must (by omega) ?_
  have ext:(ByteArray.extract b.rs[i].key (alikeL (bl ahead) (bl b.rs[i].key)) b.rs[i].key.size).size=b.rs[i].key.size-alikeL (bl ahead) (bl b.rs[i].key):=by rw [ByteArray.size_extract];omega
  have exb:bl (ByteArray.extract b.rs[i].key (alikeL (bl ahead) (bl b.rs[i].key)) b.rs[i].key.size)=(bl b.rs[i].key).drop (alikeL (bl ahead) (bl b.rs[i].key)):=by
   unfold bl
   rw [ByteArray.data_extract,Array.toList_extract,List.extract_eq_take_drop]
   exact List.take_of_length_le (by rw [List.length_drop];exact Nat.le_refl _)
  rw [Int.toNat_natCast]
  refine wp_call (dtext_c (ByteArray.extract b.rs[i].key (alikeL (bl ahead) (bl b.rs[i].key)) b.rs[i].key.size) (by omega) hs) fun _ w' hs=>?_
  obtain ⟨u4_,rfl,hs⟩:=hs
  refine ret_of ?_
  rw [ext,exb] at hs
  have hs:Sat w' (slc T.a34 1 u4_ ((tailL ahead b.rs[i].key).flatMap encU)::_):=hs
  refine wp_app' (xs:=Z++sintL (b.rs[i].time-b.time)++[flagB b.rs[i].gone]++uI ((alikeL (bl ahead) (bl b.rs[i].key):Nat):Int)) (ys:=tailL ahead b.rs[i].key) (enc:=encU) hs (fun y4 w' hs=>?_) (by simp only [List.length_append,List.length_cons,List.length_nil];omega)
  refine wp_ldO hs ?_
  have hvl:=uI_len ((b.rs[i].value.size:Nat):Int)
  have hvs:=size_bl b.rs[i].value
  generalize hV:Z++sintL (b.rs[i].time-b.time)++[flagB b.rs[i].gone]++uI ((alikeL (bl ahead) (bl b.rs[i].key):Nat):Int)++tailL ahead b.rs[i].key=V at hs
  have hVl:V.length≤300000:=by rw [← hV];simp only [List.length_append,List.length_cons,List.length_nil];omega
  have hVr:Z++recL b.time ahead b.rs[i]=V++if b.rs[i].gone then [] else uI b.rs[i].value.size++bl b.rs[i].value:=by
   rw [hrl,← hV]
   simp only [List.append_assoc]
  rw [hVr]
  refine wp_mid (fun q w'=>∃ z:Sl,q=(z,())∧Sat w' (slc T.a34 1 z ((V++if b.rs[i].gone then [] else uI b.rs[i].value.size++bl b.rs[i].value).flatMap encU)::pt a0 (.cells (cB b) T.a1)::l)) ?_ ?_
  rotate_left
  ·rintro _ w2 ⟨z',rfl,hs⟩
   exact wp_lv ⟨z',rfl,hs⟩
  refine wp_if (fun h5=>?_) fun h5=>?_
  ·have h5:b.rs[i].gone=false:=by simpa using h5
   refine wp_ldO hs ?_
   refine wp_call (dtext_c b.rs[i].value (by omega) hs) fun _ w' hs=>?_
   obtain ⟨u,rfl,hs⟩:=hs
   refine ret_of ?_
   refine wp_app' (xs:=V) (ys:=uI (b.rs[i].value.size:Nat)++bl b.rs[i].value) (enc:=encU) hs (fun z7 w' hs=>?_) (by simp only [List.length_append];omega)
   refine wp_lv ⟨z7,rfl,?_⟩
   rw [if_neg (by rw [h5];simp)]
   exact hs.sub
  ·have h5:b.rs[i].gone=true:=by simpa using h5
   refine wp_lv ⟨y4,rfl,?_⟩
   rw [if_pos h5,List.append_nil]
   exact hs.sub
end
def bitsC (f:Nat→Bool):List Value:=(List.range 32).map fun j=>.bool (f j)
theorem bitsC_len (f:Nat→Bool):(bitsC f).length=32:=by simp [bitsC]
theorem bitsC_get (f:Nat→Bool) {i:Nat} (h:i<32):(bitsC f)[i]? = some (.bool (f i)):=by
 unfold bitsC
 rw [List.getElem?_map,List.getElem?_range h];rfl
theorem bitsC_set (f:Nat→Bool) (i:Nat) (x:Bool):(bitsC f).set i (.bool x)=bitsC fun j=>if j=i then x else f j:=by
 apply List.ext_getElem?
 intro j
 by_cases hj:j<32
 ·rw [bitsC_get _ hj,List.getElem?_set,bitsC_len]
  by_cases hij:i=j
  ·subst hij;simp [hj]
  ·rw [if_neg hij,bitsC_get _ hj,if_neg (Ne.symm hij)]
 ·rw [List.getElem?_eq_none (by rw [List.length_set,bitsC_len];omega),List.getElem?_eq_none (by rw [bitsC_len];omega)]
theorem bitsC_ext {f g:Nat→Bool} (h:∀ j,j<32→f j=g j):bitsC f=bitsC g:=by
 unfold bitsC
 exact List.map_congr_left fun j hj=>by rw [h j (List.mem_range.1 hj)]
section
variable {w:World} {l r:List HP} {Q:Post} {S:World→Prop} {b:Nat} {g:Prop} {f:Nat→Bool}
theorem wp_ldB {k:Bool→Prog} {m:Nat} (hs:Sat w l) [hb:FocB l b (.cells (bitsC f).toArray T.a0) r] (i:Nat) (hi:i<32) (h:(k (f i)).wp P S w Q) (hm:m=i:=by first|rfl|omega) :
  (Prog.read g (ld T.a4 (Addr.add ⟨b,0,none⟩ m)) sB (u1 k)).wp P S w Q:=by
 subst hm
 refine ⟨(f m,()),fun _=>?_,h⟩
 have hT:One P T.a4:=inferInstance
 rw [add_mk,Nat.zero_add]
 exact run_ld1 (P:=P) (off:=m) (v:=.bool (f m)) hT.ok.1 (hs.focB b).get (by simpa using bitsC_get f hi)
theorem wp_stB {k:Prog} {m:Nat} {x:Bool} (hs:Sat w l) [hb:FocB l b (.cells (bitsC f).toArray T.a0) r] (i:Nat) (hi:i<32)
  (h:∀ w',Sat w' (pt b (.cells (bitsC fun j=>if j=i then x else f j).toArray T.a0)::r)→k.wp P S w' Q) (hm:m=i:=by first|rfl|omega) (hS:∀ w',S w':=by exact fun _=>trivial) :
  (Prog.actU (st T.a4 (Addr.add ⟨b,0,none⟩ m) (.bool x)) k).wp P S w Q:=by
 subst hm
 have hT:One P T.a4:=inferInstance
 have hc:(Value.bool x).cells=#[.bool x]:=rfl
 have hrun:=run_st (P:=P) (v:=.bool x) (off:=m) hT.ok.2 (hs.focB b).get (by simp [bitsC_len];omega) (by rw [hc];rfl) (by rw [hc];simp [Value.oneCell']) (unfrozen_zero _ _)
 rw [hc] at hrun
 have e:putCells (bitsC f).toArray m [.bool x]=(bitsC fun j=>if j=m then x else f j).toArray:=by
  rw [← bitsC_set];simp [putCells]
 rw [show (#[Value.bool x]:Array Value).toList=[.bool x] from rfl,e] at hrun
 have hs':=(hs.focB b).set (o':=.cells (bitsC fun j=>if j=m then x else f j).toArray T.a0)
 rw [add_mk,Nat.zero_add]
 exact ⟨_,hrun,hS _,h _ hs'⟩
theorem bitE {c i:Nat} (hc:c<4294967296) (hi:i<32):(Int.tmod (Int.fdiv (c:Int) (2 ^ i)) (2:Int) == 1)=(BitVec.ofNat 32 c).getLsbD i:=by
 have e:((2:Int) ^ i)=((2 ^ i:Nat):Int):=by simp
 rw [e,fdiv_nat c (Int.natCast_nonneg _),Int.toNat_natCast,tmod_nat _ (by decide),BitVec.getLsbD_ofNat,Nat.testBit_eq_decide_div_mod_eq,Bool.eq_iff_iff]
 simp [hi]
 show ((c / 2 ^ i % 2:Nat):Int)=1↔_
 omega
theorem minW {i n:Nat} (h:i≤n) (h64:n≤64):min (Int.toNat (IntKind.wrap .u64 (i:Int))) n=i:=by
 rw [wu64m,Nat.mod_eq_of_lt (by omega)];omega
theorem getS (s:BitVec 32) (x:Bool) {j:Nat} (hj:j<32):(refS s x).getLsbD j=((s >>> 1).getLsbD j != ((s.getLsbD 0 != x) && polyB.getLsbD j)):=by
 unfold refS
 rw [BitVec.getLsbD_xor]
 by_cases h:(s.getLsbD 0 != x)=true
 ·rw [if_pos h,h];simp
 ·rw [if_neg h]
  have h':(s.getLsbD 0 != x)=false:=by cases hc:(s.getLsbD 0 != x) with
   | false=>rfl
   | true=>exact absurd hc h
  rw [h'];simp
theorem dsum_c (x:Sl) (bs:List UInt8) [hx:FocR l x 1 (bs.flatMap encU)] (hn:bs.length≤1000000000) (hs:Sat w l) :
  Ret P F.a105 #[x.v] w fun vs w'=>vs=[.int .u32 ((sumL bs:Nat):Int)]∧Sat w' l :=
 zf114_calls x <| by
  unfold zf114
  have hl:=hs.slen x (xs:=bs) (enc:=encU)
  refine wp_newO hs fun b w' hs=>?_
  have hs:Sat w' (pt b (.cells (bitsC fun _=>false).toArray T.a0)::l):=hs
  refine wp_mid (fun _ w'=>Sat w' (pt b (.cells (bitsC (BitVec.allOnes 32).getLsbD).toArray T.a0)::l)) ?_ ?_
  ·refine wp_loop (fun k u w=>∃ i:Nat,u=((i:Int),())∧i≤32∧32-i=k∧Sat w (pt b (.cells (bitsC fun j=>decide (j<i)).toArray T.a0)::l)) 32 ⟨0,rfl,by omega,rfl,?_⟩ ?_
   ·have:(bitsC fun j=>decide (j<0))=bitsC fun _=>false:=bitsC_ext fun j _=>by simp
    rw [this];exact hs
   clear hs
   rintro k _ w ⟨i,rfl,hi,hk,hs⟩
   refine wp_on ?_
   refine wp_if (fun hc=>?_) fun hc=>?_
   rotate_left
   ·refine wp_pass (wp_lv ?_)
    have:(bitsC fun j=>decide (j<i))=bitsC (BitVec.allOnes 32).getLsbD:=bitsC_ext fun j hj=>by
     rw [BitVec.getLsbD_allOnes]
     rw [decide_eq_true (by omega:j<i),decide_eq_true hj]
    rw [← this];exact hs
   refine wp_must ⟨by omega,hc⟩ ?_
   refine wp_stB hs i (by omega) (fun w' hs=>?_)
   refine wp_ltx (y:=((i+1:Nat):Int)) ?_ (by rw [w64 (by omega) (by omega)];omega)
   refine wp_lp (32-(i+1)) ?_
   refine ⟨i+1,rfl,by omega,rfl,?_⟩
   have:(bitsC fun j=>decide (j<i+1))=bitsC fun j=>if j=i then true else decide (j<i):=bitsC_ext fun j _=>by
    by_cases hji:j=i
    ·subst hji;simp
    ·rw [if_neg hji];congr 1;apply propext;omega
   rw [this];exact hs
  clear hs
  rintro _ w hs
  refine wp_on ?_
  refine wp_mid (fun _ w'=>Sat w' (pt b (.cells (bitsC (crcL (BitVec.allOnes 32) bs).getLsbD).toArray T.a0)::l)) ?_ ?_
  ·refine wp_loop (fun k u w=>∃ i:Nat,u=((i:Int),())∧i≤bs.length∧bs.length-i=k∧Sat w (pt b (.cells (bitsC (crcL (BitVec.allOnes 32) (bs.take i)).getLsbD).toArray T.a0)::l)) bs.length ⟨0,rfl,by omega,rfl,hs⟩ ?_
   clear hs
   rintro k _ w ⟨i,rfl,hi,hk,hs⟩
   refine wp_on ?_
   refine wp_if (fun hc=>?_) fun hc=>?_
   rotate_left
   ·refine wp_pass (wp_lv ?_)
    rw [List.take_of_length_le (by omega)] at hs
    exact hs
   have hil:i<bs.length:=by omega
   refine wp_mid (fun _ w'=>Sat w' (pt b (.cells (bitsC (crcL (BitVec.allOnes 32) (bs.take (i+1))).getLsbD).toArray T.a0)::l)) ?_ ?_
   rotate_left
   ·rintro _ w' hs
    refine wp_on ?_
    refine wp_dn (us':=[.int .i64 ((i+1:Nat):Int)]) (by (try simp (disch:=omega) only [w64]);first|rfl|(congr;omega)) ?_
    refine wp_lp (bs.length-(i+1)) ?_
    exact ⟨i+1,rfl,by omega,rfl,hs⟩
   rw [crcL_take _ bs i hil]
   refine wp_ix1 hs (xs:=bs) (enc:=encU) i hil ?_
   refine wp_lt ?_
   rw [crcB_bits]
   generalize crcL (BitVec.allOnes 32) (bs.take i)=s at hs ⊢
   have hcl:=bs[i].toNat_lt
   generalize bs[i]=c at *
   show Prog.wp P _ _ _ _
   refine wp_mid (fun _ w'=>Sat w' (pt b (.cells (bitsC (refN (BitVec.ofNat 32 c.toNat) 8 s).getLsbD).toArray T.a0)::l)) ?_ (by rintro _ w' hs;refine wp_on ?_;exact wp_lv hs)
   refine wp_loop (fun k u w=>∃ i:Nat,u=((i:Int),())∧i≤8∧8-i=k∧Sat w (pt b (.cells (bitsC (refN (BitVec.ofNat 32 c.toNat) i s).getLsbD).toArray T.a0)::l)) 8 ⟨0,rfl,by omega,rfl,hs⟩ ?_
   clear hs
   rintro k _ w ⟨i,rfl,hi,hk,hs⟩
   refine wp_on ?_
   refine wp_if (fun hc=>?_) fun hc=>?_
   rotate_left
   ·obtain rfl:i=8:=by omega
    exact wp_pass (wp_lv hs)
   refine wp_mid (fun _ w'=>Sat w' (pt b (.cells (bitsC (refN (BitVec.ofNat 32 c.toNat) (i+1) s).getLsbD).toArray T.a0)::l)) ?_ ?_
   rotate_left
   ·rintro _ w' hs
    refine wp_on ?_
    refine wp_ltx (y:=((i+1:Nat):Int)) ?_ (by rw [w64 (by omega) (by omega)];omega)
    refine wp_lp (8-(i+1)) ?_
    exact ⟨i+1,rfl,by omega,rfl,hs⟩
   show Prog.wp P _ _ _ _
   have hstep:refN (BitVec.ofNat 32 c.toNat) (i+1) s=refS (refN (BitVec.ofNat 32 c.toNat) i s) ((BitVec.ofNat 32 c.toNat).getLsbD i):=rfl
   rw [hstep]
   generalize refN (BitVec.ofNat 32 c.toNat) i s=t at hs ⊢
   refine wp_must ⟨by omega,by omega⟩ ?_
   refine wp_ldB hs 0 (by omega) ?_
   refine wp_must (by rw [wu64m];omega) ?_
   rw [minW (by omega) (by omega),bitE (by omega) (by omega)]
   have hbool:(!(t.getLsbD 0 == (BitVec.ofNat 32 c.toNat).getLsbD i))=(t.getLsbD 0 != (BitVec.ofNat 32 c.toNat).getLsbD i):=rfl
   rw [hbool]
   refine wp_lt ?_
   generalize (BitVec.ofNat 32 c.toNat).getLsbD i=d
   refine wp_mid (fun _ w'=>Sat w' (pt b (.cells (bitsC fun j=>if j<31 then t.getLsbD (j+1) else t.getLsbD j).toArray T.a0)::l)) ?_ ?_
   ·refine wp_loop (fun k u w=>∃ i:Nat,u=((i:Int),())∧i≤31∧31-i=k∧Sat w (pt b (.cells (bitsC fun j=>if j<i then t.getLsbD (j+1) else t.getLsbD j).toArray T.a0)::l)) 31 ⟨0,rfl,by omega,rfl,by simpa using hs⟩ ?_
    clear hs
    rintro k _ w ⟨i,rfl,hi,hk,hs⟩
    refine wp_on ?_
    refine wp_if (fun hc=>?_) fun hc=>?_
    rotate_left
    ·obtain rfl:i=31:=by omega
     exact wp_pass (wp_lv hs)
    have e1:IntKind.wrap .i64 ((i:Int)+1)=((i+1:Nat):Int):=by rw [w64 (by omega) (by omega)];omega
    rw [e1]
    refine wp_must ⟨by omega,by omega⟩ ?_
    refine wp_ldB hs (i+1) (by omega) ?_
    refine wp_must ⟨by omega,by omega⟩ ?_
    refine wp_stB hs i (by omega) (fun w' hs=>?_)
    refine wp_lt ?_
    refine wp_lp (31-(i+1)) ?_
    refine ⟨i+1,rfl,by omega,rfl,?_⟩
    have:(bitsC fun j=>if j<i+1 then t.getLsbD (j+1) else t.getLsbD j)=bitsC fun j=>if j=i then (if i+1<i then t.getLsbD (i+1+1) else t.getLsbD (i+1)) else if j<i then t.getLsbD (j+1) else t.getLsbD j:=bitsC_ext fun j _=>by
     by_cases hji:j=i
     ·subst hji;rw [if_pos (by omega),if_pos rfl,if_neg (by omega)]
     ·rw [if_neg hji]
      by_cases hlt:j<i
      ·rw [if_pos hlt,if_pos (by omega)]
      ·rw [if_neg hlt,if_neg (by omega)]
    rw [this];exact hs
   clear hs
   rintro _ w hs
   refine wp_on ?_
   refine wp_must ⟨by omega,by omega⟩ ?_
   refine wp_stB hs 31 (by omega) (fun w' hs=>?_)
   have hsh:(bitsC fun j=>if j=31 then false else if j<31 then t.getLsbD (j+1) else t.getLsbD j)=bitsC (t >>> 1).getLsbD:=bitsC_ext fun j hj=>by
    rw [BitVec.getLsbD_ushiftRight]
    by_cases h31:j=31
    ·subst h31;rw [if_pos rfl]
     exact (BitVec.getLsbD_of_ge t 32 (by omega)).symm
    ·rw [if_neg h31,if_pos (by omega),Nat.add_comm]
   rw [hsh] at hs
   refine wp_mid (fun _ w'=>Sat w' (pt b (.cells (bitsC (refS t d).getLsbD).toArray T.a0)::l)) ?_ (by rintro _ w' hs;refine wp_on ?_;exact wp_lv hs)
   refine wp_loop (fun k u w=>∃ i:Nat,u=((i:Int),())∧i≤32∧32-i=k∧Sat w (pt b (.cells (bitsC fun j=>if j<i then (refS t d).getLsbD j else (t >>> 1).getLsbD j).toArray T.a0)::l)) 32 ⟨0,rfl,by omega,rfl,by rw [bitsC_ext (g:=(t >>> 1).getLsbD) fun j _=>if_neg (Nat.not_lt_zero j)];exact hs⟩ ?_
   clear hs
   rintro k _ w ⟨i,rfl,hi,hk,hs⟩
   refine wp_on ?_
   refine wp_if (fun hc=>?_) fun hc=>?_
   rotate_left
   ·obtain rfl:i=32:=by omega
    refine wp_pass (wp_lv ?_)
    have:(bitsC fun j=>if j<32 then (refS t d).getLsbD j else (t >>> 1).getLsbD j)=bitsC (refS t d).getLsbD:=bitsC_ext fun j hj=>if_pos hj
    rw [← this];exact hs
   refine wp_must (fun _=>by rw [wu64m];omega) ?_
   refine wp_mid (fun _ w'=>Sat w' (pt b (.cells (bitsC fun j=>if j<i+1 then (refS t d).getLsbD j else (t >>> 1).getLsbD j).toArray T.a0)::l)) ?_ ?_
   rotate_left
   ·rintro _ w' hs
    refine wp_on ?_
    refine wp_ltx (y:=((i+1:Nat):Int)) ?_ (by rw [w64 (by omega) (by omega)];omega)
    refine wp_lp (32-(i+1)) ?_
    exact ⟨i+1,rfl,by omega,rfl,hs⟩
   have hb2:(Int.tmod (Int.fdiv 3988292384 (2 ^ min (Int.toNat (IntKind.wrap .u64 (i:Int))) 32)) (2:Int) == 1)=polyB.getLsbD i:=by
    rw [minW (by omega) (by omega)]
    exact bitE (c:=3988292384) (by omega) (by omega)
   rw [hb2]
   have hg:=getS t d (j:=i) (by omega)
   refine wp_if (fun h=>?_) fun h=>?_
   ·refine wp_must ⟨by omega,by omega⟩ ?_
    refine wp_ldB hs i (by omega) ?_
    refine wp_must ⟨by omega,by omega⟩ ?_
    refine wp_stB hs i (by omega) (fun w' hs=>?_)
    refine wp_lv ?_
    have:(bitsC fun j=>if j<i+1 then (refS t d).getLsbD j else (t >>> 1).getLsbD j)=bitsC fun j=>if j=i then !(if i<i then (refS t d).getLsbD i else (t >>> 1).getLsbD i) else if j<i then (refS t d).getLsbD j else (t >>> 1).getLsbD j:=bitsC_ext fun j _=>by
     by_cases hji:j=i
     ·subst hji
      have hb:((t.getLsbD 0 != d) && polyB.getLsbD j)=true:=by rw [Bool.and_eq_true];exact ⟨bne_iff_ne.2 h.1,h.2⟩
      rw [if_pos (by omega),if_pos rfl,if_neg (by omega),hg,hb]
      cases (t >>> 1).getLsbD j <;> rfl
     ·rw [if_neg hji]
      by_cases hlt:j<i
      ·rw [if_pos hlt,if_pos (by omega)]
      ·rw [if_neg hlt,if_neg (by omega)]
    rw [this];exact hs
   ·refine wp_lv ?_
    have:(bitsC fun j=>if j<i+1 then (refS t d).getLsbD j else (t >>> 1).getLsbD j)=bitsC fun j=>if j<i then (refS t d).getLsbD j else (t >>> 1).getLsbD j:=bitsC_ext fun j _=>by
     by_cases hji:j=i
     ·subst hji
      have:((t.getLsbD 0 != d) && polyB.getLsbD j)=false:=by
       cases hc:((t.getLsbD 0 != d) && polyB.getLsbD j) with
       | false=>rfl
       | true=>exact absurd (by simpa using hc) h
      rw [if_pos (by omega),if_neg (by omega),hg,this]
      cases (t >>> 1).getLsbD j <;> rfl
     ·by_cases hlt:j<i
      ·rw [if_pos hlt,if_pos (by omega)]
      ·rw [if_neg hlt,if_neg (by omega)]
    rw [this];exact hs
  clear hs
  rintro _ w hs
  refine wp_on ?_
  have hsum:sumL bs=(~~~ (crcL (BitVec.allOnes 32) bs)).toNat:=by
   unfold sumL moreL
   rw [BitVec.not_zero]
  rw [hsum]
  generalize crcL (BitVec.allOnes 32) bs=s at hs ⊢
  have hlt:=(~~~ s).isLt
  refine wp_mid (fun u w'=>u=((((~~~ s).toNat:Nat):Int),())∧Sat w' l) ?_ (by rintro _ w' ⟨rfl,hs⟩;refine wp_on ?_;refine wp_lt ?_;exact ⟨rfl,rfl,hs⟩)
  refine wp_loop (fun k u w=>∃ i:Nat,u=((((~~~ s).toNat % 2 ^ i:Nat):Int),(i:Int),())∧i≤32∧32-i=k∧Sat w (pt b (.cells (bitsC s.getLsbD).toArray T.a0)::l)) 32 ⟨0,by simp [Nat.mod_one],by omega,rfl,hs⟩ ?_
  clear hs
  rintro k _ w ⟨i,rfl,hi,hk,hs⟩
  refine wp_on ?_
  refine wp_if (fun hc=>?_) fun hc=>?_
  rotate_left
  ·obtain rfl:i=32:=by omega
   refine wp_pass (wp_lv ⟨?_,hs.tail⟩)
   rw [Nat.mod_eq_of_lt hlt]
  refine wp_must ⟨by omega,by omega⟩ ?_
  refine wp_ldB hs i (by omega) ?_
  have hmod:(~~~ s).toNat % 2 ^ (i+1)=(~~~ s).toNat % 2 ^ i+2 ^ i*((~~~ s).toNat.testBit i).toNat:=by
   rw [Nat.mod_pow_succ,Nat.testBit_eq_decide_div_mod_eq]
   rcases Nat.mod_two_eq_zero_or_one ((~~~ s).toNat / 2 ^ i) with h|h <;> rw [h] <;> rfl
  have hbit:(~~~ s).toNat.testBit i=!s.getLsbD i:=by
   rw [BitVec.testBit_toNat,BitVec.getLsbD_not,decide_eq_true (show i<32 by omega),Bool.true_and]
  rw [hbit] at hmod
  refine wp_mid (fun u w'=>u=((((~~~ s).toNat % 2 ^ (i+1):Nat):Int),())∧Sat w' (pt b (.cells (bitsC s.getLsbD).toArray T.a0)::l)) ?_ ?_
  rotate_left
  ·rintro _ w' ⟨rfl,hs⟩
   refine wp_on ?_
   refine wp_ltx (y:=((i+1:Nat):Int)) ?_ (by rw [w64 (by omega) (by omega)];omega)
   refine wp_lp (32-(i+1)) ?_
   exact ⟨i+1,rfl,by omega,rfl,hs⟩
  refine wp_if (fun h=>?_) fun h=>?_
  ·refine wp_must (by rw [wu64m];omega) ?_
   have h:s.getLsbD i=false:=by simpa using h
   rw [h] at hmod
   have hle:(~~~ s).toNat % 2 ^ (i+1)≤(~~~ s).toNat:=Nat.mod_le ..
   have e:IntKind.wrap .u32 ((((~~~ s).toNat % 2 ^ i:Nat):Int)+IntKind.wrap .u32 (1*2 ^ min (Int.toNat (IntKind.wrap .u64 (i:Int))) 32))=(((~~~ s).toNat % 2 ^ (i+1):Nat):Int):=by
    have e2:(1:Int)*2 ^ i=((2 ^ i:Nat):Int):=by simp
    have hm:(~~~ s).toNat % 2 ^ (i+1)=(~~~ s).toNat % 2 ^ i+2 ^ i:=by rw [hmod];simp
    rw [minW (by omega) (by omega),e2,wu32m,← Int.natCast_add,wu32m,hm,Nat.mod_eq_of_lt (show 2 ^ i<4294967296 by omega),Nat.mod_eq_of_lt (by omega)]
   refine wp_lw e ?_
   exact wp_lv ⟨rfl,hs⟩
  ·have h:s.getLsbD i=true:=by simpa using h
   rw [h] at hmod
   refine wp_lv ⟨?_,hs⟩
   rw [hmod];simp
theorem dseal_c (x:Sl) (bs:List UInt8) [hx:FocR l x 1 (bs.flatMap encU)] (hn:bs.length≤1000000000) (hs:Sat w l) :
  Ret P F.a104 #[x.v] w fun vs w'=>∃ z:Sl,vs=[z.v]∧Sat w' (slc T.a34 1 z ((sealL bs).flatMap encU)::l) :=
 zf113_calls x <| by
  unfold zf113
  have hl:=hs.slen x (xs:=bs) (enc:=encU)
  refine wp_if (fun h=>?_) fun h=>?_
  ·have:sealL bs=[]:=by unfold sealL;rw [if_pos (by omega)]
   rw [this]
   exact ⟨rfl,⟨none,0,0⟩,rfl,hs.slc_nil⟩
  have e:sealL bs=headL bs++fourL (sumL (headL bs)):=by unfold sealL;rw [if_neg (by omega)]
  have hhl:(headL bs).length=bs.length+4:=by unfold headL;rw [List.length_append,four_len];omega
  have hsl:=sumL_lt (headL bs)
  rw [hl,wu32m,Nat.mod_eq_of_lt (by omega)]
  refine wp_call (dfour_c bs.length (by omega) hs) fun _ _ hs=>?_
  obtain ⟨y,rfl,hs⟩:=hs
  refine ret_of ?_
  refine wp_app' (xs:=fourL bs.length) (ys:=bs) (enc:=encU) hs (fun z w' hs=>?_) (by rw [four_len];omega)
  have hs:Sat w' (slc T.a34 1 z ((headL bs).flatMap encU)::l):=hs
  refine wp_call (dsum_c z (headL bs) (by omega) hs) fun _ _ hs=>?_
  obtain ⟨rfl,hs⟩:=hs
  refine ret_of ?_
  refine wp_call (dfour_c (sumL (headL bs)) hsl hs) fun _ _ hs=>?_
  obtain ⟨u,rfl,hs⟩:=hs
  refine ret_of ?_
  have hs:=hs.pick [1,0]
  refine wp_app' (xs:=headL bs) (ys:=fourL (sumL (headL bs))) (enc:=encU) hs (fun z w' hs=>?_) (by rw [four_len];omega)
  rw [← e] at hs
  exact ⟨rfl,z,rfl,hs.sub⟩
end
section
variable {w:World} {l r:List HP} {a:Nat} {R:RefM} {z:Sl} {g1 g2:Int}
theorem okR.base {L:List HP} (h:okR R L):∀ s ∈ R.SR,0≤s.base∧s.base≤1099511627776:=fun s hs=>(h.valid s hs).1.base
theorem rnextV_c [hb:FocB l a (.cells #[.int .i64 g1,.int .i64 g2,.slice z.a z.len z.cap] T.a32) r] (hz:FocR l z 3 (R.SR.flatMap encSR)) (hx:∀ s ∈ R.SR,FocR l s.x 7 (s.bs.flatMap encB7)) [hok:okR R l] (hs:Sat w l) :
  Ret P F.a119 #[.pointer (some ⟨a,0,none⟩)] w fun vs w'=>vs=[.int .i64 (nextL R.l)]∧Sat w' l :=
 zf128_calls _ <| by
  unfold zf128
  have hl:=hs.slen z (xs:=R.SR) (enc:=encSR)
  have hln:=hok.len
  refine wp_nn ?_
  refine wp_ldO hs ?_
  refine wp_if (fun h=>?_) fun h=>?_
  ·have h0:R.SR=[]:=List.length_eq_zero_iff.1 (by omega)
   refine ⟨rfl,?_,hs⟩
   unfold RefM.l;rw [h0];rfl
  have hil:R.SR.length-1<R.SR.length:=by omega
  refine wp_tk hs fun w' hs=>?_
  refine wp_nn ?_
  refine wp_ldO hs ?_
  refine wp_nn ?_
  refine wp_ldO hs ?_
  rw [w64 (by omega) (by omega)]
  refine wp_ixA hs (xs:=R.SR) (enc:=encSR) (R.SR.length-1) hil ?_
  obtain ⟨v1,v2,v3⟩:=hok.valid _ (List.getElem_mem hil)
  have hn:nextL R.l=R.SR[R.SR.length-1].p.reach:=by
   unfold nextL RefM.l
   rw [getLast_map,List.getLast?_eq_getElem?,List.getElem?_eq_getElem hil]
   rfl
  rw [hn]
  have hR:=hx _ (List.getElem_mem hil)
  have hb0:=hok.base _ (List.getElem_mem hil)
  refine wp_call (rreach_c R.SR[R.SR.length-1] (fun b hb=>(v2 b hb).1) (fun b hb=>(v2 b hb).2) (by omega) (by omega) (fun _=>hb0.1) hs) fun _ w' hs=>?_
  obtain ⟨rfl,hs⟩:=hs
  refine ret_of ?_
  refine wp_lt ?_
  refine wp_untick ?_
  exact ⟨rfl,rfl,hs⟩
theorem rplacedV_c (x:Sl) (bs:List BatM) [hb:FocB l a (.cells #[.int .i64 g1,.int .i64 g2,.slice z.a z.len z.cap] T.a32) r] (hz:FocR l z 3 (R.SR.flatMap encSR)) (hxs:∀ s ∈ R.SR,FocR l s.x 7 (s.bs.flatMap encB7)) [hok:okR R l]
  (hbl:bs.length≤100000) (hx:FocR l x 7 (bs.flatMap encB7)) (hbs:∀ b ∈ bs,FocR l b.x 4 (b.rs.flatMap encR)) (hs:Sat w l) :
  Ret P F.a120 #[.pointer (some ⟨a,0,none⟩),x.v] w fun vs w' =>
   ((placeL (nextL R.l) bs).1≠0∧vs=[.slice none 0 0,.int .i64 (placeL (nextL R.l) bs).1]∧Sat w' l) ∨
   ((placeL (nextL R.l) bs).1=0∧∃ z1:Sl,vs=[z1.v,.int .i64 0]∧Sat w' (slc T.a1 7 z1 ((placeL (nextL R.l) bs).2.flatMap encB7)::l)) :=
 zf129_calls _ x <| by
  unfold zf129
  have hl:=hs.slen x (xs:=bs) (enc:=encB7)
  refine wp_call (rnextV_c (a:=a) hz hxs hs) fun _ w' hs=>?_
  obtain ⟨rfl,hs⟩:=hs
  refine ret_of ?_
  refine wp_lt ?_
  generalize nextL R.l=n0
  refine wp_mid (fun q w'=>∃ z1:Sl,(placeL n0 bs).1=0∧q=(z1,())∧Sat w' (slc T.a1 7 z1 ((placeL n0 bs).2.flatMap encB7)::l)) ?_ ?_
  rotate_left
  ·rintro _ w2 ⟨z1,h1,rfl,hs⟩
   exact ⟨rfl,.inr ⟨h1,z1,rfl,hs⟩⟩
  have h0:Sat w' (slc T.a1 7 ⟨none,0,0⟩ (([]:List BatM).flatMap encB7)::l):=hs.slc_nil
  refine wp_loop (fun m v w=>∃ (i:Nat) (n:Int) (done:List BatM) (z1:Sl),v=(n,z1,(i:Int),())∧i≤bs.length∧bs.length-i=m∧done.length=i ∧
   placeL n0 bs=(if (placeL n (bs.drop i)).1≠0 then ((placeL n (bs.drop i)).1,[]) else (0,done++(placeL n (bs.drop i)).2)) ∧
   Sat w (slc T.a1 7 z1 (done.flatMap encB7)::l)) bs.length
   ⟨0,n0,[],⟨none,0,0⟩,rfl,by omega,rfl,rfl,?_,h0⟩ ?_
  ·rw [List.drop_zero,List.nil_append]
   by_cases h:(placeL n0 bs).1≠0
   ·rw [if_pos h]
    have:∀ {bs:List BatM} {n:Int},(placeL n bs).1≠0→(placeL n bs).2=[]:=by
     intro bs
     induction bs with
     | nil=>intro n h;exact absurd rfl h
     | cons b bs ih =>
      intro n h
      unfold placeL at h ⊢
      split
      ·rfl
      ·split
       ·rfl
       ·rename_i h1 h2
        rw [if_neg h1,if_neg h2] at h
        exact absurd rfl h
    rw [← this h]
   ·rw [if_neg h]
    have h:=Decidable.not_not.1 h
    rw [← h]
  clear hs h0
  rintro m _ w ⟨i,n,done,z1,rfl,hi,hm,hdl,hpl,hs⟩
  refine wp_on ?_
  refine wp_if (fun hc=>?_) fun hc=>?_
  rotate_left
  ·have e:bs.drop i=[]:=List.drop_eq_nil_of_le (by omega)
   rw [e] at hpl
   simp only [placeL,List.append_nil] at hpl
   have hpl:placeL n0 bs=(0,done):=by rw [hpl];rfl
   refine wp_pass (wp_lv ⟨z1,by rw [hpl],rfl,?_⟩)
   rw [hpl]
   exact hs
  have hil:i<bs.length:=by omega
  have hdrop:bs.drop i=bs[i]::bs.drop (i+1):=List.drop_eq_getElem_cons hil
  rw [hdrop] at hpl
  have hR:=hbs bs[i] (List.getElem_mem hil)
  refine wp_ixA hs (xs:=bs) (enc:=encB7) i hil ?_
  refine wp_newO hs fun a w' hs=>?_
  refine wp_stG hs fun w' hs=>?_
  refine wp_stO hs fun w' hs=>?_
  refine wp_ldG hs ?_
  have hRt:FocR l (bs[i].to n).x 4 ((bs[i].to n).rs.flatMap encR):=hR
  refine wp_call (dvalid_c (bs[i].to n) hs) fun _ w' hs=>?_
  have hunf:placeL n (bs[i]::bs.drop (i+1))=if validB (bs[i].to n)≠0 then (validB (bs[i].to n),[]) else if (placeL (n+spanB bs[i]) (bs.drop (i+1))).1≠0 then ((placeL (n+spanB bs[i]) (bs.drop (i+1))).1,[]) else (0,bs[i].to n::(placeL (n+spanB bs[i]) (bs.drop (i+1))).2):=rfl
  obtain ⟨rfl,hs⟩:=hs
  refine ret_of ?_
  refine wp_lt ?_
  refine wp_if (fun hv=>?_) fun hv=>?_
  ·refine wp_lt ?_
   rw [if_pos hv] at hunf
   have hpl:placeL n0 bs=(validB (bs[i].to n),[]):=by rw [hpl,hunf,if_pos hv]
   refine wp_pass (wp_pass ⟨rfl,.inl ⟨by rw [hpl];exact hv,by rw [hpl],hs.sub⟩⟩)
  ·have hv:=Decidable.not_not.1 hv
   rw [if_neg (by rw [hv];simp)] at hunf
   obtain ⟨s1,s2,⟨-,hba,-⟩,-,s3⟩:=span_le _ hv
   have s1:1≤spanB bs[i]:=s1
   have s3:n+spanB bs[i]≤_:=s3
   have hba:0≤n∧n≤_:=hba
   refine wp_ldG hs ?_
   refine wp_slit1 hs (enc:=encB7) (bs[i].to n) fun y2 w' hs=>?_
   refine wp_app' (xs:=done) (ys:=[bs[i].to n]) (enc:=encB7) hs (fun z1' w' hs=>?_) (by simp only [List.length_cons,List.length_nil];omega)
   refine wp_ldG hs ?_
   refine wp_call (dspan_c (bs[i].to n) hs) fun _ w' hs=>?_
   obtain ⟨rfl,hs⟩:=hs
   refine ret_of ?_
   have e1:spanB (bs[i].to n)=spanB bs[i]:=rfl
   rw [e1,w64 (by omega) (by omega)]
   refine wp_lt ?_
   rw [wS (i:=i) (by omega)]
   refine wp_lp (bs.length-(i+1)) ⟨i+1,n+spanB bs[i],done++[bs[i].to n],z1',rfl,by omega,rfl,by simp [hdl],?_,hs.sub⟩
   rw [hpl,hunf]
   by_cases h2:(placeL (n+spanB bs[i]) (bs.drop (i+1))).1≠0
   ·rw [if_pos h2,if_pos h2,if_pos h2]
   ·rw [if_neg h2,if_neg h2,if_neg (by simp),List.append_assoc]
    rfl
theorem dhead_c (base fin:Int) (hb:0≤base∧base<9223372036854775808) (hf:0≤fin∧fin<9223372036854775808) (hs:Sat w l):Ret P F.a116 #[.int .i64 base,.int .i64 fin] w fun vs w'=>∃ z:Sl,vs=[z.v]∧Sat w' (slc T.a34 1 z ((shL base fin).flatMap encU)::l) :=
 zf125_calls base fin <| by
  unfold zf125
  have u1_:=uI_len base
  have u2_:=uI_len fin
  refine wp_slit1 hs (enc:=encU) (83:UInt8) fun z1 w' hs=>?_
  refine wp_call (dint_c base hb hs) fun _ w' hs=>?_
  obtain ⟨z2,rfl,hs⟩:=hs
  refine ret_of ?_
  refine wp_app' (xs:=[(83:UInt8)]) (ys:=uI base) (enc:=encU) hs (fun z3 w' hs=>?_) (by simp only [List.length_cons,List.length_nil];omega)
  refine wp_call (dint_c fin hf hs) fun _ w' hs=>?_
  obtain ⟨z4,rfl,hs⟩:=hs
  refine ret_of ?_
  refine wp_app' (xs:=[(83:UInt8)]++uI base) (ys:=uI fin) (enc:=encU) hs (fun z5 w' hs=>?_) (by simp only [List.length_append,List.length_cons,List.length_nil];omega)
  have e:[(83:UInt8)]++uI base++uI fin=shB base fin:=by simp [shB]
  rw [e] at hs
  have:=shB_len base fin
  refine wp_call (dseal_c z5 (shB base fin) (by omega) hs) fun _ w' hs=>?_
  obtain ⟨z6,rfl,hs⟩:=hs
  refine ret_of ?_
  have hs:Sat w' (slc T.a34 1 z6 ((shL base fin).flatMap encU)::_):=hs
  exact ⟨rfl,z6,rfl,hs.sub⟩
theorem rsize_c (b:BatM) (hv:validB b=0) [hb:FocR l b.x 4 (b.rs.flatMap encR)] (hs:Sat w l):Ret P F.a123 #[.agg (encB7 b).toArray] w fun vs w'=>vs=[.int .i64 ((frL b).length:Nat)]∧Sat w' l :=
 zf132_calls b.base b.pid b.epoch b.seq b.kind b.time b.x <| by
  unfold zf132
  have hbl:=batL_len hv
  have hfl:=frL_len hv
  refine wp_boxO hs fun a0 w' hs=>?_
  refine wp_ldG hs ?_
  refine wp_call (dencode_c b hs) fun _ w' hs=>?_
  rcases hs with ⟨h,-,-⟩|⟨-,z,rfl,hs⟩
  ·exact absurd hv h
  refine ⟨(z,0,()),rfl,trivial,wp_u2 _ _ ?_⟩
  have hl:=hs.slen z (xs:=batL b) (enc:=encU)
  refine wp_lt ?_
  rw [hl,w64 (by omega) (by omega)]
  refine wp_lt ?_
  refine ⟨rfl,?_,hs.sub⟩
  rw [hfl.2];rfl
theorem rsegsize_c (s:SegR) [hx:FocR l s.x 7 (s.bs.flatMap encB7)] (hok:SegOk s.p) (hv:∀ b ∈ s.bs,validB b=0) (hbs:∀ b ∈ s.bs,FocR l b.x 4 (b.rs.flatMap encR)) (hb:s.bs.length≤1000000) (hs:Sat w l) :
  Ret P F.a122 #[.agg (encSR s).toArray] w fun vs w'=>vs=[.int .i64 (s.p.file.length:Nat)]∧Sat w' l :=
 zf131_calls s.base s.fin s.x <| by
  unfold zf131
  have hl:=hs.slen s.x (xs:=s.bs) (enc:=encB7)
  have h1:=hok.base
  have h2:=hok.fin
  have h1:0≤s.base∧s.base≤1099511627776:=h1
  have h2:s.fin=0∨(s.base<s.fin∧s.fin≤1099511627776):=h2
  have hsum:=bat_sum hv
  have hshl:=shL_len s.base s.fin
  have hfe:s.p.file.length=(shL s.base s.fin).length+(s.bs.flatMap frL).length:=by
   rw [file_len]
   show (shL s.base s.fin).length+((s.bs.map BatM.p).flatMap frL).length=_
   rw [List.flatMap_map]
   rfl
  rw [hfe]
  refine wp_boxO hs fun a0 w' hs=>?_
  refine wp_ldO hs ?_
  refine wp_ldO hs ?_
  refine wp_call (dhead_c s.base s.fin (by omega) (by omega) hs) fun _ w' hs=>?_
  obtain ⟨y,rfl,hs⟩:=hs
  refine ret_of ?_
  have hly:=hs.slen y (xs:=shL s.base s.fin) (enc:=encU)
  refine wp_lt ?_
  refine wp_ldO hs ?_
  refine wp_mid (fun q w'=>q=((((shL s.base s.fin).length+(s.bs.flatMap frL).length:Nat):Int),())∧Sat w' l) ?_ ?_
  rotate_left
  ·rintro _ w2 ⟨rfl,hs⟩
   refine wp_lt ?_
   exact ⟨rfl,rfl,hs⟩
  have hs:Sat w' l:=hs.sub
  refine wp_loop (fun m v w=>∃ i:Nat,v=((((shL s.base s.fin).length+((s.bs.take i).flatMap frL).length:Nat):Int),((i:Int),()))∧i≤s.bs.length∧s.bs.length-i=m∧Sat w l) s.bs.length ⟨0,by rw [hly];rfl,by omega,rfl,hs⟩ ?_
  clear hs
  rintro m _ w ⟨i,rfl,hi,hm,hs⟩
  refine wp_on ?_
  refine wp_if (fun hc=>?_) fun hc=>?_
  rotate_left
  ·refine wp_pass (wp_lv ⟨?_,hs⟩)
   rw [List.take_of_length_le (by omega)]
  have hil:i<s.bs.length:=by omega
  have hR:=hbs _ (List.getElem_mem hil)
  have hvi:=hv _ (List.getElem_mem hil)
  have e1:((s.bs.take (i+1)).flatMap frL).length=((s.bs.take i).flatMap frL).length+(frL s.bs[i]).length:=by
   rw [List.take_succ_eq_append_getElem hil,List.flatMap_append,List.length_append];simp
  have e2:((s.bs.take (i+1)).flatMap frL).length≤(s.bs.flatMap frL).length:=by
   have:s.bs.flatMap frL=(s.bs.take (i+1)).flatMap frL++(s.bs.drop (i+1)).flatMap frL:=by rw [← List.flatMap_append,List.take_append_drop]
   rw [this,List.length_append];omega
  refine wp_ixA hs (xs:=s.bs) (enc:=encB7) i hil ?_
  refine wp_newO hs fun c w' hs=>?_
  refine wp_stG hs fun w' hs=>?_
  refine wp_ldG hs ?_
  refine wp_call (rsize_c s.bs[i] hvi hs) fun _ w' hs=>?_
  obtain ⟨rfl,hs⟩:=hs
  refine ret_of ?_
  rw [w64 (by omega) (by omega)]
  refine wp_lt ?_
  rw [wS (i:=i) (by omega)]
  refine wp_lp (s.bs.length-(i+1)) ⟨i+1,?_,by omega,rfl,hs.tail⟩
  rw [e1]
  refine Prod.ext ?_ rfl
  show _=(((shL s.base s.fin).length+(((s.bs.take i).flatMap frL).length+(frL s.bs[i]).length):Nat):Int)
  omega
end
end Go.Dec
