/- Parts of the proof of the row WatParses: contracts of functions, each under the conditions that its theorem names. -/
import Derived.Test.YtohfclafhegadaaGreatDoorZA
import Derived.Test.YtohfclafhegadaaGreatDoorShelf
import Derived.Lib.ItoaLen
import Derived.Test.YtohfclafhegadaaGreatDoorTie
import Derived.ProofKit
import Derived.OpenShut
import Derived.ChangeOld
import Derived.ChangeSame
import Derived.ChangeVars
import Derived.Lib.LaidTab
import Derived.LaidLaws
import Derived.LaidHandle
import Derived.ShapedOpen
import Derived.Lay
import Derived.LaidMore
import Derived.Test.YtohfclafhegadaaGreatDoorCards
import Derived.Test.YtohfclafhegadaaGreatDoorAbsB
set_option linter.unusedSimpArgs false
set_option linter.unusedVariables false
set_option maxRecDepth 100000
open List renaming map_cons→yaL,map_nil→ycL,mem_singleton→ych,map_append→ycM,mem_append→ybh,length_pos_iff→ybm,getElem_cons_zero→yaz,getElem?_eq_some_iff→yaq,length_cons→yac,length_nil→ybl,getElem?_eq_getElem→yau,getElem?_cons_zero→ycS,flatMap_cons→yaa,cons_append→yco,append_assoc→yck,length_append→yab,length→yb8,drop_eq_getElem_cons→ycT,drop_eq_nil_of_le→yci,append_nil→ycH,mem_of_getElem?→ycd,getElem_mem→yaw,tail_cons→ycW,getD_eq_getElem?_getD→ycX,getElem?_map→ycY,contains_cons→ycZ,contains_nil→yc0,dropWhile_cons_of_pos→yc1,take_succ_eq_append_getElem→yca,drop_append_of_le_length→yc2,dropWhile_cons_of_neg→yc3,take_of_length_le→ycu,all_cons→yb6,length_drop→ycq,length_eq_zero_iff→ybR,cons→yc4,length_take→ybf,find?_eq_none→ycJ
open Nat renaming le_refl→yah,zero_add→ycR,not_lt_zero→yaA,le_trans→yai,lt_of_lt_of_le→yag,zero_le→ycV,le_succ_of_le→ycp
open Option renaming map_eq_some_iff→ybB,some→yaR
open Int renaming toNat_natCast→ybe
open Go.Proofs.Tryz renaming prog→yb5,func175→ycP,ntmps175→ycQ
open Go.IntKind renaming i64→yam,wrap→yb3,signed→yao,bits→yap
open Go.Abs.AV renaming ptr→ycN,nilsl→ycO,int→ycc,str→yce,pv→ycU
namespace Go.Proofs.YtohfclafhegadaaGreatDoor
open Go Go.Abs
theorem zng{el:Option TypeId}{bsz base:Nat}{τ0 τ:AS}{v row:AV}{l:List F}{f:F}{gN:Nat}{K:AV→AS→Prop}(h:Al.OutE τ0 base v l)(hrow:Al.FVE row (f,gN))(hn:τ0.nf≤τ.nf)(hF:∀g,g<τ0.nf→τ.F g=τ0.F g)(hb:base≤τ0.nf)(g1:τ0.nf≤gN)(g2:gN<τ.nf)(g3:τ.F gN=.alive)
  (hl:(l.length+1)*bsz≤2^47) (hK:∀v' τ',Al.OutE τ' base v' (l++[f])→τ'.objs=τ.objs→τ'.no=τ.no→τ'.nf=τ.nf+1→(∀g,g<τ.nf→g<base∨τ0.nf≤g→τ'.F g=τ.F g)→K v' τ'):zcb el bsz 5 v [row] τ K:=by
 have hrc:row.cells.length=5:=zm1 hrow
 rcases h with ⟨rfl,rfl⟩|⟨g,rows,ps,rfl,h1,h2,h3,h4,h5,h6⟩
 ·have hne:¬gN=τ.nf:=by omega
  have:=hK (.sl (.fam τ.nf false) 5 [row]) τ.newF (.inr ⟨τ.nf,[row],[(f,gN)],rfl,by omega,by simp,by simp,rfl,.cons hrow .nil,⟨by simp,fun x hx=>by
   simp only[yaL,ycL,ych]at hx
   subst hx
   exact⟨by omega,by simp;omega,by simp[hne,g3],hne⟩⟩⟩) (by simp) (by simp) (by simp) (fun g' a _=>by
    have:¬g'=τ.nf:=by omega
    simp[this])
  simp at hl
  simp
  first|exact this|exact⟨by omega,this⟩
 ·have hgg:¬g=τ.nf:=by omega
  have hne:¬gN=τ.nf:=by omega
  have hng:¬gN=g:=by omega
  have ha:τ.F g=.alive:=(hF g h2).trans h3
  have hlen:rows.length=l.length:=by rw[h5.length,←h4];simp
  have:=hK (.sl (.fam τ.nf false) 5 (rows++[row])) (τ.setF g .dead).newF (.inr ⟨τ.nf,rows++[row],ps++[(f,gN)],rfl,by omega,by simp,by simp,by simp[h4],h5.append (.cons hrow .nil),⟨by
   rw[ycM,List.nodup_append]
   refine⟨h6.nd,by simp,fun a ha b hb=>?_⟩
   simp only[yaL,ycL,ych]at hb
   have:=(h6.each a ha).2.1
   omega,fun x hx=>by
   rw[ycM,ybh]at hx
   rcases hx with hx|hx
   ·obtain⟨q1,q2,q3,q4⟩:=h6.each x hx
    have e1:¬x=τ.nf:=by omega
    exact⟨q1,by simp;omega,by simp[e1,q4,(hF x q2).trans q3],e1⟩
   ·simp only[yaL,ycL,ych]at hx
    subst hx
    exact⟨by omega,by simp;omega,by simp[hne,hng,g3],hne⟩⟩⟩) (by simp) (by simp) (by simp) (fun g' a b=>by
    have e1:¬g'=τ.nf:=by omega
    have e2:¬g'=g:=by omega
    simp[e1,e2])
  simp[ha]
  exact⟨by rw[hlen];exact hl,this⟩
section
variable {G : Env} {σ : AS} {R : Out → AS → Prop}
theorem zhZ{τ base v l}(h:Al.OutE τ base v l):v.known=true∧v.one=true∧v.cells=[v]:=by
 rcases h with ⟨_,rfl⟩|⟨_,_,_,rfl,_⟩<;>simp
def PlI(σ:AS)(base x:Nat)(mem:Int)(k0:Nat)(s0:Ts)(a:Nat→AV)(τ:AS):Prop:=∃(k:Nat) (l:List F) (s:Ts) (fv:AV),zA 24 k0 [] s0=zA 24 k l s∧s.b.length<k∧l.length+s.b.length≤s0.b.length∧PsW σ base x s fv mem 0 τ∧Al.OutE τ σ.nf fv l∧a 2=.ptr σ.no 0∧a 3=.ptr (σ.no+1) 0∧a 4=.ptr x 0
theorem zjW{w:List UInt8}{s s':Ts}(h:zh7 w s=some s'):s'.b.length+1≤s.b.length:=by
 unfold zh7 at h
 cases e:zcV s.b with
 | none=>rw[e]at h;cases h
 | some p =>
  obtain⟨p1,p2⟩:=p
  rw[e]at h
  simp only at h
  split at h
  ·cases e2:zcV p2 with
   | none=>rw[e2]at h;cases h
   | some q =>
    obtain⟨q1,q2⟩:=q
    rw[e2]at h
    simp only at h
    split at h
    ·cases h
     have l1:=zau e
     have l2:=(zau e2).1
     have:=ybm.2 l1.2
     simp only
     omega
    ·cases h
  ·cases h
theorem zlH(V:za9 G)(h00:0<σ.nf){base x k0 s0 mem}(hs36:s0.b.length<2^36)(hn:∀e,((zA 24 k0 [] s0).bind fun fs=>zhX fs.1 mem fs.2)=.error e→∀σ',zf σ σ'→R (.ret (.tuple [zZ,.int .i64 e])) σ')
  (hs:∀m s',((zA 24 k0 [] s0).bind fun fs=>zhX fs.1 mem fs.2)=.ok (m,s')→∀mv σ',Al.ME σ' σ.nf mv m→zf σ σ'→R (.ret (.tuple [mv,.int .i64 0])) σ') {a:Nat→AV} {τ:AS} (hI:PlI σ base x mem k0 s0 a τ) :
  avc yb5 G 45 zfr (zaO (fun a' σ'=>PlI σ base x mem k0 s0 a' σ'∧MBt x a' σ'<MBt x a τ) (zak 0 (zaO (avc yb5 G 45 zdA (aq (zbX yb5 G 9 zen 3 2 [.ptr σ.no 0,.ptr (σ.no+1) 0] [.cell 2 28,.cell 3 33] R))) (aq (zbX yb5 G 9 zen 3 2 [.ptr σ.no 0,.ptr (σ.no+1) 0] [.cell 2 28,.cell 3 33] R))))) a τ:=by
 obtain⟨k,l,s,fv,he,hk,hlb,hP,hO,a2,a3,a4⟩:=hI
 obtain⟨k,rfl⟩:∃j,k=j+1:=⟨k-1,by omega⟩
 have hmb:=zc2 hP.rd a
 rw[zA]at he
 simp[zfr,a4]
 refine zpC (w:=zbD) hP.rd (by decide) (fun q τ1 hW1 K1=>?_) (fun s1 q τ1 hW1 K1=>?_)
 ·have hP1:=hP.keepS hW1 K1
  have hO1:=zd4 hO K1.nf fun f hf=>K1.fam f hf
  rw[q]at he
  simp only at he
  rw[he]at hn hs
  simp
  exact znf V hP1 hO1 (by simp[a2]) (by simp[a3]) (by simp[a4]) hn hs
 ·have hP1:=hP.keepS hW1 K1
  have hO1:=zd4 hO K1.nf fun f hf=>K1.fam f hf
  rw[q]at he
  simp only at he
  have mo1:=hP1.mo
  have hlt:=zjW q
  have f1:=zhZ hO1
  simp[a2,a4,mo1,f1]
  refine zlG V hW1 (fun e q2=>?_) ?_
  ·intro σ' K
   simp
   exact hP1.hand K (by simp[zdu,a2]) (by simp[zdu,a3]) (hn e (by rw[he,q2];rfl))
  ·intro f s2 q2 pv lv tv τ2 hp hl hW2 hx2 KF hfam hls
   rw[q2]at he
   simp only[Except.bind]at he
   have x0:=hP.x0
   have hx1:=hW1.hx
   have mo2:=(KF.obj σ.no (by omega) (by omega) (by omega)).trans mo1
   have eo2:=(KF.obj (σ.no+1) (by omega) (by omega) (by omega)).trans hP1.eo
   have p1:=hp.one
   have l1:=hl.one
   obtain⟨lv2,ho2,htv⟩:=hW2.cells
   rw[hx2]at ho2
   cases ho2
   have t1:=htv.one
   have hne:=zcD q2
   have An:=hP1.ad.nf
   have Ad2:zf σ τ2:=KF.adds0 hP1.ad (by omega) (by omega)
   rw[hls]at htv
   rcases htv with ⟨h0,_⟩|⟨gN,tos,rfl,t2,t3,t4,t5⟩
   ·exact absurd h0 hne.1
   ·have hgN:τ1.nf≤gN:=hfam gN rfl
    have hrow:Al.FVE (.agg [.str f.name,pv,lv,.int .i64 f.type,.sl (.fam gN false) 1 tos]) (f,gN):=⟨pv,lv,_,rfl,hp,hl,.inr ⟨tos,rfl,t5⟩⟩
    simp[mo2,f1,p1,l1,a2]
    have hlen2:l.length≤2^36:=by omega
    refine zng hO1 hrow KF.nf KF.fam An hgN t3 t4 (by omega) fun v' τ' O' e1 e2 e3 e4=>?_
    have g1:=zhZ O'
    have mo3:τ'.objs σ.no=some [fv,.int .i64 mem,.int .i64 0]:=by rw[e1];exact mo2
    have eo3:τ'.objs (σ.no+1)=some [.int .i64 0]:=by rw[e1];exact eo2
    have kn:=KF.nf
    have hW3:Wr base x s2 τ':=hW2.famF e1 e2 (by omega) fun f' hf'=>by
     rcases hf' with rfl|⟨cs,w,u1,u2,u3⟩
     ·exact e4 0 (by omega) (.inl h00)
     ·rw[hx2]at u1
      cases u1
      simp at u2
      subst u2
      cases u3
      exact e4 gN t3 (.inr hgN)
    have An2:=Ad2.no
    have Af2:=Ad2.nf
    have Ad3:zf σ τ':=⟨by omega,by omega,fun o ho=>by rw[e1];exact Ad2.obj o ho,fun f' hf'=>(e4 f' (by omega) (.inl hf')).trans (Ad2.fam f' hf')⟩
    have hP3:PsW σ base x s2 fv mem 0 τ':=⟨hW3,Ad3,x0,hP.b0,mo3,eo3⟩
    have hP4:=hP3.setM (fv':=v') (mem':=mem) (mn':=0)
    have O4:Al.OutE (τ'.setO σ.no [v',.int .i64 mem,.int .i64 0]) σ.nf v' (l++[f]):=zd4 O' (yah _) fun _ _=>rfl
    simp[mo3,splice,g1,a2]
    refine⟨⟨k,l++[f],s2,v',he,by omega,by simp;omega,hP4,O4,by simp[a2],by simp[a3],by simp[a4]⟩,?_⟩
    rw[zc2 hP4.rd,hmb]
    omega
theorem zfR(V:za9 G)(h00:0<σ.nf∧σ.F 0=.alive){b:List UInt8}(hok:zgo b)(hl:b.length<2^36)
  (hn:∀e,zaK 24 b=.error e→∀σ',zf σ σ'→R (.ret (.tuple [zZ,.int .i64 e])) σ')
  (hs:∀m,zaK 24 b=.ok m→∀mv σ',Al.ME σ' σ.nf mv m→zf σ σ'→R (.ret (.tuple [mv,.int .i64 0])) σ'):zzQ G 19 [.str b] σ R:=by
 refine zge (px:=zqN) (pz:=zqO) (k:=55) (py:=zen) (n:=45) (nk:=9) (t:=5) (d0:=3) (d1:=2) (res:=[.cell 2 28,.cell 3 33]) zm Tryz.func19 rfl rfl rfl rfl (by kernel_rfl) (by kernel_rfl) (by simp) rfl rfl rfl rfl rfl rfl (by decide) Tryz.func55 rfl (by kernel_rfl) rfl rfl rfl rfl rfl rfl rfl rfl rfl (by kernel_rfl) (by decide) (by decide) (by decide) ?_
 have hpe:zaK 24 b=(zbp 24 ⟨b,[]⟩).map (·.1):=rfl
 have hn':∀e,zbp 24 ⟨b,[]⟩=.error e→∀σ',zf σ σ'→R (.ret (.tuple [zZ,.int .i64 e])) σ':=fun e q=>hn e (by rw[hpe,q];rfl)
 have hs':∀m s',zbp 24 ⟨b,[]⟩=.ok (m,s')→∀mv σ',Al.ME σ' σ.nf mv m→zf σ σ'→R (.ret (.tuple [mv,.int .i64 0])) σ':=fun m s' q=>hs m (by rw[hpe,q];rfl)
 clear hn hs hpe
 simp[zqN]
 have ecap:List.map (ev G (upd (upd (zbC [.str b]) 2 (ycN σ.no 0)) 3 (ycN (σ.no+1) 0))) #[Operand.tmp 2,Operand.tmp 3].toList=[.ptr σ.no 0,.ptr (σ.no+1) 0]:=rfl
 rw[ecap]
 generalize hfr:upd (upd (upd (zbC [.str b]) 2 (ycN σ.no 0)) 3 (ycN (σ.no+1) 0)) 5 (AV.fn (Fn.func 55) [] [ycN σ.no 0,ycN (σ.no+1) 0])=fr
 have fr0:fr 0=.str b:=by rw[←hfr];simp
 have fr2:fr 2=.ptr σ.no 0:=by rw[←hfr];simp
 have fr3:fr 3=.ptr (σ.no+1) 0:=by rw[←hfr];simp
 rw[zd5]at hs'
 simp only[zd5]at hn'
 simp[zqO,fr0,splice]
 have hP:PsW σ σ.nf (σ.no+1+1) ⟨b,[]⟩ .nilsl 0 0 (((σ.newO [ycO,ycc yam 0,ycc yam 0]).newO [ycc yam 0]).newO [yce b,ycO]) :=
  ⟨⟨by simp,⟨by simpa using h00.1,by simp⟩,by simpa using h00.2,hok,hl,.nilsl,by simp,.inl ⟨rfl,rfl⟩⟩,(zf.refl σ).newO.newO.newO,by omega,yah _,by
   have:¬σ.no=σ.no+1+1:=by omega
   simp[this],by simp⟩
 have hno:(((σ.newO [ycO,ycc yam 0,ycc yam 0]).newO [ycc yam 0]).newO [yce b,ycO]).no=σ.no+1+1+1:=by simp
 have hnf:(((σ.newO [ycO,ycc yam 0,ycc yam 0]).newO [ycc yam 0]).newO [yce b,ycO]).nf=σ.nf:=by simp
 generalize ((σ.newO [ycO,ycc yam 0,ycc yam 0]).newO [ycc yam 0]).newO [yce b,ycO]=τ0 at *
 refine Hd.fields_calls V.space fun y σ' A y1 y2 y3=>?_
 have hP1:=hP.adds A
 simp
 refine zhU (ts:=zaX) hP1.rd (.inr ⟨y,rfl,y2,by omega,y3⟩) (by decide) (fun e q=>?_) (fun s1 q τ1 hW1 K1=>?_)
 ·intro σ'' K
  simp
  exact hP1.hand K (by simp[zdu,fr2]) (by simp[zdu,fr3]) (hn' e (by rw[q];rfl))
 ·have hP2:=hP1.keepS hW1 K1
  rw[q]at hs'
  simp only[q,Except.bind]at hn' hs'
  simp
  refine zhV V hW1 (fun e q2=>?_) (fun mem s2 q2 r1 r2 τ2 hW2 K2=>?_)
  ·intro σ'' K
   simp
   exact hP2.hand K (by simp[zdu,fr2]) (by simp[zdu,fr3]) (hn' e (by rw[q2]))
  ·have hP3:=hP2.keepS hW2 K2
   rw[q2]at hs'
   simp only[q2]at hn' hs'
   have mo3:=hP3.mo
   simp[fr2,mo3,splice]
   have hP4:=hP3.setM (fv':=.nilsl) (mem':=mem) (mn':=0)
   generalize τ2.setO σ.no [.nilsl,.int .i64 mem,.int .i64 0]=τ3 at *
   refine zhU (ts:=[zi,zi]) hP4.rd (.inl ⟨true,rfl⟩) (by decide) (fun e q3=>?_) (fun s4 q3 τ4 hW4 K4=>?_)
   ·intro σ'' K
    simp
    exact hP4.hand K (by simp[zdu,fr2]) (by simp[zdu,fr3]) (hn' e (by rw[q3]))
   ·have hP5:=hP4.keepS hW4 K4
    rw[q3]at hs'
    simp only[q3]at hn' hs'
    simp
    refine zK (PlI σ σ.nf (σ.no+1+1) mem (s4.b.length+1) s4) (MBt (σ.no+1+1)) ⟨s4.b.length+1,[],s4,.nilsl,rfl,by omega,by simp,hP5,.inl ⟨rfl,rfl⟩,by simp[fr2],by simp[fr3],by simp⟩ fun a τ hI=>?_
    exact zlH V h00.1 hW4.len hn' hs' hI
end
end Go.Proofs.YtohfclafhegadaaGreatDoor
namespace Go.Proofs.YtohfclafhegadaaGreatDoor
open Go Go.Abs Go.Shelf Go.RowKit
theorem zwL:liesAt yb5 yb5.depth 88 (2/yb5.cellsOf 88) 0 86 1=true:=by kernel_rfl
theorem u84:yb5.underlying 84=some (.pointer 86):=by kernel_rfl
theorem zCC:yb5.underlying 244=some .unsafePointer:=by kernel_rfl
theorem zq0:(yb5.info? 86).map (·.size)=some 2:=by kernel_rfl
set_option maxHeartbeats 1000000 in
theorem zsN(b:Nat)(w:World)(h0:w.cell? ⟨b,0,none⟩=some (.pointer (some ⟨b,0,none⟩))):
  Calls yb5 175 #[.pointer (some ⟨b,0,none⟩)] w fun e w'=>e=.returned (.tuple #[])∧w'=w:=by
 obtain⟨j,hj,_⟩:=ybB.1 zq0
 go_enter ycP,ycQ
 go_wp2
 rw[Lib.run_neq_ptr_same w _ u84 hj]
 go_wp2
 go_end0
 exact⟨rfl,rfl⟩
set_option maxHeartbeats 1000000 in
theorem zpK(b:Nat)(w:World)(h0:w.cell? ⟨b,0,none⟩=some (.pointer none))(hsh:w.shape? b=some (88,2))(hfz:w.frozen? ⟨b,0,none⟩=false):
  Calls yb5 175 #[.pointer (some ⟨b,0,none⟩)] w fun e w'=>e=.returned (.tuple #[])∧w'=w.setCell ⟨b,0,none⟩ (.pointer (some ⟨b,0,none⟩)):=by
 obtain⟨j,hj,hjs⟩:=ybB.1 zq0
 go_enter ycP,ycQ
 go_wp2
 rw[Lib.run_to_unsafe w ⟨b,0,none⟩ u84 zCC hj (by rw[hjs];decide) hsh (Nat.zero_lt_succ 1)]
 simp only[Result.andThen]
 rw[Oper.upon_value]
 go_wp2
 rw[run_callFunc_extern Tryz.func211 (by kernel_rfl) (by kernel_rfl) (by kernel_rfl) (e:=Extern.AbiNoEscape.same) (by kernel_rfl)]
 rw[Lib.run_noEscape]
 simp only[Result.andThen]
 rw[Oper.upon_value]
 go_wp2
 rw[Lib.run_from_unsafe w ⟨b,0,none⟩ zCC u84 hj hsh zwL]
 simp only[Result.andThen]
 rw[Oper.upon_value]
 go_wp2
 go_end0
 exact⟨rfl,rfl⟩
section
variable {G : Env} {σ : AS} {R : Out → AS → Prop}
def zwM(o:Nat)(v:AV):Prop:=v=.nilp∨v=.pt 88 2 o 0
theorem zfS{o:Nat}{v u:AV}(ho:σ.objs o=some [v,u])(hv:zwM o v)(h:∀σ',σ'=σ.setO o [.pt 88 2 o 0,u]→R (.ret (.tuple [])) σ'):zzQ G 175 [.pt 88 2 o 0] σ R:=by
 intro M w cargs S g hc
 obtain⟨c,rfl,hcv⟩:=zsB hc
 obtain⟨q1,q2,⟨cc,z,q3,q4⟩,rfl⟩:=zkb hcv
 obtain⟨r1,r2,r3⟩:=S.obj o _ ho
 obtain⟨c0,s1,s2,s3⟩:=r3 0 (by simp)
 rw[q2]at s1 s2
 simp only[ycR,Nat.add_zero]at s1 s2
 have hpt:VR M σ.F w (.pt 88 2 o 0) (.pointer (some ⟨(M.obj o).1,0,none⟩)):=hcv
 rcases hv with rfl|rfl
 ·have hc0:c0=.pointer none:=by
   simp only[yaz]at s3
   cases s3
   rfl
  subst hc0
  have hsh:w.shape? (M.obj o).1=some (88,2):=by simp[World.shape?,q3,q4]
  refine(zpK _ w s1 hsh s2).mono fun e w' ⟨he,hw⟩=>?_
  subst he
  obtain⟨w2,hrun,S',E'⟩:=ziv (P:=yb5) S ho (off:=0) (vs:=[.pt 88 2 o 0]) (l:=[.pointer (some ⟨(M.obj o).1,0,none⟩)]) (by simp) rfl (by simp[Value.oneCell']) (fun j h1 h2=>by
   have:j=0:=by simp at h1;omega
   subst this
   exact hpt)
  have hw2:w2=w':=by
   have hrun2:=run_storeCells_cells (P:=yb5) (M.obj o).1 ((M.obj o).2+0) [.pointer (some ⟨(M.obj o).1,0,none⟩)] 0 w (fun j hj=>by
    have:j=0:=by simp at hj;omega
    subst this
    rw[q2]
    simp only[ycR,Nat.add_zero]
    rw[s1];rfl) (fun j hj=>by
    have:j=0:=by simp at hj;omega
    subst this
    rw[q2]
    simpa using s2) (by simp[Value.oneCell'])
   rw[hrun2]at hrun
   cases hrun
   rw[hw,q2]
   rfl
  subst hw2
  refine⟨.ret (.tuple []),_,M,h _ ?_,.tuple _ _ rfl (fun j h=>absurd h (yaA _)),S',E'⟩
  simp[splice]
 ·have hc0:c0=.pointer (some ⟨(M.obj o).1,0,none⟩):=by
   simp only[yaz]at s3
   exact(zkb s3).2.2.2
  subst hc0
  refine(zsN _ w s1).mono fun e w' ⟨he,hw⟩=>?_
  subst he hw
  have e1:σ.setO o [.pt 88 2 o 0,u]=σ:=by
   unfold AS.setO
   have:upd σ.objs o (some [.pt 88 2 o 0,u])=σ.objs:=by
    funext x
    by_cases hx:x=o
    ·subst hx;simp[ho]
    ·simp[hx]
   rw[this]
  refine⟨.ret (.tuple []),σ,M,h _ e1.symm,.tuple _ _ rfl (fun j h=>absurd h (yaA _)),S,.refl ..⟩
end
theorem zwN{P:Program}{G:Env}{f:FuncId}{args:List AV}{σ:AS}{R:Out→AS→Prop}{o i:Nat}{cs:List AV}{e:Nat}(ho:σ.objs o=some cs)(hi:cs[i]?=some .nilsl)(h:ACalls P G f args (σ.setO o (splice cs i [.tys e .nilsl])) R):ACalls P G f args σ R:=by
 intro M w cargs S g c
 have hil:i<cs.length:=(yaq.1 hi).1
 have hb:i+[AV.tys e .nilsl].length≤cs.length:=by simp only[yac,ybl];omega
 have S':Sim M (σ.setO o (splice cs i [.tys e .nilsl])) w:=by
  refine⟨S.no,S.nf,S.role,fun x cs' hx=>?_,fun x y hx hy hxy=>?_⟩
  ·by_cases hxo:x=o
   ·subst hxo
    simp only[AS.setO,zc]at hx
    cases hx
    obtain⟨a1,a2,a3⟩:=S.obj x cs ho
    refine⟨a1,a2,fun j hj=>?_⟩
    have hj':j<cs.length:=by rwa [zbf hb]at hj
    obtain⟨u,h1,h2,h3⟩:=a3 j hj'
    refine⟨u,h1,h2,?_⟩
    have e1:=zbh (cs:=cs) (vs:=[AV.tys e .nilsl]) (off:=i) (j:=j) hb
    rw[yau hj]at e1
    by_cases hji:j=i
    ·subst hji
     rw[if_pos (by simp)]at e1
     simp only[Nat.sub_self,ycS,yaR.injEq]at e1
     rw[e1]
     have e2:cs[j]=.nilsl:=by
      rw[yau hj']at hi
      exact yaR.inj hi
     rw[e2]at h3
     have e3:=zar h3
     subst e3
     exact .tys e .nilsl _ h3 trivial
    ·rw[if_neg (by simp only[yac,ybl];omega),yau hj']at e1
     rw[yaR.inj e1]
     exact h3
   ·simp only[AS.setO]at hx
    rw[zd _ _ hxo]at hx
    exact S.obj x cs' hx
  ·have key:∀z,((σ.setO o (splice cs i [.tys e .nilsl])).objs z).isSome=true→(σ.objs z).isSome=true:=by
    intro z hz
    by_cases hzo:z=o
    ·subst hzo;rw[ho];rfl
    ·simp only[AS.setO]at hz;rwa [zd _ _ hzo]at hz
   exact S.inj x y (key x hx) (key y hy) hxy
 exact h M w cargs S' g c
theorem zCN:yb5.underlying 160=some (.pointer 5):=by kernel_rfl
theorem zwO:yb5.cellsOf 5=1:=by kernel_rfl
def zq1(σ0 σ:AS)(v:AV)(bs:List UInt8):Prop:=(bs=[]∧v=.tys 5 .nilsl)∨∃g,v=.tys 5 (.sl (.fam g false) 1 (B bs))∧σ0.nf≤g∧g<σ.nf∧σ.F g=.alive∧bs≠[]
theorem zq1.one{σ0 σ v bs}(h:zq1 σ0 σ v bs):v.known=true∧v.one=true∧v.cells=[v]:=by
 rcases h with ⟨_,rfl⟩|⟨g,rfl,_⟩<;>simp
structure Pw(σ0:AS)(x:Nat)(bs:List UInt8)(τ:AS):Prop where
 x0:σ0.no≤x
 hx:x<τ.no
 ad:zf σ0 τ
 cells:∃hd v,τ.objs x=some [hd,v]∧zwM x hd∧zq1 σ0 τ v bs
structure PwK(x:Nat)(τ τ':AS):Prop where
 no:τ.no≤τ'.no
 obj:∀o,o<τ.no→o≠x→τ'.objs o=τ.objs o
theorem PwK.refl(x τ):PwK x τ τ:=⟨yah _,fun _ _ _=>rfl⟩
theorem PwK.trans{x a b c}(h:PwK x a b)(k:PwK x b c):PwK x a c:=⟨yai h.no k.no,fun o h1 h2=>(k.obj o (yag h1 h.no) h2).trans (h.obj o h1 h2)⟩
theorem zf.pwk{x a b}(A:zf a b):PwK x a b:=⟨A.no,fun o h _=>A.obj o h⟩
theorem PwK.set{x a b cs}(h:PwK x a b):PwK x a (b.setO x cs):=⟨h.no,fun o h1 h2=>by
 simp[h2]
 exact h.obj o h1 h2⟩
theorem Pw.adds{σ0 x bs τ τ'}(h:Pw σ0 x bs τ)(A:zf τ τ'):Pw σ0 x bs τ':=by
 obtain⟨hd,v,h1,h2,h3⟩:=h.cells
 refine⟨h.x0,yag h.hx A.no,h.ad.trans A,hd,v,(A.obj x h.hx).trans h1,h2,?_⟩
 rcases h3 with h3|⟨g,q1,q2,q3,q4,q5⟩
 ·exact .inl h3
 ·exact .inr ⟨g,q1,q2,yag q3 A.nf,(A.fam g q3).trans q4,q5⟩
section
variable {G : Env} {σ : AS} {R : Out → AS → Prop}
theorem zBk{σ0 x bs}(h:Pw σ0 x bs σ)(hl:bs.length<2^60)(hR:R (.ret (.int .i64 (bs.length:Int))) σ):zzQ G 127 [.pt 88 2 x 0] σ R:=by
 obtain⟨hd,v,h1,h2,h3⟩:=h.cells
 refine zoK rfl ?_
 rcases h3 with ⟨rfl,rfl⟩|⟨g,rfl,q2,q3,q4,q5⟩
 ·simp[zsl,h1]
  exact hR
 ·simp[zsl,h1]
  simpa [B]using hR
theorem zCO:elT yb5 32=some 5:=by kernel_rfl
theorem zq2{σ0 τ:AS}{v:AV}{bs w:List UInt8}{K:AV→AS→Prop}(hb:zq1 σ0 τ v bs)(A:zf σ0 τ)(hl:bs.length+w.length<2^46)
  (h:∀v' τ',zq1 σ0 τ' v' (bs++w)→τ'.objs=τ.objs→τ'.no=τ.no→zf σ0 τ'→K v' τ'):zcb (elT yb5 32) 1 1 v (B w) τ K:=by
 have An:=A.nf
 have Bl:(B w).length=w.length:=by simp[B]
 have Bb:(B bs).length=bs.length:=by simp[B]
 have Ba:B (bs++w)=B bs++B w:=by simp[B]
 rw[zCO]
 rcases hb with ⟨rfl,rfl⟩|⟨g,rfl,q2,q3,q4,q5⟩
 ·rw[zhd]
  refine⟨rfl,by rw[Bl];simp at hl;omega,fun e=>?_,fun e=>?_⟩
  ·have hw:w=[]:=by
    cases w with
    | nil=>rfl
    | cons c r=>simp[B]at e
   subst hw
   exact h _ _ (.inl ⟨rfl,rfl⟩) rfl rfl A
  ·have hw:w≠[]:=fun q=>e (by rw[q];rfl)
   exact h _ _ (.inr ⟨τ.nf,rfl,An,by simp,by simp,by simpa using hw⟩) (by simp) (by simp) A.newF
 ·rw[zhe]
  refine⟨rfl,rfl,by rw[Bl,Bb];omega,q4,?_⟩
  refine h _ _ (.inr ⟨τ.nf,by rw[Ba],An,by simp,by simp,by simp[q5]⟩) (by simp) (by simp) ?_
  exact⟨A.no,by simp;omega,fun o ho=>A.obj o ho,fun f hf=>by
   have h1:¬f=τ.nf:=by omega
   have h2:¬f=g:=by omega
   simp[h1,h2]
   exact A.fam f hf⟩
theorem Pw.head{σ0 x bs τ hd v}(h:Pw σ0 x bs τ)(h1:τ.objs x=some [hd,v])(h3:zq1 σ0 τ v bs):Pw σ0 x bs (τ.setO x [.pt 88 2 x 0,v]) :=
 ⟨h.x0,h.hx,h.ad.setO h.x0,_,v,by simp,.inr rfl,h3⟩
theorem zdG{σ0 x bs w}(h:Pw σ0 x bs σ)(hl:bs.length+w.length<2^46)(hR:∀σ' v,Pw σ0 x (bs++w) σ'→PwK x σ σ'→R (.ret v) σ'):zzQ G 129 [.pt 88 2 x 0,.str w] σ R:=by
 obtain⟨hd,v,h1,h2,h3⟩:=h.cells
 have v1:=h3.one
 refine zoM rfl ?_
 simp[zvi]
 refine zfS h1 h2 fun σ1 e1=>?_
 have hx1:σ1.objs x=some [.pt 88 2 x 0,v]:=by rw[e1];simp
 have hP1:Pw σ0 x bs σ1:=by rw[e1];exact h.head h1 h3
 have K1:PwK x σ σ1:=by rw[e1];exact(PwK.refl x σ).set
 have h31:zq1 σ0 σ1 v bs:=by rw[e1];exact h3
 simp[hx1,v1]
 refine zq2 h31 hP1.ad hl fun v' τ' b' o' n' A'=>?_
 have v1':=b'.one
 have hx2:τ'.objs x=some [.pt 88 2 x 0,v]:=by rw[o'];exact hx1
 have hlt:=hP1.hx
 simp[hx2,v1',splice]
 refine hR _ _ ⟨hP1.x0,by simp;omega,A'.setO hP1.x0,_,v',by simp,.inr rfl,?_⟩ (K1.trans (PwK.set ⟨by omega,fun o q1 q2=>by rw[o']⟩))
 exact b'
theorem zjX{σ0 x bs}{c:UInt8}(h:Pw σ0 x bs σ)(hl:bs.length+1<2^46)(hR:∀σ' v,Pw σ0 x (bs++[c]) σ'→PwK x σ σ'→R (.ret v) σ'):zzQ G 128 [.pt 88 2 x 0,.int .u8 (c.toNat:Int)] σ R:=by
 obtain⟨hd,v,h1,h2,h3⟩:=h.cells
 have v1:=h3.one
 refine zoL rfl ?_
 simp[zvh]
 refine zfS h1 h2 fun σ1 e1=>?_
 have hx1:σ1.objs x=some [.pt 88 2 x 0,v]:=by rw[e1];simp
 have hP1:Pw σ0 x bs σ1:=by rw[e1];exact h.head h1 h3
 have K1:PwK x σ σ1:=by rw[e1];exact(PwK.refl x σ).set
 have h31:zq1 σ0 σ1 v bs:=by rw[e1];exact h3
 simp[hx1,v1]
 refine zq2 (w:=[c]) h31 hP1.ad hl fun v' τ' b' o' n' A'=>?_
 have v1':=b'.one
 have hx2:τ'.objs x=some [.pt 88 2 x 0,v]:=by rw[o'];exact hx1
 have hlt:=hP1.hx
 simp[hx2,v1',splice]
 refine hR _ _ ⟨hP1.x0,by simp;omega,A'.setO hP1.x0,_,v',by simp,.inr rfl,?_⟩ (K1.trans (PwK.set ⟨by omega,fun o q1 q2=>by rw[o']⟩))
 exact b'
theorem zpL{σ0 x bs}(h:Pw σ0 x bs σ)(hne:bs≠[])(hl:bs.length<2^46)(hR:∀σ',zf σ0 σ'→PwK x σ σ'→R (.ret (.str bs)) σ'):zzQ G 67 [.pt 88 2 x 0] σ R:=by
 obtain⟨hd,v,h1,h2,h3⟩:=h.cells
 refine zr8 rfl ?_
 rcases h3 with ⟨rfl,rfl⟩|⟨g,rfl,q2,q3,q4,q5⟩
 ·exact absurd rfl hne
 ·simp[zBN,h1]
  refine⟨zCN,zwO,q4,bs,rfl,rfl,hne,by omega,?_⟩
  simp
  have A:=h.ad
  refine hR _ ⟨A.no,A.nf,A.obj,fun f hf=>?_⟩ ⟨yah _,fun _ _ _=>rfl⟩
  have:¬f=g:=by omega
  simp[this]
  exact A.fam f hf
end
def zkP(bs w:List UInt8):List UInt8:=if bs=[]then w else bs++32::w
def zdH(bs:List UInt8)(ws:List (List UInt8)):List UInt8:=ws.foldl zkP bs
def spT(ts:List (List UInt8)):List UInt8:=ts.flatMap fun t=>32::t
theorem zn(a b:List (List UInt8)):spT (a++b)=spT a++spT b:=by simp[spT]
theorem zkQ:∀ts,zps ts=spT ts++[10]
 | []=>rfl
 | t::r=>by
  have:=zkQ r
  simp only[zps,this,spT,yaa,yco,yck]
theorem znh{bs w:List UInt8}(h:bs≠[]):zkP bs w=bs++32::w:=by unfold zkP;rw[if_neg h]
theorem zjY:∀(ws:List (List UInt8)) {bs:List UInt8},bs≠[]→zdH bs ws=bs++spT ws
 | [],bs,_=>by simp[zdH,spT]
 | w::r,bs,h=>by
  have e:zdH bs (w::r)=zdH (zkP bs w) r:=rfl
  rw[e,znh h,zjY r (by simp)]
  simp[spT]
theorem zni(bs w:List UInt8):bs.length≤(zkP bs w).length∧w.length≤(zkP bs w).length:=by
 unfold zkP
 split
 ·rename_i h;subst h;simp
 ·simp only[yab,yac];omega
theorem znj:∀(ws:List (List UInt8)) (bs:List UInt8),bs.length≤(zdH bs ws).length
 | [],bs=>yah _
 | w::r,bs=>yai (zni bs w).1 (znj r (zkP bs w))
theorem zkR(bs:List UInt8)(d r:List (List UInt8)):zdH bs (d++r)=zdH (zdH bs d) r:=by simp[zdH]
section
variable {G : Env} {σ : AS} {R : Out → AS → Prop}
def SyI(σ0:AS)(x:Nat)(bs:List UInt8)(ws:List (List UInt8))(σ:AS)(a:Nat→AV)(τ:AS):Prop:=∃(d r:List (List UInt8)),ws=d++r∧a 0=.pt 88 2 x 0∧a 6=.sl (.stat true) 1 (ws.map yce)∧a 7=.int .i64 (ws.length:Int)∧a 8=.int .i64 (d.length:Int)∧Pw σ0 x (zdH bs d) τ∧PwK x σ τ
theorem zq3{σ0 x bs ws}(h:Pw σ0 x bs σ)(hw:ws.length<1000)(hl:(zdH bs ws).length<2^45)(hR:∀σ' v,Pw σ0 x (zdH bs ws) σ'→PwK x σ σ'→R (.ret v) σ'):zzQ G 63 [.pt 88 2 x 0,.sl (.stat true) 1 (ws.map yce)] σ R:=by
 refine zr5 rfl ?_
 simp[zBL]
 refine zK (SyI σ0 x bs ws σ) (MU 8 (ws.length+1)) ⟨[],ws,rfl,by simp,by simp,by simp,by simp,h,.refl ..⟩ fun a τ hI=>?_
 obtain⟨d,r,hdr,a0,a6,a7,a8,hP,hK⟩:=hI
 cases r with
 | nil =>
  have e:ws=d:=by simpa using hdr
  have e2:ws.length=d.length:=by rw[e]
  rw[e2]at a7
  simp[zjJ,a0,a6,a7,a8]
  exact hR _ _ (by rw[e];exact hP) hK
 | cons t r =>
  have hlt:(d.length:Int)<(ws.length:Int):=by simp[hdr];omega
  have hi:ws[d.length]?=some t:=by simp[hdr]
  have w1:yb3 .i64 ((d.length:Int)+1)=((d.length+1:Nat):Int):=by rw[wrap_i64]<;>omega
  have e3:zdH bs ws=zdH (zkP (zdH bs d) t) r:=by rw[hdr,zkR];rfl
  have l1:(zkP (zdH bs d) t).length≤(zdH bs ws).length:=by rw[e3];exact znj _ _
  have l2:=zni (zdH bs d) t
  have e4:zdH bs (d++[t])=zkP (zdH bs d) t:=by rw[zkR];rfl
  simp[zjJ,a0,a6,a7,a8,hlt,hi]
  refine zBk hP (by omega) ?_
  by_cases hb:zdH bs d=[]
  ·have e5:zkP (zdH bs d) t=t:=by unfold zkP;rw[if_pos hb]
   rw[hb]at hP
   simp[hb,a0]
   refine zdG (w:=t) hP (by simp;omega) fun τ' v' P' K'=>?_
   simp[a0,a6,a7,a8,w1]
   refine⟨⟨d++[t],r,by simp[hdr],by simp[a0],by simp[a6],by simp[a7],by simp,?_,hK.trans K'⟩,?_⟩
   ·rw[e4,e5];simpa using P'
   ·simp[MU,a8];omega
  ·have hpos:(0:Int)<((zdH bs d).length:Int):=by have:=ybm.2 hb;omega
   have hposN:0<(zdH bs d).length:=by omega
   have e5:zkP (zdH bs d) t=zdH bs d++32::t:=znh hb
   rw[e5]at l1
   simp only[yab,yac]at l1
   simp[hpos,hposN,hb,a0]
   refine zjX (c:=32) hP (by omega) fun τ1 v1 P1 K1=>?_
   simp[a0]
   refine zdG (w:=t) P1 (by simp;omega) fun τ' v' P' K'=>?_
   simp[a0,a6,a7,a8,w1]
   refine⟨⟨d++[t],r,by simp[hdr],by simp[a0],by simp[a6],by simp[a7],by simp,?_,(hK.trans K1).trans K'⟩,?_⟩
   ·rw[e4,e5];simpa using P'
   ·simp[MU,a8];omega
theorem zh0{op:Int}(h:op=11∨op=12∨op=13)(hR:R (.ret (.str (zcy op))) σ):zzQ G 132 [.int .i64 op] σ R:=by
 refine zoP rfl ?_
 rcases h with rfl|rfl|rfl
 ·simp[zoO]
  exact hR
 ·simp[zoO]
  exact hR
 ·simp[zoO]
  exact hR
theorem znk{n:Int}{a b:List UInt8}(h:n=1∨n=4∨n=8)(hR:R (.ret (.str (if n=1 then a else b))) σ):zzQ G 177 [.int .i64 n,.str a,.str b] σ R:=by
 refine zpa rfl ?_
 rcases h with rfl|rfl|rfl
 ·simp[zo9]
  simpa using hR
 ·simp[zo9]
  simpa using hR
 ·simp[zo9]
  simpa using hR
theorem zi3(t:Int):(zw t).length=3:=by unfold zw;split<;>rfl
theorem zi4{t:Int}(h:zfA t=true):t=1∨t=2:=by simpa [zfA]using h
theorem zpM{t n:Int}(h:zmK t n=true):(t=1∨t=2)∧(n=1∨n=4∨n=8):=by
 unfold zmK at h
 simp at h
 omega
theorem znl{w:W}(h:ziK w=true):1≤w.op∧w.op≤18∧(w.op=1∨w.op=4∨w.op=5∨w.op=8∨w.op=9→w.ty=1∨w.ty=2)∧(w.op=8∨w.op=9→w.n=1∨w.n=4∨w.n=8)∧(w.op=4→zc0 signs w.name≠[]):=by
 unfold ziK at h
 split at h
 ·rename_i h1
  have:=zi4 h
  refine⟨by omega,by omega,fun _=>this,fun _=>by omega,fun _=>by omega⟩
 ·split at h
  ·rename_i h1 h2
   simp only[Bool.and_eq_true]at h
   have:=zi4 h.1
   refine⟨by omega,by omega,fun _=>this,fun _=>by omega,fun _=>?_⟩
   simpa using h.2
  ·split at h
   ·rename_i h1 h2 h3
    have:=zpM h
    exact⟨by omega,by omega,fun _=>this.1,fun _=>this.2,fun _=>by omega⟩
   ·simp at h
    refine⟨by omega,by omega,fun _=>by omega,fun _=>by omega,fun _=>by omega⟩
theorem znm{w:W}(hf:ziK w=true)(hn:zhO w=false)(h:∀σ',zf σ σ'→R (.ret (.str (zI w))) σ'):zzQ G 133 [w.av] σ R:=by
 refine zoQ rfl ?_
 obtain⟨f1,f2,f3,f4,f5⟩:=znl hf
 have A1:zf σ (σ.newO w.cs):=(zf.refl σ).newO
 have hn':w.op≠11∧w.op≠12∧w.op≠13:=by simpa [zhO,and_assoc]using hn
 have hc:w.op=1∨w.op=2∨w.op=3∨w.op=4∨w.op=5∨w.op=6∨w.op=7∨w.op=8∨w.op=9∨w.op=10∨w.op=14∨w.op=15∨w.op=16∨w.op=17∨w.op=18:=by omega
 have tl:=zi3 w.ty
 have key:∀t,zI w=t→R (.ret (.str t)) (σ.newO w.cs):=fun t e=>e▸h _ A1
 rcases hc with e|e|e|e|e|e|e|e|e|e|e|e|e|e|e
 ·simp[zcT,W.av,W.cs,e]
  refine zdi (f3 (by omega)) ?_
  simp[tl]
  have:=key _ (by unfold zI;rw[if_pos e])
  simpa [W.cs,e]using this
 ·have:=key [108,111,99,97,108,46,103,101,116] (by simp[zI,e])
  simp[zcT,W.av,W.cs,e]
  simpa [W.cs,e]using this
 ·have:=key [108,111,99,97,108,46,115,101,116] (by simp[zI,e])
  simp[zcT,W.av,W.cs,e]
  simpa [W.cs,e]using this
 ·have:=key (zw w.ty++46::w.name) (by simp[zI,e])
  have hl:=zlt w.name (f5 e)
  simp[zcT,W.av,W.cs,e]
  refine zdi (f3 (by omega)) ?_
  simp[tl]
  refine⟨by omega,?_⟩
  simpa [W.cs,e]using this
 ·have:=key (zw w.ty++[46,101,113,122]) (by simp[zI,e])
  simp[zcT,W.av,W.cs,e]
  refine zdi (f3 (by omega)) ?_
  simp[tl]
  simpa [W.cs,e]using this
 ·have:=key [105,51,50,46,119,114,97,112,95,105,54,52] (by simp[zI,e])
  simp[zcT,W.av,W.cs,e]
  simpa [W.cs,e]using this
 ·have:=key [105,54,52,46,101,120,116,101,110,100,95,105,51,50,95,115] (by simp[zI,e])
  simp[zcT,W.av,W.cs,e]
  simpa [W.cs,e]using this
 ·have:=key (zw w.ty++(if w.n=1 then [46,108,111,97,100,56,95,115]else [46,108,111,97,100])) (by simp[zI,e])
  simp[zcT,W.av,W.cs,e]
  refine zdi (f3 (by omega)) ?_
  simp
  refine znk (f4 (by omega)) ?_
  have ln:(if w.n=1 then [46,108,111,97,100,56,95,115]else([46,108,111,97,100]:List UInt8)).length≤8:=by split<;>decide
  simp[tl]
  refine⟨by omega,?_⟩
  simpa [W.cs,e]using this
 ·have:=key (zw w.ty++(if w.n=1 then [46,115,116,111,114,101,56]else [46,115,116,111,114,101])) (by simp[zI,e])
  simp[zcT,W.av,W.cs,e]
  refine zdi (f3 (by omega)) ?_
  simp
  refine znk (f4 (by omega)) ?_
  have ln:(if w.n=1 then [46,115,116,111,114,101,56]else([46,115,116,111,114,101]:List UInt8)).length≤8:=by split<;>decide
  simp[tl]
  refine⟨by omega,?_⟩
  simpa [W.cs,e]using this
 ·have:=key [99,97,108,108] (by simp[zI,e])
  simp[zcT,W.av,W.cs,e]
  simpa [W.cs,e]using this
 ·have:=key [98,114] (by simp[zI,e])
  simp[zcT,W.av,W.cs,e]
  simpa [W.cs,e]using this
 ·have:=key [98,114,95,105,102] (by simp[zI,e])
  simp[zcT,W.av,W.cs,e]
  simpa [W.cs,e]using this
 ·have:=key [114,101,116,117,114,110] (by simp[zI,e])
  simp[zcT,W.av,W.cs,e]
  simpa [W.cs,e]using this
 ·have:=key [117,110,114,101,97,99,104,97,98,108,101] (by simp[zI,e])
  simp[zcT,W.av,W.cs,e]
  simpa [W.cs,e]using this
 ·have:=key [100,114,111,112] (by simp[zI,e])
  simp[zcT,W.av,W.cs,e]
  simpa [W.cs,e]using this
end
theorem znn{w:W}(hf:ziK w=true)(hn:zhO w=false):(zt zax (zI w)).isSome=za8 w:=by
 obtain⟨f1,f2,f3,f4,f5⟩:=znl hf
 have hn':w.op≠11∧w.op≠12∧w.op≠13:=by simpa [zhO,and_assoc]using hn
 have hc:w.op=1∨w.op=2∨w.op=3∨w.op=4∨w.op=5∨w.op=6∨w.op=7∨w.op=8∨w.op=9∨w.op=10∨w.op=14∨w.op=15∨w.op=16∨w.op=17∨w.op=18:=by omega
 have key:∀t b,zI w=t→za8 w=b→(zt zax t).isSome=b→(zt zax (zI w)).isSome=za8 w:=fun t b e1 e2 e3=>by rw[e1,e2,e3]
 rcases hc with e|e|e|e|e|e|e|e|e|e|e|e|e|e|e
 ·rcases f3 (by omega)with t|t
  ·exact key [105,51,50,46,99,111,110,115,116] true (by simp[zI,e,t,zw,zst]) (by simp[za8,e]) (by decide)
  ·exact key [105,54,52,46,99,111,110,115,116] true (by simp[zI,e,t,zw,zsu]) (by simp[za8,e]) (by decide)
 ·exact key [108,111,99,97,108,46,103,101,116] true (by simp[zI,e]) (by simp[za8,e]) (by decide)
 ·exact key [108,111,99,97,108,46,115,101,116] true (by simp[zI,e]) (by simp[za8,e]) (by decide)
 ·have ht:=f3 (by omega)
  have:=(zpt w.name (zgI (f5 e)) w.ty (by simpa using ht)).2.1
  exact key (zw w.ty++46::w.name) false (by simp[zI,e]) (by simp[za8,e]) (by rw[this];rfl)
 ·rcases f3 (by omega)with t|t
  ·exact key [105,51,50,46,101,113,122] false (by simp[zI,e,t,zw,zst]) (by simp[za8,e]) (by decide)
  ·exact key [105,54,52,46,101,113,122] false (by simp[zI,e,t,zw,zsu]) (by simp[za8,e]) (by decide)
 ·exact key [105,51,50,46,119,114,97,112,95,105,54,52] false (by simp[zI,e]) (by simp[za8,e]) (by decide)
 ·exact key [105,54,52,46,101,120,116,101,110,100,95,105,51,50,95,115] false (by simp[zI,e]) (by simp[za8,e]) (by decide)
 ·have k:∀t n:Int,(t=1∨t=2)→(n=1∨¬n=1)→(zt zax (zw t++(if n=1 then [46,108,111,97,100,56,95,115]else [46,108,111,97,100]))).isSome=false:=by
   intro t n ht hn
   rcases ht with rfl|rfl<;>rcases hn with rfl|hn
   ·decide
   ·rw[if_neg hn];decide
   ·decide
   ·rw[if_neg hn];decide
  exact key _ false (by simp only[zI,e];rfl) (by simp[za8,e]) (k w.ty w.n (f3 (by omega)) (by omega))
 ·have k:∀t n:Int,(t=1∨t=2)→(n=1∨¬n=1)→(zt zax (zw t++(if n=1 then [46,115,116,111,114,101,56]else [46,115,116,111,114,101]))).isSome=false:=by
   intro t n ht hn
   rcases ht with rfl|rfl<;>rcases hn with rfl|hn
   ·decide
   ·rw[if_neg hn];decide
   ·decide
   ·rw[if_neg hn];decide
  exact key _ false (by simp only[zI,e];rfl) (by simp[za8,e]) (k w.ty w.n (f3 (by omega)) (by omega))
 ·exact key [99,97,108,108] true (by simp[zI,e]) (by simp[za8,e]) (by decide)
 ·exact key [98,114] true (by simp[zI,e]) (by simp[za8,e]) (by decide)
 ·exact key [98,114,95,105,102] true (by simp[zI,e]) (by simp[za8,e]) (by decide)
 ·exact key [114,101,116,117,114,110] false (by simp[zI,e]) (by simp[za8,e]) (by decide)
 ·exact key [117,110,114,101,97,99,104,97,98,108,101] false (by simp[zI,e]) (by simp[za8,e]) (by decide)
 ·exact key [100,114,111,112] false (by simp[zI,e]) (by simp[za8,e]) (by decide)
theorem zi5(l:List Int):(spT (l.map zw)).length=4*l.length:=by
 induction l with
 | nil=>rfl
 | cons t r ih=>simp only[yaL,spT,yaa,yab,yac,zi3]at *;omega
section
variable {G : Env} {σ : AS} {R : Out → AS → Prop}
theorem zad{σ0 x bs ws}(h:Pw σ0 x bs σ)(hb:bs≠[])(hw:ws.length<1000)(hl:(bs++spT ws).length<2^45)(hR:∀σ' v,Pw σ0 x (bs++spT ws) σ'→PwK x σ σ'→R (.ret v) σ'):zzQ G 63 [.pt 88 2 x 0,.sl (.stat true) 1 (ws.map yce)] σ R:=by
 have e:=zjY ws hb
 exact zq3 h hw (by rw[e];exact hl) (by rw[e];exact hR)
def TpI(σ0:AS)(x:Nat)(bs:List UInt8)(kw:List UInt8)(v:AV)(l:List Int)(σ:AS)(a:Nat→AV)(τ:AS):Prop:=∃(d r:List Int),l=d++r∧a 0=.pt 88 2 x 0∧a 15=v∧a 16=.int .i64 (l.length:Int)∧a 17=.int .i64 (d.length:Int)∧Pw σ0 x (bs++spT (zL::kw::d.map zw)) τ∧PwK x σ τ
theorem zeS{σ0 x bs kw l v}(h:Pw σ0 x bs σ)(hb:bs≠[])(hv:Al.IntsO σ0 v l)(ht:∀t∈l,t=1∨t=2)(hl:(bs++spT (zaL kw l)).length<2^45)(hR:∀σ' u,Pw σ0 x (bs++spT (zaL kw l)) σ'→PwK x σ σ'→R (.ret u) σ'):zzQ G 65 [.pt 88 2 x 0,.str kw,v] σ R:=by
 refine zr6 rfl ?_
 have v1:=hv.one
 have vl:=hv.len
 by_cases h0:l=[]
 ·subst h0
  have e:bs++spT (zaL kw [])=bs:=by simp[zaL,spT]
  rw[e]at hR
  simp[zAM,vl]
  exact hR _ _ h (.refl ..)
 ·have hne:¬(l.length:Int)=0:=by have:=ybm.2 h0;omega
  have hneN:¬l.length=0:=by omega
  have e:zaL kw l=zL::kw::(l.map zw++[zi]):=by unfold zaL;rw[if_neg h0]
  have e2:spT (zaL kw l)=spT (zL::kw::l.map zw)++spT [zi]:=by rw[e,←zn];rfl
  rw[e2]at hl hR
  simp only[yab]at hl
  have e3:spT (zL::kw::l.map zw)=spT [zL,kw]++spT (l.map zw):=by rw[←zn];rfl
  have hl3:=congrArg yb8 e3
  simp only[yab]at hl3
  have hlt:=zi5 l
  simp[zAM,vl,hne,hneN,h0]
  refine zad (ws:=[zL,kw]) h hb (by simp) (by rw[yab];omega) fun σ1 u1 P1 K1=>?_
  simp[vl]
  refine zK (TpI σ0 x bs kw v l σ) (MU 17 (l.length+1)) ⟨[],l,rfl,by simp,by simp,by simp,by simp,P1,K1⟩ fun a τ hI=>?_
  obtain⟨d,r,hdr,a0,a15,a16,a17,hP,hK⟩:=hI
  have hvt:=hv.keep hP.ad
  cases r with
  | nil =>
   have e5:l=d:=by simpa using hdr
   have e6:l.length=d.length:=by rw[e5]
   rw[e6]at a16
   simp[zjK,a0,a15,a16,a17,zmD]
   refine zad (ws:=[zi]) hP (by simp[hb]) (by simp) (by rw[←e5,yab,yab];omega) fun σ2 u2 P2 K2=>?_
   simp
   refine hR _ _ ?_ (hK.trans K2)
   rw[←e5,yck]at P2
   exact P2
  | cons t r =>
   have hlt2:d.length<l.length:=by simp[hdr]
   obtain⟨φ,hr,hat⟩:=hvt.at hlt2
   have hr':=hr.read
   have hlt3:(d.length:Int)<(l.length:Int):=by omega
   have hi:l[d.length]=t:=by simp[hdr]
   rw[hi]at hat
   have w1:yb3 .i64 ((d.length:Int)+1)=((d.length+1:Nat):Int):=by rw[wrap_i64]<;>omega
   have htt:=ht t (by rw[hdr];simp)
   have e7:bs++spT (zL::kw::d.map zw)++spT [zw t]=bs++spT (zL::kw::(d++[t]).map zw):=by
    rw[yck,←zn];simp
   have e8:spT (zL::kw::(d++[t]).map zw)=spT [zL,kw]++spT ((d++[t]).map zw):=by rw[←zn];rfl
   have l8:=congrArg yb8 e8
   simp only[yab]at l8
   have l9:=zi5 (d++[t])
   have l10:(d++[t]).length≤l.length:=by simp;omega
   simp[zjK,a0,a15,a16,a17,hlt2,hlt3,hat,hr',htt]
   refine zdi htt ?_
   simp
   refine zad (ws:=[zw t]) hP (by simp[hb]) (by simp) (by rw[e7,yab];omega) fun σ2 u2 P2 K2=>?_
   simp[a0,a15,a16,a17,w1]
   rw[e7]at P2
   refine⟨⟨d++[t],r,by simp[hdr],by simp[a0],by simp[a15],by simp[a16],by simp,P2,hK.trans K2⟩,?_⟩
   simp[MU,a17];omega
end
end Go.Proofs.YtohfclafhegadaaGreatDoor

namespace Go.Proofs.YtohfclafhegadaaGreatDoor
open Go Go.Abs
theorem zD(t:List UInt8):(spT [t]).length=t.length+1:=by simp[spT]
section
variable {G : Env} {σ : AS} {R : Out → AS → Prop}
def zy5(B:Nat)(G:Env)(σ0:AS)(x:Nat)(ls:To)(d:Nat):Prop:=∀(σ:AS) (R:Out→AS→Prop) (fv:AV) (f:F) (i:Int) (ws:List W) (toks:List Tok) (acc:To) (out:List W) (acc':To) (bs:List UInt8),f.lists=ls→Al.FVO σ0 fv f→Pw σ0 x bs σ→bs≠[]→0≤i→ls[i.toNat]?=some ws→PrB B ls d ws acc toks out acc'→(bs++spT toks).length<2^45 →
 (∀σ' u,Pw σ0 x (bs++spT toks) σ'→PwK x σ σ'→R (.ret u) σ')→zzQ G 66 [.pt 88 2 x 0,fv,.int .i64 i] σ R
def LqI(B:Nat)(σ0:AS)(x:Nat)(ls:To)(d:Nat)(fc:List AV)(o:Nat)(rv:AV)(ws:List W)(toks:List Tok)(acc':To)(bs:List UInt8)(σ:AS)(a:Nat→AV)(τ:AS):Prop:=∃(j:Nat) (t1 t2:List Tok) (acc1:To) (out1:List W),j≤ws.length∧toks=t1++t2∧PrB B ls d (ws.drop j) acc1 t2 out1 acc' ∧
 a 0=.pt 88 2 x 0∧a 4=.ptr o 0∧a 14=rv∧a 15=.int .i64 (ws.length:Int)∧a 16=.int .i64 (j:Int)∧Pw σ0 x (bs++spT t1) τ∧PwK x σ τ∧τ.objs o=some fc∧o<τ.no∧o≠x
theorem zjZ{B:Nat}(V:za9 G){σ0 x ls d}(IH:d<B→zy5 B G σ0 x ls (d+1)){f:F}{pv lv tv rv:AV}{ws:List W}{toks:List Tok}{acc':To}{bs:List UInt8}{o:Nat}(hls:f.lists=ls)(hf:Al.FVO σ0 (.agg [.str f.name,pv,lv,.int .i64 f.type,tv]) f)(h1:pv.known=true∧pv.one=true∧pv.cells=[pv])(h2:lv.known=true∧lv.one=true∧lv.cells=[lv])(h3:tv.known=true∧tv.one=true∧tv.cells=[tv])
  (hrv:Al.RepO σ0 rv ws) (hwl:ws.length≤2^40) (hb:bs≠[]) (hl:(bs++spT toks).length<2^45) (hR:∀σ' u,Pw σ0 x (bs++spT toks) σ'→PwK x σ σ'→R (.ret u) σ') {a:Nat→AV} {τ:AS} (hI:LqI B σ0 x ls d [.str f.name,pv,lv,.int .i64 f.type,tv] o rv ws toks acc' bs σ a τ) :
  avc yb5 G 75 zcv (zaO (fun a' σ'=>LqI B σ0 x ls d [.str f.name,pv,lv,.int .i64 f.type,tv] o rv ws toks acc' bs σ a' σ'∧MU 16 (ws.length+1) a' σ'<MU 16 (ws.length+1) a τ) (zak 0 (zcJ yb5 [] R))) a τ:=by
 obtain⟨j,t1,t2,acc1,out1,hj,ht,hpr,a0,a4,a14,a15,a16,hP,hK,ho,hon,hox⟩:=hI
 by_cases hlt:j<ws.length
 ·have hdrop:ws.drop j=ws[j]::ws.drop (j+1):=ycT hlt
  have hrt:=hrv.keep hP.ad
  obtain⟨φ,hr,hat⟩:=RepO.at hrt hlt
  have hr':=hr.read
  have hlti:(j:Int)<(ws.length:Int):=by omega
  have w1:yb3 .i64 ((j:Int)+1)=((j+1:Nat):Int):=by rw[wrap_i64]<;>omega
  rw[hdrop]at hpr
  generalize hw:ws[j]=w at *
  have A1:zf τ ((τ.newO zaM.cs).setO τ.no w.cs):=(zf.refl τ).newO.setO (yah _)
  have hP1:=hP.adds A1
  have K1:=hK.trans A1.pwk
  have o1:((τ.newO zaM.cs).setO τ.no w.cs).objs τ.no=some w.cs:=by simp
  have ho1:=(A1.obj o hon).trans ho
  have n1:((τ.newO zaM.cs).setO τ.no w.cs).no=τ.no+1:=by simp
  have hx:=hP.hx
  have hqx:τ.no≠x:=by omega
  have hbt:bs++spT t1≠[]:=by simp[hb]
  have hlt1:(bs++spT toks).length=bs.length+(spT t1).length+(spT t2).length:=by rw[ht,zn];simp only[yab];omega
  simp only[W.cs,zaM]at A1 o1 hP1 K1 ho1 n1
  have fin:∀(a':Nat→AV) (τ':AS) (t2a t2b:List Tok) (acc2 out2),t2=t2a++t2b→PrB B ls d (ws.drop (j+1)) acc2 t2b out2 acc'→Pw σ0 x (bs++spT t1++spT t2a) τ'→PwK x σ τ'→τ'.objs o=some [.str f.name,pv,lv,.int .i64 f.type,tv]→o<τ'.no→a' 0=.pt 88 2 x 0→a' 4=.ptr o 0→a' 14=rv→a' 15=.int .i64 (ws.length:Int)→a' 16=.int .i64 ((j+1:Nat):Int) →
    LqI B σ0 x ls d [.str f.name,pv,lv,.int .i64 f.type,tv] o rv ws toks acc' bs σ a' τ'∧MU 16 (ws.length+1) a' τ'<MU 16 (ws.length+1) a τ:=by
   intro a' τ' t2a t2b acc2 out2 q1 q2 q3 q4 q5 q6 q7 q8 q9 q10 q11
   refine⟨⟨j+1,t1++t2a,t2b,acc2,out2,hlt,by rw[ht,q1,yck],q2,q7,q8,q9,q10,q11,?_,q4,q5,q6,hox⟩,?_⟩
   ·rw[zn,←yck];exact q3
   ·simp[MU,a16,q11];omega
  cases hpr with
  | @leaf _ _ _ _ t r' _ hn hform hrg hpr' =>
   have hn':¬w.op=11∧¬w.op=12∧¬w.op=13:=by simpa [zhO,and_assoc]using hn
   simp[zcv,a0,a4,a14,a15,a16,hlt,hlti,hat,hr',W.av,W.cs,splice,hn']
   generalize (τ.newO [ycc .i64 0,ycc .i64 0,ycc .i64 0,ycc .i64 0,ycc .i64 0,yce []]).setO τ.no [ycc .i64 w.op,ycc .i64 w.ty,ycc .i64 w.n,ycc .i64 w.body,ycc .i64 w.other,yce w.name]=τ1 at *
   have hsp:(spT (zeF w++t)).length=(spT (zeF w)).length+(spT t).length:=by rw[zn,yab]
   refine znm hform hn fun τ2 A2=>?_
   have n2:=A2.no
   have lw:(zI w).length+1≤(spT (zeF w)).length:=by
    unfold zeF
    split
    ·simp[spT]
    ·simp[spT]
   simp[a0]
   refine zad (ws:=[zI w]) (hP1.adds A2) hbt (by simp) (by rw[yab,yab,zD];omega) fun τ3 u3 P3 K3=>?_
   have n3:=K3.no
   have q3:=(K3.obj τ.no (by omega) hqx).trans ((A2.obj τ.no (by omega)).trans o1)
   have r3:=(K3.obj o (by omega) hox).trans ((A2.obj o (by omega)).trans ho1)
   have K13:=(K1.trans A2.pwk).trans K3
   simp[q3]
   refine znm hform hn fun τ4 A4=>?_
   simp
   refine zgQ fun τ5 A5=>?_
   have A45:=A4.trans A5
   have n5:=A45.no
   have q5:=(A45.obj τ.no (by omega)).trans q3
   have r5:=(A45.obj o (by omega)).trans r3
   have P5:=P3.adds A45
   have K15:=K13.trans A45.pwk
   have hnum:=znn hform hn
   cases hfd:zt zax (zI w)with
   | none =>
    rw[hfd]at hnum
    have hnum':za8 w=false:=hnum.symm
    have e1:zeF w=[zI w]:=by unfold zeF;rw[hnum'];rfl
    have A6:zf τ5 ((τ5.newO [ycc .i64 0,ycc .i64 0,ycc .i64 0,ycc .i64 0,ycc .i64 0,yce []]).setO τ5.no [ycc .i64 0,ycc .i64 0,ycc .i64 0,ycc .i64 0,ycc .i64 0,yce []]):=(zf.refl τ5).newO.setO (yah _)
    simp[W.av,W.cs,zaM,splice,a0,a4,a14,a15,a16,w1]
    refine fin _ _ [zI w] t acc1 r' (by rw[e1]) hpr' (P5.adds A6) (K15.trans A6.pwk) ((A6.obj o (by omega)).trans r5) (by simp;omega) (by simp[a0]) (by simp[a4]) (by simp[a14]) (by simp[a15]) (by simp)
   | some w' =>
    rw[hfd]at hnum
    have hnum':za8 w=true:=hnum.symm
    have e1:zeF w=[zI w,Lib.itoa w.n]:=by unfold zeF;rw[hnum'];rfl
    have A6:zf τ5 ((τ5.newO [ycc .i64 0,ycc .i64 0,ycc .i64 0,ycc .i64 0,ycc .i64 0,yce []]).setO τ5.no w'.cs):=(zf.refl τ5).newO.setO (yah _)
    have P6:=P5.adds A6
    have K16:=K15.trans A6.pwk
    have q6:=(A6.obj τ.no (by omega)).trans q5
    have r6:=(A6.obj o (by omega)).trans r5
    have n6:=A6.no
    have hqn:¬τ.no=τ5.no:=by omega
    simp only[W.cs]at A6 P6 K16 q6 r6 n6
    simp[W.av,W.cs,splice,a0,q5,hqn]
    generalize (τ5.newO [ycc .i64 0,ycc .i64 0,ycc .i64 0,ycc .i64 0,ycc .i64 0,yce []]).setO τ5.no [ycc .i64 w'.op,ycc .i64 w'.ty,ycc .i64 w'.n,ycc .i64 w'.body,ycc .i64 w'.other,yce w'.name]=τ6 at *
    refine zcO V hrg ?_
    simp
    have l2:(spT (zeF w)).length=(zI w).length+1+((Lib.itoa w.n).length+1):=by rw[e1];simp[spT];omega
    refine zad (ws:=[Lib.itoa w.n]) P6 (by simp[hb]) (by simp) (by rw[yab,yab,yab,zD,zD];omega) fun τ7 u7 P7 K7=>?_
    have n7:=K7.no
    simp[a0,a4,a14,a15,a16,w1]
    refine fin _ _ [zI w,Lib.itoa w.n] t acc1 r' (by rw[e1]) hpr' ?_ (K16.trans K7) ((K7.obj o (by omega) hox).trans r6) (by omega) (by simp[a0]) (by simp[a4]) (by simp[a14]) (by simp[a15]) (by simp)
    have e2:spT [zI w,Lib.itoa w.n]=spT [zI w]++spT [Lib.itoa w.n]:=by rw[←zn];rfl
    rw[e2,←yck]
    exact P7
  | @one _ _ b _ _ tb b' acc2 t r' _ hop hd hb0 hbs hpb hpr' =>
   have hnest:w.op=11∨w.op=12∨w.op=13:=by omega
   have hcond:¬(w.op=13∧0≤w.other):=by omega
   have hol:(zcy w.op).length≤5:=by unfold zcy;split<;>(try split)<;>decide
   have hsp:(spT (zcy w.op::(tb++zb7::t))).length=(zcy w.op).length+1+((spT tb).length+(4+(spT t).length)):=by
    have e1:zcy w.op::(tb++zb7::t)=[zcy w.op]++(tb++([zb7]++t)):=rfl
    rw[e1,zn,zn,zn]
    simp only[yab,zD]
    rfl
   rcases hnest with e|e|e
   ·obtain⟨op,ty,n,body,other,name⟩:=w
    dsimp only at *
    subst e
    have wb:((body.toNat:Nat):Int)=body:=by omega
    simp[zcv,a0,a4,a14,a15,a16,hlt,hlti,hat,hr',W.av,W.cs,splice]
    generalize (τ.newO [ycc .i64 0,ycc .i64 0,ycc .i64 0,ycc .i64 0,ycc .i64 0,yce []]).setO τ.no [ycc .i64 11,ycc .i64 ty,ycc .i64 n,ycc .i64 body,ycc .i64 other,yce name]=τ1 at *
    refine zh0 (by omega) ?_
    simp
    refine zad (ws:=[zcy 11]) hP1 hbt (by simp) (by rw[yab,yab,zD];omega) fun τ2 u2 P2 K2=>?_
    have n2:=K2.no
    have q2:=(K2.obj τ.no (by omega) hqx).trans o1
    have r2:=(K2.obj o (by omega) hox).trans ho1
    simp[a0,a4,q2,r2]
    refine IH hd τ2 _ _ f body b tb _ _ _ _ hls hf P2 (by simp[hb]) hb0 hbs hpb (by rw[yab,yab,yab,zD];omega) fun τ3 u3 P3 K3=>?_
    have n3:=K3.no
    have q3:=(K3.obj τ.no (by omega) hqx).trans q2
    have r3:=(K3.obj o (by omega) hox).trans r2
    simp[a0,q3]
    refine zad (ws:=[zb7]) P3 (by simp[hb]) (by simp) (by rw[yab,yab,yab,yab,zD,zD];have:zb7.length=3:=rfl;omega) fun τ4 u4 P4 K4=>?_
    have n4:=K4.no
    simp[a0,a4,a14,a15,a16,w1]
    refine fin _ _ ([zcy 11]++tb++[zb7]) t (acc2++[b']) r' (by simp) hpr' ?_ (((K1.trans K2).trans K3).trans K4) ((K4.obj o (by omega) hox).trans r3) (by omega) (by simp[a0]) (by simp[a4]) (by simp[a14]) (by simp[a15]) (by simp)
    rw[zn,zn]
    simpa [yck]using P4
   ·obtain⟨op,ty,n,body,other,name⟩:=w
    dsimp only at *
    subst e
    have wb:((body.toNat:Nat):Int)=body:=by omega
    simp[zcv,a0,a4,a14,a15,a16,hlt,hlti,hat,hr',W.av,W.cs,splice]
    generalize (τ.newO [ycc .i64 0,ycc .i64 0,ycc .i64 0,ycc .i64 0,ycc .i64 0,yce []]).setO τ.no [ycc .i64 12,ycc .i64 ty,ycc .i64 n,ycc .i64 body,ycc .i64 other,yce name]=τ1 at *
    refine zh0 (by omega) ?_
    simp
    refine zad (ws:=[zcy 12]) hP1 hbt (by simp) (by rw[yab,yab,zD];omega) fun τ2 u2 P2 K2=>?_
    have n2:=K2.no
    have q2:=(K2.obj τ.no (by omega) hqx).trans o1
    have r2:=(K2.obj o (by omega) hox).trans ho1
    simp[a0,a4,q2,r2]
    refine IH hd τ2 _ _ f body b tb _ _ _ _ hls hf P2 (by simp[hb]) hb0 hbs hpb (by rw[yab,yab,yab,zD];omega) fun τ3 u3 P3 K3=>?_
    have n3:=K3.no
    have q3:=(K3.obj τ.no (by omega) hqx).trans q2
    have r3:=(K3.obj o (by omega) hox).trans r2
    simp[a0,q3]
    refine zad (ws:=[zb7]) P3 (by simp[hb]) (by simp) (by rw[yab,yab,yab,yab,zD,zD];have:zb7.length=3:=rfl;omega) fun τ4 u4 P4 K4=>?_
    have n4:=K4.no
    simp[a0,a4,a14,a15,a16,w1]
    refine fin _ _ ([zcy 12]++tb++[zb7]) t (acc2++[b']) r' (by simp) hpr' ?_ (((K1.trans K2).trans K3).trans K4) ((K4.obj o (by omega) hox).trans r3) (by omega) (by simp[a0]) (by simp[a4]) (by simp[a14]) (by simp[a15]) (by simp)
    rw[zn,zn]
    simpa [yck]using P4
   ·obtain⟨op,ty,n,body,other,name⟩:=w
    dsimp only at *
    subst e
    have hno:¬0≤other:=by omega
    have wb:((body.toNat:Nat):Int)=body:=by omega
    simp[zcv,a0,a4,a14,a15,a16,hlt,hlti,hat,hr',W.av,W.cs,splice]
    generalize (τ.newO [ycc .i64 0,ycc .i64 0,ycc .i64 0,ycc .i64 0,ycc .i64 0,yce []]).setO τ.no [ycc .i64 13,ycc .i64 ty,ycc .i64 n,ycc .i64 body,ycc .i64 other,yce name]=τ1 at *
    refine zh0 (by omega) ?_
    simp
    refine zad (ws:=[zcy 13]) hP1 hbt (by simp) (by rw[yab,yab,zD];omega) fun τ2 u2 P2 K2=>?_
    have n2:=K2.no
    have q2:=(K2.obj τ.no (by omega) hqx).trans o1
    have r2:=(K2.obj o (by omega) hox).trans ho1
    simp[a0,a4,q2,r2]
    refine IH hd τ2 _ _ f body b tb _ _ _ _ hls hf P2 (by simp[hb]) hb0 hbs hpb (by rw[yab,yab,yab,zD];omega) fun τ3 u3 P3 K3=>?_
    have n3:=K3.no
    have q3:=(K3.obj τ.no (by omega) hqx).trans q2
    have r3:=(K3.obj o (by omega) hox).trans r2
    simp[a0,q3,hno]
    refine zad (ws:=[zb7]) P3 (by simp[hb]) (by simp) (by rw[yab,yab,yab,yab,zD,zD];have:zb7.length=3:=rfl;omega) fun τ4 u4 P4 K4=>?_
    have n4:=K4.no
    simp[a0,a4,a14,a15,a16,w1]
    refine fin _ _ ([zcy 13]++tb++[zb7]) t (acc2++[b']) r' (by simp) hpr' ?_ (((K1.trans K2).trans K3).trans K4) ((K4.obj o (by omega) hox).trans r3) (by omega) (by simp[a0]) (by simp[a4]) (by simp[a14]) (by simp[a15]) (by simp)
    rw[zn,zn]
    simpa [yck]using P4
  | @two _ _ b e _ _ tb b' acc2 te e' acc3 t r' _ hop hot hd hb0 hbs hes hpb hpe hpr' =>
   have hsp:(spT (tIf::(tb++za2::(te++zb7::t)))).length=3+((spT tb).length+(5+((spT te).length+(4+(spT t).length)))):=by
    have e1:tIf::(tb++za2::(te++zb7::t))=[tIf]++(tb++([za2]++(te++([zb7]++t)))):=rfl
    rw[e1,zn,zn,zn,zn,zn]
    simp only[yab,zD]
    rfl
   obtain⟨op,ty,n,body,other,name⟩:=w
   dsimp only at *
   subst hop
   have hoi:(zcy 13)=tIf:=rfl
   simp[zcv,a0,a4,a14,a15,a16,hlt,hlti,hat,hr',W.av,W.cs,splice]
   generalize (τ.newO [ycc .i64 0,ycc .i64 0,ycc .i64 0,ycc .i64 0,ycc .i64 0,yce []]).setO τ.no [ycc .i64 13,ycc .i64 ty,ycc .i64 n,ycc .i64 body,ycc .i64 other,yce name]=τ1 at *
   refine zh0 (by omega) ?_
   rw[hoi]
   simp
   refine zad (ws:=[tIf]) hP1 hbt (by simp) (by rw[yab,yab,zD];have:tIf.length=2:=rfl;omega) fun τ2 u2 P2 K2=>?_
   have n2:=K2.no
   have q2:=(K2.obj τ.no (by omega) hqx).trans o1
   have r2:=(K2.obj o (by omega) hox).trans ho1
   simp[a0,a4,q2,r2]
   refine IH hd τ2 _ _ f body b tb _ _ _ _ hls hf P2 (by simp[hb]) hb0 hbs hpb (by rw[yab,yab,yab,zD];have:tIf.length=2:=rfl;omega) fun τ3 u3 P3 K3=>?_
   have n3:=K3.no
   have q3:=(K3.obj τ.no (by omega) hqx).trans q2
   have r3:=(K3.obj o (by omega) hox).trans r2
   simp[a0,q3,hot]
   refine zad (ws:=[za2]) P3 (by simp[hb]) (by simp) (by rw[yab,yab,yab,yab,zD,zD];have:za2.length=4:=rfl;have:tIf.length=2:=rfl;omega) fun τ4 u4 P4 K4=>?_
   have n4:=K4.no
   have q4:=(K4.obj τ.no (by omega) hqx).trans q3
   have r4:=(K4.obj o (by omega) hox).trans r3
   simp[a0,a4,q4,r4]
   refine IH hd τ4 _ _ f other e te _ _ _ _ hls hf P4 (by simp[hb]) hot hes hpe (by rw[yab,yab,yab,yab,yab,zD,zD];have:za2.length=4:=rfl;have:tIf.length=2:=rfl;omega) fun τ5 u5 P5 K5=>?_
   have n5:=K5.no
   have r5:=(K5.obj o (by omega) hox).trans r4
   simp[a0]
   refine zad (ws:=[zb7]) P5 (by simp[hb]) (by simp) (by rw[yab,yab,yab,yab,yab,yab,zD,zD,zD];have:za2.length=4:=rfl;have:tIf.length=2:=rfl;have:zb7.length=3:=rfl;omega) fun τ6 u6 P6 K6=>?_
   have n6:=K6.no
   simp[a0,a4,a14,a15,a16,w1]
   refine fin _ _ ([tIf]++tb++[za2]++te++[zb7]) t (acc3++[e']) r' (by simp) hpr' ?_ (((((K1.trans K2).trans K3).trans K4).trans K5).trans K6) ((K6.obj o (by omega) hox).trans r5) (by omega) (by simp[a0]) (by simp[a4]) (by simp[a14]) (by simp[a15]) (by simp)
   rw[zn,zn,zn,zn]
   simpa [yck]using P6
 ·have e:j=ws.length:=by omega
  rw[yci (by omega)]at hpr
  cases hpr
  rw[ycH]at ht
  subst ht
  simp[zcv,a0,a4,a14,a15,a16,e]
  exact hR _ _ hP hK
theorem zgS{B:Nat}(V:za9 G){σ0 x ls d}(hsz:∀ws∈ls,ws.length≤2^40)(IH:d<B→zy5 B G σ0 x ls (d+1)):zy5 B G σ0 x ls d:=by
 intro σ R fv f i ws toks acc out acc' bs hls hf hP hb hi hws hpr hl hR
 have hf0:=hf
 obtain⟨pv,lv,tv,rfl,i1,i2,i3⟩:=hf
 have h1:=i1.one
 have h2:=i2.one
 have h3:=i3.one
 obtain⟨hlt,hget⟩:=yaq.1 hws
 have hwl:=hsz ws (ycd hws)
 have i3t:=i3.keep hP.ad
 rw[←hls]at hlt
 obtain⟨φ,rv,hr,hrv,hat⟩:=i3.at hlt
 obtain⟨φ',rv',hr',hrv',hat'⟩:=i3t.at hlt
 subst hls
 rw[hget]at hrv hrv'
 refine zr7 rfl ?_
 have wi:((i.toNat:Nat):Int)=i:=by omega
 rw[wi]at hat hat'
 have hsame:ycU φ' rv'=ycU φ rv:=by
  have q1:=hat fun v=>v=ycU φ rv
  have q2:=hat' fun v=>v=ycU φ rv
  rw[←q2,q1]
 injection hsame with hs1 hs2
 subst hs1 hs2
 have hrd:=hr'.read
 have v1:=hrv'.one
 have vl:=RepO.len hrv'
 have hx:=hP.hx
 simp[zBM,h1,h2,h3,hat',hrd,v1,vl]
 have A:zf σ (σ.newO [.str f.name,pv,lv,.int .i64 f.type,tv]):=(zf.refl σ).newO
 refine zK (LqI B σ0 x f.lists d [.str f.name,pv,lv,.int .i64 f.type,tv] σ.no rv' ws toks acc' bs σ) (MU 16 (ws.length+1)) ⟨0,[],toks,acc,out,ycV _,rfl,by simpa using hpr,by simp,by simp,by simp,by simp,by simp,by simpa [spT]using hP.adds A,A.pwk,by simp,by simp,by omega⟩ fun a τ hI=>?_
 exact zjZ V IH rfl hf0 h1 h2 h3 hrv hwl hb hl hR hI
theorem zfT{B:Nat}(V:za9 G){σ0 x ls}(hsz:∀ws∈ls,ws.length≤2^40):∀k d:Nat,B≤d+k→zy5 B G σ0 x ls d
 | 0,d,hd=>zgS V hsz (fun h=>by omega)
 | k+1,d,hd=>zgS V hsz (fun _=>zfT V hsz k (d+1) (by omega))
end
theorem zpN:spT zaX=32::zaI:=by decide
theorem zno(t:Int)(h:t≠0):zaL zdX [t]=zpv t:=by
 unfold zaL zpv
 rw[if_neg (by simp),if_neg h]
 rfl
section
variable {G : Env} {σ : AS} {R : Out → AS → Prop}
def FlI(B:Nat)(σ0:AS)(x mo:Nat)(fv:AV)(m:M)(toks:List Tok)(bs:List UInt8)(a:Nat→AV)(τ:AS):Prop:=∃(j:Nat) (t1 t2:List Tok) (fs2:List F),j≤m.funcs.length∧toks=t1++t2∧PrFsB B (m.funcs.drop j) t2 fs2∧a 1=.ptr mo 0∧a 3=.pt 88 2 x 0∧a 15=fv∧a 16=.int .i64 (m.funcs.length:Int)∧a 17=.int .i64 (j:Int) ∧
 Pw σ0 x (bs++spT t1) τ∧τ.objs mo=some [fv,.int .i64 m.memory,.int .i64 m.main]∧mo<τ.no∧mo≠x
theorem zlI{B:Nat}(V:za9 G){σ0 x mo fv}{m:M}{toks:List Tok}{bs:List UInt8}{mx:Nat}(hfv:Al.FsO σ0 fv m.funcs)(hf:∀f∈m.funcs,Pf mx f)(hmx:mx≤1000)(hsz:∀f∈m.funcs,f.lists.length≤2^40∧∀ws∈f.lists,ws.length≤2^40)(hfl:m.funcs.length≤2^40)(hb:bs≠[])(hl:(bs++spT toks).length<2^44)
  (fin:∀(a:Nat→AV) (τ:AS),a 1=.ptr mo 0→a 3=.pt 88 2 x 0→Pw σ0 x (bs++spT toks) τ→τ.objs mo=some [fv,.int .i64 m.memory,.int .i64 m.main]→avc yb5 G 66 zhk (zcJ yb5 [.tmp 2] R) a τ) {a:Nat→AV} {τ:AS} (hI:FlI B σ0 x mo fv m toks bs a τ) :
  avc yb5 G 66 zhj (zaO (fun a' σ'=>FlI B σ0 x mo fv m toks bs a' σ'∧MU 17 (m.funcs.length+1) a' σ'<MU 17 (m.funcs.length+1) a τ) (zak 0 (zaO (avc yb5 G 66 zhk (zcJ yb5 [.tmp 2] R)) (zcJ yb5 [.tmp 2] R)))) a τ:=by
 obtain⟨j,t1,t2,fs2,hj,ht,hpr,a1,a3,a15,a16,a17,hP,hmo,hmon,hmox⟩:=hI
 by_cases hlt:j<m.funcs.length
 ·have hdrop:m.funcs.drop j=m.funcs[j]::m.funcs.drop (j+1):=ycT hlt
  have hmem:m.funcs[j]∈m.funcs:=yaw hlt
  have hft:=hfv.keep hP.ad
  obtain⟨φ0,row0,hr0,hrow0,hat0⟩:=hfv.at hlt
  obtain⟨φ,row,hr,hrow,hat⟩:=hft.at hlt
  have hsame:ycU φ row=ycU φ0 row0:=by
   have q1:=hat0 fun v=>v=ycU φ0 row0
   have q2:=hat fun v=>v=ycU φ0 row0
   rw[←q2,q1]
  injection hsame with hs1 hs2
  subst hs1 hs2
  have hr':=hr.read
  have hlti:(j:Int)<(m.funcs.length:Int):=by omega
  have w1:yb3 .i64 ((j:Int)+1)=((j+1:Nat):Int):=by rw[wrap_i64]<;>omega
  rw[hdrop]at hpr
  generalize hw:m.funcs[j]=f at *
  have hpf:=hf f hmem
  have hszf:=hsz f hmem
  obtain⟨pv,lv,tv,rfl,i1,i2,i3⟩:=id hrow0
  have p1:=i1.one
  have p2:=i2.one
  have p3:=i3.one
  have i3len:=i3.len
  have hnl:f.name.length≤1000:=by
   have:=hpf.name
   unfold zdL at this
   split at this
   ·cases this
   ·rename_i c r _
    simp only[Bool.and_eq_true,decide_eq_true_eq]at this
    omega
  have hlt1:(bs++spT toks).length=bs.length+(spT t1).length+(spT t2).length:=by rw[ht,zn];simp only[yab];omega
  simp[zhj,a1,a3,a15,a16,a17,hlt,hlti,hat,hr',p1,p2,p3,splice]
  have A1:zf τ ((τ.newO [.str [],.nilsl,.nilsl,.int .i64 0,.nilsl]).setO τ.no [.str f.name,pv,lv,.int .i64 f.type,tv]):=(zf.refl τ).newO.setO (yah _)
  have q1:((τ.newO [.str [],.nilsl,.nilsl,.int .i64 0,.nilsl]).setO τ.no [.str f.name,pv,lv,.int .i64 f.type,tv]).objs τ.no=some [.str f.name,pv,lv,.int .i64 f.type,tv]:=by simp
  have n1:((τ.newO [.str [],.nilsl,.nilsl,.int .i64 0,.nilsl]).setO τ.no [.str f.name,pv,lv,.int .i64 f.type,tv]).no=τ.no+1:=by simp
  have hP1:=hP.adds A1
  have hx:=hP.hx
  have hqx:τ.no≠x:=by omega
  have m1:=(A1.obj mo hmon).trans hmo
  refine⟨by omega,?_⟩
  generalize (τ.newO [.str [],.nilsl,.nilsl,.int .i64 0,.nilsl]).setO τ.no [.str f.name,pv,lv,.int .i64 f.type,tv]=τ1 at *
  cases hpr with
  | @cons _ _ tf ls' ts fs' hpF hprs =>
  obtain⟨row,out,acc,h1,h2,_⟩:=hpF
  have hl1:f.lists.length-1<f.lists.length:=(yaq.1 h1).1
  have wl:yb3 .i64 ((f.lists.length:Int)-1)=((f.lists.length-1:Nat):Int):=by
   have:=hszf.1
   rw[wrap_i64]<;>omega
  have hl0:(0:Int)≤((f.lists.length-1:Nat):Int):=by omega
  have hln:((f.lists.length-1:Nat):Int).toNat=f.lists.length-1:=by omega
  have hft1:spT (ziQ f tf)=spT [zL,zbD,36::f.name]++spT (zaL zbn f.params)++spT (zpv f.type)++spT (zaL zbo f.locals)++spT tf++spT [zi]:=by
   have:ziQ f tf=[zL,zbD,36::f.name]++zaL zbn f.params++zpv f.type++zaL zbo f.locals++tf++[zi]:=by simp[ziQ]
   rw[this,zn,zn,zn,zn,zn]
  have hl2:(spT (ziQ f tf++ts)).length=(spT [zL,zbD,36::f.name]).length+(spT (zaL zbn f.params)).length+(spT (zpv f.type)).length+(spT (zaL zbo f.locals)).length+(spT tf).length+(spT [zi]).length+(spT ts).length:=by
   rw[zn,hft1]
   simp only[yab]
  refine zad (ws:=[zL,zbD,36::f.name]) hP1 (by simp[hb]) (by simp) (by simp only[yab];omega) fun τ2 u2 P2 K2=>?_
  have n2:=K2.no
  have q2:=(K2.obj τ.no (by omega) hqx).trans q1
  have m2:=(K2.obj mo (by omega) hmox).trans m1
  simp[q2,a3,p1]
  refine zeS (kw:=zbn) P2 (by simp[hb]) i1 hpf.params (by simp only[yab];omega) fun τ3 u3 P3 K3=>?_
  have n3:=K3.no
  have q3:=(K3.obj τ.no (by omega) hqx).trans q2
  have m3:=(K3.obj mo (by omega) hmox).trans m2
  by_cases hty:f.type=0
  ·have hrz:zpv f.type=[]:=by unfold zpv;rw[if_pos hty]
   have hty':(f.type=0)=True:=eq_true hty
   simp[q3,a3,hty']
   have P4:=P3
   have K4:=PwK.refl x τ3
   have q4:=q3
   have m4:=m3
   have e4:bs++spT t1++spT [zL,zbD,36::f.name]++spT (zaL zbn f.params)=bs++spT t1++spT [zL,zbD,36::f.name]++spT (zaL zbn f.params)++spT (zpv f.type):=by rw[hrz];simp[spT]
   rw[e4]at P4
   generalize hτ4:τ3=τ4 at *
   simp[q4,a3]
   refine zeS (kw:=zbo) P4 (by simp[hb]) i2 hpf.locals (by simp only[yab];omega) fun τ5 u5 P5 K5=>?_
   have n5:=K5.no
   have q5:=(K5.obj τ.no (by omega) hqx).trans q4
   have m5:=(K5.obj mo (by omega) hmox).trans m4
   simp[q5,a3,i3len,wl]
   refine zfT (B:=B) V (x:=x) hszf.2 B 0 (by omega) τ5 _ _ f _ row tf [] out acc _ rfl hrow0 P5 (by simp[hb]) hl0 (by rw[hln];exact h1) h2 (by simp only[yab];omega) fun τ6 u6 P6 K6=>?_
   have n6:=K6.no
   have m6:=(K6.obj mo (by omega) hmox).trans m5
   simp[a3]
   refine zad (ws:=[zi]) P6 (by simp[hb]) (by simp) (by simp only[yab];omega) fun τ7 u7 P7 K7=>?_
   have n7:=K7.no
   have m7:=(K7.obj mo (by omega) hmox).trans m6
   simp[a1,a3,a15,a16,a17,w1]
   refine⟨⟨j+1,t1++ziQ f tf,ts,fs',hlt,by rw[ht,yck],hprs,by simp[a1],by simp[a3],by simp[a15],by simp[a16],by simp,?_,m7,by omega,hmox⟩,?_⟩
   ·rw[zn,hft1]
    simpa [yck]using P7
   ·simp[MU,a17];omega
  ·have hrz:=zno f.type hty
   have hty':(f.type=0)=False:=eq_false hty
   have htt:∀t∈[f.type],t=1∨t=2:=by
    intro t ht
    simp only[ych]at ht
    subst ht
    have:=hpf.type
    omega
   simp[q3,a3,hty']
   refine zeS (kw:=zdX) (l:=[f.type]) P3 (by simp[hb]) (.inr ⟨.stat true,rfl,trivial⟩) htt (by rw[hrz];simp only[yab];omega) fun τ4 u4 P4 K4=>?_
   rw[hrz]at P4
   have n4:=K4.no
   have q4:=(K4.obj τ.no (by omega) hqx).trans q3
   have m4:=(K4.obj mo (by omega) hmox).trans m3
   simp[q4,a3]
   refine zeS (kw:=zbo) P4 (by simp[hb]) i2 hpf.locals (by simp only[yab];omega) fun τ5 u5 P5 K5=>?_
   have n5:=K5.no
   have q5:=(K5.obj τ.no (by omega) hqx).trans q4
   have m5:=(K5.obj mo (by omega) hmox).trans m4
   simp[q5,a3,i3len,wl]
   refine zfT (B:=B) V (x:=x) hszf.2 B 0 (by omega) τ5 _ _ f _ row tf [] out acc _ rfl hrow0 P5 (by simp[hb]) hl0 (by rw[hln];exact h1) h2 (by simp only[yab];omega) fun τ6 u6 P6 K6=>?_
   have n6:=K6.no
   have m6:=(K6.obj mo (by omega) hmox).trans m5
   simp[a3]
   refine zad (ws:=[zi]) P6 (by simp[hb]) (by simp) (by simp only[yab];omega) fun τ7 u7 P7 K7=>?_
   have n7:=K7.no
   have m7:=(K7.obj mo (by omega) hmox).trans m6
   simp[a1,a3,a15,a16,a17,w1]
   refine⟨⟨j+1,t1++ziQ f tf,ts,fs',hlt,by rw[ht,yck],hprs,by simp[a1],by simp[a3],by simp[a15],by simp[a16],by simp,?_,m7,by omega,hmox⟩,?_⟩
   ·rw[zn,hft1]
    simpa [yck]using P7
   ·simp[MU,a17];omega
 ·have e:j=m.funcs.length:=by omega
  rw[yci (by omega)]at hpr
  cases hpr
  rw[ycH]at ht
  subst ht
  simp[zhj,a1,a3,a15,a16,a17,e]
  exact fin _ _ (by simp[a1]) (by simp[a3]) hP hmo
theorem znp(m:M)(toks:List Tok):zmV (zd1 m toks)=zaI++spT [Lib.itoa m.memory,zi,zi]++spT toks++spT [zL,zbx,zgi,zL,zbD,Lib.itoa (yb3 .i64 (m.main+3)),zi,zi,zi]++[10]:=by
 have e:zd1 m toks=zaX++[Lib.itoa m.memory,zi,zi]++toks++[zL,zbx,zgi,zL,zbD,Lib.itoa (yb3 .i64 (m.main+3)),zi,zi,zi]:=by simp[zd1,zCA]
 unfold zmV
 rw[zkQ,e,zn,zn,zn,zpN]
 simp only[yco,ycW]
theorem zsO{B:Nat}(V:za9 G){m:M}{mv:AV}{toks:List Tok}{fs2:List F}{mx:Nat}(hm:Al.MO σ mv m)(hpr:PrFsB B m.funcs toks fs2)(hf:∀f∈m.funcs,Pf mx f)(hmx:mx≤1000)(hsz:∀f∈m.funcs,f.lists.length≤2^40∧∀ws∈f.lists,ws.length≤2^40)(hfl:m.funcs.length≤2^40)
  (hmem:-(2^63)≤m.memory∧m.memory<2^63) (hl:(zmV (zd1 m toks)).length<2^43) (h:∀σ',zf σ σ'→R (.ret (.str (zmV (zd1 m toks)))) σ'):zzQ G 20 [mv] σ R:=by
 refine zrU rfl ?_
 obtain⟨fv,rfl,hfv⟩:=hm
 have f1:=hfv.one
 have fl:=hfv.len
 rw[znp]at hl
 simp only[yab]at hl
 simp[zBE,f1]
 have A1:zf σ ((σ.newO [fv,.int .i64 m.memory,.int .i64 m.main]).newO [.nilp,.nilsl]):=(zf.refl σ).newO.newO
 have m1:((σ.newO [fv,.int .i64 m.memory,.int .i64 m.main]).newO [.nilp,.nilsl]).objs σ.no=some [fv,.int .i64 m.memory,.int .i64 m.main]:=by
  have:¬σ.no=σ.no+1:=by omega
  simp[this]
 have p1:((σ.newO [fv,.int .i64 m.memory,.int .i64 m.main]).newO [.nilp,.nilsl]).objs (σ.no+1)=some [.nilp,.nilsl]:=by simp
 have n1:((σ.newO [fv,.int .i64 m.memory,.int .i64 m.main]).newO [.nilp,.nilsl]).no=σ.no+2:=by simp
 generalize (σ.newO [fv,.int .i64 m.memory,.int .i64 m.main]).newO [.nilp,.nilsl]=τ1 at *
 refine zcO V hmem ?_
 simp
 refine zwN (o:=σ.no+1) (i:=1) (cs:=[.nilp,.nilsl]) (e:=5) p1 rfl ?_
 have e1:splice [AV.nilp,ycO] 1 [AV.tys 5 .nilsl]=[.nilp,.tys 5 .nilsl]:=rfl
 rw[e1]
 have hP0:Pw σ (σ.no+1) [] (τ1.setO (σ.no+1) [.nilp,.tys 5 .nilsl]):=⟨by omega,by simp;omega,A1.setO (by omega),_,_,by simp,.inl rfl,.inl ⟨rfl,rfl⟩⟩
 have m2:(τ1.setO (σ.no+1) [.nilp,.tys 5 .nilsl]).objs σ.no=some [fv,.int .i64 m.memory,.int .i64 m.main]:=by
  have:¬σ.no=σ.no+1:=by omega
  simp[this,m1]
 have n2:(τ1.setO (σ.no+1) [.nilp,.tys 5 .nilsl]).no=σ.no+2:=by simp[n1]
 generalize τ1.setO (σ.no+1) [.nilp,.tys 5 .nilsl]=τ2 at *
 have hh:zaI≠[]:=by decide
 have es:zdH [] [zaI,Lib.itoa m.memory,zi,zi]=zaI++spT [Lib.itoa m.memory,zi,zi]:=by
  have:zdH [] [zaI,Lib.itoa m.memory,zi,zi]=zdH zaI [Lib.itoa m.memory,zi,zi]:=rfl
  rw[this,zjY _ hh]
 refine zq3 (ws:=[zaI,Lib.itoa m.memory,zi,zi]) hP0 (by simp) (by rw[es,yab];omega) fun τ3 u3 P3 K3=>?_
 rw[es]at P3
 have n3:=K3.no
 have m3:=(K3.obj σ.no (by omega) (by omega)).trans m2
 simp[m3,f1,fl]
 refine zK (FlI B σ (σ.no+1) σ.no fv m toks (zaI++spT [Lib.itoa m.memory,zi,zi])) (MU 17 (m.funcs.length+1)) ⟨0,[],toks,fs2,ycV _,rfl,by simpa using hpr,by simp,by simp,by simp,by simp,by simp,by simpa [spT]using P3,m3,by omega,by omega⟩ fun a τ hI=>?_
 refine zlI V hfv hf hmx hsz hfl (by simp[hh]) (by simp only[yab];omega) (fun a τ a1 a3 hP hmo=>?_) hI
 simp[zhk,a1,a3,hmo]
 refine zcO V (zhP _).1 ?_
 simp
 refine zad (ws:=[zL,zbx,zgi,zL,zbD,Lib.itoa (yb3 .i64 (m.main+3)),zi,zi,zi]) hP (by simp[hh]) (by simp) (by simp only[yab];omega) fun τ5 u5 P5 K5=>?_
 simp[a3]
 refine zpL P5 (by simp[hh]) (by simp only[yab];omega) fun τ6 A6 K6=>?_
 have:=h _ A6
 rw[znp]at this
 simp
 refine⟨by have:([10]:List UInt8).length=1:=rfl;omega,?_⟩
 simpa [yck]using this
end
end Go.Proofs.YtohfclafhegadaaGreatDoor

namespace Go.Proofs.YtohfclafhegadaaGreatDoor
open Go Go.Abs
def zkS:F:={ name:=[102],params:=[],locals:=[],type:=1,lists:=[[{ op:=1,ty:=1,n:=7,body:=0,other:=0,name:=[] }]] }
def zaC:M:={ funcs:=[zkS],memory:=16,main:=0 }
section
variable {G : Env} {σ : AS} {R : Out → AS → Prop}
end
end Go.Proofs.YtohfclafhegadaaGreatDoor

namespace Go.Proofs.YtohfclafhegadaaGreatDoor
open Go Go.Abs
def zBl:List UInt8:=[40,32,109,111,100,117,108,101,32,40,32,105,109,112,111,114,116,32,34,101,110,118,34,32,34,105,110,34,32,40,32,102,117,110,99,32,40,32,114,101,115,117,108,116,32,105,54,52,32,41,32,41,32,41,32,40,32,105,109,112,111,114,116,32,34,101,110,118,34,32,34,111,117,116,34,32,40,32,102,117,110,99,32,40,32,112,97,114,97,109,32,105,54,52,32,41,32,41,32,41,32,40,32,105,109,112,111,114,116,32,34,101,110,118,34,32,34,116,114,97,112,34,32,40,32,102,117,110,99,32,40,32,112,97,114,97,109,32,105,51,50,32,41,32,41,32,41,32,40,32,109,101,109,111,114,121,32,49,32,41,32,40,32,103,108,111,98,97,108,32,105,51,50,32,40,32,105,51,50,46,99,111,110,115,116,32,49,54,32,41,32,41,32,40,32,102,117,110,99,32,36,102,32,40,32,114,101,115,117,108,116,32,105,51,50,32,41,32]
def zsP:List UInt8:=[32,41,32,40,32,101,120,112,111,114,116,32,34,109,97,105,110,34,32,40,32,102,117,110,99,32,51,32,41,32,41,32,41,10]
def zeH(t:List UInt8):List UInt8:=zBl++t++zsP
def t7:List UInt8:=[105,51,50,46,99,111,110,115,116,32,55]
def t07:List UInt8:=[105,51,50,46,99,111,110,115,116,32,48,55]
def zsQ:List UInt8:=[105,51,50,46,99,111,110,115,32,55]
theorem zq4:zaK 24 (zeH t7)=.ok zaC:=by kernel_rfl
theorem znq:zaK 24 (zeH t07)=.error 11:=by kernel_rfl
theorem zi6:zaK 24 (zeH zsQ)=.error 2:=by kernel_rfl
def zwP:List Tok:=ziQ zkS (zeF { op:=1,ty:=1,n:=7,body:=0,other:=0,name:=[] }++[])++[]
theorem zBm:zBf zaC.funcs zwP [{ zkS with lists:=[]++[[zmU { op:=1,ty:=1,n:=7,body:=0,other:=0,name:=[] }]] }] :=
 .cons ⟨_,_,_,rfl,.leaf (by decide) (by decide) ⟨by decide,by decide⟩ (.nil _ _),rfl⟩ .nil
theorem zwQ:zmV (zd1 zaC zwP)=zeH t7:=by kernel_rfl
theorem zh1{s:List UInt8}:zgo s:=trivial
theorem zsR:zBl.length=218:=by rfl
theorem zpO:zsP.length=34:=by rfl
theorem zeT(t:List UInt8):(zeH t).length=t.length+252:=by
 simp only[zeH,yab,zsR,zpO];omega
theorem zwR:∀f∈zaC.funcs,Al.SzE f:=fun f hf=>by
 simp only[zaC,ych]at hf
 subst hf
 exact⟨by decide,by decide,by decide,by decide⟩
section
variable {G : Env} {σ : AS} {R : Out → AS → Prop}
theorem zkT{t:List UInt8}(hl:t.length<2^40)(h:R (.ret (.str (zeH t))) σ):zzQ G 10 [.str t] σ R:=by
 refine zrR rfl ?_
 have e:∀l:List UInt8,l=zeH t→R (.ret (.str l)) σ:=fun l q=>q▸h
 simp[zBB]
 refine⟨by omega,by omega,?_⟩
 refine e _ ?_
 simp[zeH,zBl,zsP]
theorem zi7(h:∀v σ',Al.MO σ' v zaC→zf σ σ'→R (.ret v) σ'):zzQ G 11 [] σ R:=by
 refine zrS rfl ?_
 simp[zBC,splice]
 refine h _ _ ⟨_,rfl,.inr ⟨_,_,rfl,trivial,.cons ⟨_,_,_,rfl,.inl ⟨rfl,rfl⟩,.inl ⟨rfl,rfl⟩,.inr ⟨_,_,rfl,trivial,.cons (.inr ⟨_,rfl,trivial⟩) .nil⟩⟩ .nil⟩⟩ ((zf.refl σ).newO.setO (yah _))
theorem zsS:∀f∈zaC.funcs,Pf 24 f:=fun f hf=>by
 simp only[zaC,ych]at hf
 subst hf
 exact⟨by decide,fun t ht=>(by cases ht),fun t ht=>(by cases ht),.inr (.inl rfl)⟩
theorem zsT:∀f∈zaC.funcs,f.lists.length≤2^40∧∀ws∈f.lists,ws.length≤2^40:=fun f hf=>by
 simp only[zaC,ych]at hf
 subst hf
 exact⟨by decide,fun ws hw=>by simp[zkS]at hw;subst hw;decide⟩
theorem ok7:zgo (zeH t7):=zh1
theorem zCP:zgo (zeH t07):=zh1
theorem zwS:zgo (zeH zsQ):=zh1
theorem zsU(V:za9 G)(h00:0<σ.nf∧σ.F 0=.alive)(h:∀σ',zf σ σ'→R (.ret (.bool true)) σ'):zzQ G 12 [] σ R:=by
 refine zrT rfl ?_
 simp[zBD]
 refine zkT (t:=t7) (by decide) ?_
 simp
 refine zfR V h00 ok7 (by rw[zeT];decide) (fun e q=>by rw[zq4]at q;cases q) fun m hm mv σ1 hv1 A1=>?_
 rw[zq4]at hm
 cases hm
 have h01:0<σ1.nf∧σ1.F 0=.alive:=⟨by have:=A1.nf;omega,(A1.fam 0 h00.1).trans h00.2⟩
 have hv1':=hv1
 obtain⟨fv,rfl,hof⟩:=hv1'
 have fv1:=zhZ hof
 have B1:zf σ1 ((σ1.newO [ycO,.int .i64 0,.int .i64 0]).setO σ1.no [fv,.int .i64 zaC.memory,.int .i64 zaC.main]):=(zf.refl σ1).newO.setO (yah _)
 have ho1:((σ1.newO [ycO,.int .i64 0,.int .i64 0]).setO σ1.no [fv,.int .i64 zaC.memory,.int .i64 zaC.main]).objs σ1.no=some [fv,.int .i64 zaC.memory,.int .i64 zaC.main]:=by simp
 have hl1:σ1.no<((σ1.newO [ycO,.int .i64 0,.int .i64 0]).setO σ1.no [fv,.int .i64 zaC.memory,.int .i64 zaC.main]).no:=by simp
 simp[fv1,splice]
 generalize (σ1.newO [ycO,.int .i64 0,.int .i64 0]).setO σ1.no [fv,.int .i64 zaC.memory,.int .i64 zaC.main]=τ1 at *
 have A2:=A1.trans B1
 refine zkT (t:=t07) (by decide) ?_
 simp
 refine zfR V ⟨by have:=B1.nf;omega,(B1.fam 0 h01.1).trans h01.2⟩ zCP (by rw[zeT];decide) (fun e q σ2 C2=>?_) fun m hm=>by rw[znq]at hm;cases hm
 rw[znq]at q
 cases q
 simp[zZ,splice]
 have C3:zf σ2 ((σ2.newO [ycO,.int .i64 0,.int .i64 0]).setO σ2.no [ycO,.int .i64 0,.int .i64 0]):=(zf.refl σ2).newO.setO (yah _)
 generalize (σ2.newO [ycO,.int .i64 0,.int .i64 0]).setO σ2.no [ycO,.int .i64 0,.int .i64 0]=τ2 at *
 have C4:=C2.trans C3
 have B2:=B1.trans C4
 refine zkT (t:=zsQ) (by decide) ?_
 simp
 refine zfR V ⟨by have:=B2.nf;omega,(B2.fam 0 h01.1).trans h01.2⟩ zwS (by rw[zeT];decide) (fun e q σ4 C5=>?_) fun m hm=>by rw[zi6]at hm;cases hm
 rw[zi6]at q
 cases q
 simp[zZ,splice]
 have C6:zf σ4 ((σ4.newO [ycO,.int .i64 0,.int .i64 0]).setO σ4.no [ycO,.int .i64 0,.int .i64 0]):=(zf.refl σ4).newO.setO (yah _)
 generalize (σ4.newO [ycO,.int .i64 0,.int .i64 0]).setO σ4.no [ycO,.int .i64 0,.int .i64 0]=τ4 at *
 have C7:=C4.trans (C5.trans C6)
 have B4:=B1.trans C7
 refine zi7 fun v5 σ5 hv5 A5=>?_
 simp
 refine zsO V hv5 zBm zsS (by decide) zsT (by decide) (by decide) (by rw[zwQ,zeT];decide) fun σ6 A6=>?_
 rw[zwQ]
 simp
 refine zkT (t:=t7) (by decide) ?_
 have C8:=(C7.trans A5).trans A6
 have ho6:=(C8.obj σ1.no hl1).trans ho1
 simp[ho6,fv1]
 refine zi7 fun v8 σ8 hv8 A8=>?_
 have C9:=C8.trans A8
 have ho8:=(C9.obj σ1.no hl1).trans ho1
 have B8:=(A1.trans B1).trans C9
 have hme:=zpJ hv1 (B1.trans C9).nf fun f hf=>(B1.trans C9).fam f hf
 have hM:=Al.m_e (σ:=σ8) ⟨by have:=B8.nf;omega,(B8.fam 0 h00.1).trans h00.2⟩ hme
 simp[ho8,fv1]
 refine Al.eqM_calls hM hv8 (by decide) zwR fun σ9 A9=>?_
 simp
 exact h _ (B8.trans A9)
end
end Go.Proofs.YtohfclafhegadaaGreatDoor


namespace Go
open Go.ChangeShapes Go.WideShapes Go.ChangeAt Go.RowKit
theorem zas{H:Type}{enc:TypeId × Value→H}{a:Assume}{C:Checked}{os:Os}{f:FuncId}{fn:Func}{s:ChangeSpec}{conds:List PathCond}{apart fresh handsOn again:Bool}{X:World→Array Value→Prop}
  (hX:∀(w w':World) (args:Array Value),w.heap=w'.heap→X w args→X w' args)
  (own:ownKnob C.prog.godebug=none) (started:os.Started) (noInit:C.prog.inits.idxOf? f=none) (hfn:C.prog.funcs[f]?=some fn)
  (witness:∃(w:World) (tape:Tape) (i:Input),w.os=os∧(w.forCall tape i).Shaped C.prog∧i.vars=[]∧Input.okWide C.prog (w.forCall tape i) .any w.heap.size f i ∧
   ((s.pre enc C.prog fn conds apart (w.forCall tape i).memory i.args∧X (w.forCall tape i).memory i.args)∧sizedMet enc C.prog fn (OpenSpec.ofChange s) apart (w.forCall tape i).memory i.args)∧a.holds C.prog (lone (Frame.enter C.prog f i.args .normal) [] (w.forCall tape i)))
  (contract:∀(W:World) (base:Nat) (args:Array Value) (ds gs:List (DataW H)) (before:List MemPlace),
   (∀(j:Nat) t v,fn.params[j]?=some t→args[j]?=some v→Value.okWide C.prog W .any base t v) →
   DataW.Whole enc C.prog fn.params.toList s.vars apart W args.toList ds gs before→(DataW.weightsEach C.prog (fn.params.toList++s.plain.varTypes C.prog) (ds++gs)).all (·≤reachBytes)=true→W.ShapedOpen C.prog→X W args →
   Calls C.prog f args W fun e W'=>∃v,e=.returned v∧s.post enc C.prog fn apart fresh handsOn again W args v W') :
  ReturnsInHanded a C os f .any (fun w args=>(s.pre enc C.prog fn conds apart w args∧X w args)∧sizedMet enc C.prog fn (OpenSpec.ofChange s) apart w args) (s.post enc C.prog fn apart fresh handsOn again):=by
 refine returnsInHanded_of_calls own started noInit witness ?_
 intro w tape i _ hsh _ hok hpre hholds
 obtain⟨_,_,_,fn',hfn',_,_,_,_,hval⟩:=hok
 have e:fn'=fn:=yaR.inj (hfn'.symm.trans hfn)
 subst e
 obtain⟨⟨⟨ds,gs,before,hw,hc⟩,hx⟩,hz⟩:=hpre
 have hw':=DataW.Whole.of_heap (w':=w.forCall tape i) (by rfl) hw
 refine(contract (w.forCall tape i) w.heap.size i.args ds gs before hval hw' (hz.weights hw) hsh (hX _ _ _ (by rfl) hx)).mono fun e W' ⟨v,he,hp⟩=>?_
 subst he
 exact ChangeSpec.post_blind hp
end Go
namespace Go.Proofs.YtohfclafhegadaaGreatDoor
open Go Go.Abs Go.RowKit
theorem own:ownKnob yb5.godebug=none:=by kernel_rfl
abbrev zCQ : List (String × DataW Unit) := [("math/bits.deBruijn32tab", Rows.laid_math_bits_deBruijn32tab), ("math/bits.deBruijn64tab", Rows.laid_math_bits_deBruijn64tab), ("internal/strconv.uint64pow10", Rows.laid_internal_strconv_uint64pow10), ("unicode/utf8.acceptRanges", Rows.laid_unicode_utf8_acceptRanges), ("strconv.ErrRange", Rows.laid_strconv_ErrRange), ("strconv.ErrSyntax", Rows.laid_strconv_ErrSyntax), ("unicode.White_Space", Rows.laid_unicode_White_Space), ("strings.asciiSpace", Rows.laid_strings_asciiSpace), ("mortise/bin.bytesOf", Rows.laid_mortise_bin_bytesOf), ("mortise/bin.plain", Rows.laid_mortise_bin_plain), ("mortise/bin.numbered", Rows.laid_mortise_bin_numbered), ("mortise/wasm.signs", Rows.laid_mortise_wasm_signs), ("unicode/utf8.first", Rows.laid_unicode_utf8_first)]
end Go.Proofs.YtohfclafhegadaaGreatDoor
namespace Go
open Go.ChangeShapes Go.WideShapes Go.ChangeAt Go.RowKit
theorem zeU{P:Program}{w:World}:∀{l:List (String × DataW Unit)} {ps:List MemPlace} {n:String} {d:DataW Unit} {k:Nat},DataW.LaidVars P w l ps→l[k]?=some (n,d)→∃g t cs fuel p,P.globalNamed n=some g∧(P.globals[g]?).map (·.type)=some t∧w.var? P n=some cs∧DataW.trod (fun _=>()) P w 0 (fun _=>true) false fuel t cs.toList=some (d,p)
 | [],ps,n,d,k,h,hk=>by simp at hk
 | (n',d')::l,ps,n,d,k,h,hk=>by
  obtain⟨g,t,cs,fuel,p,q,h1,h2,h3,h4,h5,rfl⟩:=h
  cases k with
  | zero =>
   simp only[ycS,yaR.injEq,Prod.mk.injEq]at hk
   obtain⟨rfl,rfl⟩:=hk
   exact⟨g,t,cs,fuel,p,h1,h2,h3,h4⟩
  | succ k=>exact zeU h5 (by simpa using hk)
theorem zpP{P:Program}{w:World}{fuel:Nat}{t:TypeId}{ms:Array (String × TypeId)}{cs:List Value}{nm:String}{d:DataW Unit}{p:List MemPlace}(ht:P.underlying t=some (.interface ms))
  (h:DataW.trod (fun _=>()) P w 0 (fun _=>true) false fuel t cs=some (.iface nm d,p)):∃u v,cs=[.iface u v]:=by
 cases fuel with
 | zero=>simp[DataW.trod]at h
 | succ fuel =>
  rw[DataW.trod_step]at h
  unfold DataW.trodStep at h
  rw[ht]at h
  split at h<;>simp_all
end Go
namespace Go.Proofs.YtohfclafhegadaaGreatDoor
open Go Go.Abs Go.RowKit Go.ChangeShapes Go.WideShapes
def spZ:List Int:=(List.range 256).map fun c=>if zdf (UInt8.ofNat c)then 1 else 0
theorem zwT{M F w}{x:AV}{c:Value}(h:VR M F w x c):Cells M F w [x] #[c]:=⟨rfl,fun j v hj=>by
 match j with
 | 0=>simp at hj;subst hj;exact⟨c,rfl,h⟩
 | j+1=>simp at hj⟩
theorem zsV:laidOutB yb5=true:=by kernel_rfl
end Go.Proofs.YtohfclafhegadaaGreatDoor
namespace Go.Proofs.YtohfclafhegadaaGreatDoor
open Go Go.Abs Go.RowKit
abbrev zwU : List String := ["unicode/utf8.first"]
abbrev zCD:List Nat:=(List.range 26).filter fun b=>b != 7
noncomputable def zfU(os:Os):World:=(World.doorLaid yb5 400 os).layVars yb5 (zCQ.filter fun x=>zwU.contains x.1)
end Go.Proofs.YtohfclafhegadaaGreatDoor
namespace Go.Proofs.YtohfclafhegadaaGreatDoor
open Go Go.Abs Go.RowKit Go.ChangeShapes Go.WideShapes
abbrev zi8 : List (String × DataW Unit) := [("math/bits.deBruijn32tab", Rows.laid_math_bits_deBruijn32tab), ("math/bits.deBruijn64tab", Rows.laid_math_bits_deBruijn64tab), ("internal/strconv.uint64pow10", Rows.laid_internal_strconv_uint64pow10), ("unicode/utf8.acceptRanges", Rows.laid_unicode_utf8_acceptRanges), ("strconv.ErrRange", Rows.laid_strconv_ErrRange), ("strconv.ErrSyntax", Rows.laid_strconv_ErrSyntax), ("unicode.White_Space", Rows.laid_unicode_White_Space), ("strings.asciiSpace", Rows.laid_strings_asciiSpace), ("unicode/utf8.first", Rows.laid_unicode_utf8_first)]
def GP(u:TypeId):Env where
 g:=fun x=>match x with
  | 0=>.pv (.stat true) (.agg zdg)
  | 6=>.pv (.stat true) (.iface u .undef)
  | _=>.undef
 has:=fun _=>False
 y:=fun _ _ _ _ _=>False
 fix:=fun B=>if B=9 then some (Lib.pow10Tab.map fun z=>Value.int .u64 z).toArray else none
theorem zCR(u):za9 (GP u):=⟨rfl,⟨u,.undef,rfl⟩,rfl⟩
theorem zpQ(u:TypeId):∀k,StillI ((GP u).g k):=by
 intro k
 match k with
 | 0 =>
  exact .pv _ _ fun c hc=>by
   simp only[AV.cells,zdg,List.mem_map]at hc
   obtain⟨x,_,rfl⟩:=hc
   exact .int _ _
 | 1=>exact .undef
 | 2=>exact .undef
 | 3=>exact .undef
 | 4=>exact .undef
 | 5=>exact .undef
 | 6 =>
  exact .pv _ _ fun c hc=>by
   simp only[AV.cells,ych]at hc
   subst hc
   exact .iface _ _ .undef
 | n+7=>exact .undef
theorem zi9{W:World}(hs:W.ShapedOpen yb5)(hl:laidMetH yb5 zi8 W):∃u,GOk yb5 (GP u) (Mp.all W) AS.zero.F W:=by
 have hl0:laidMet yb5 zi8 W:=hl
 obtain⟨ps,hv,_⟩:=hl0
 obtain⟨g0,t0,cs0,fuel0,p0,a1,a2,a3,a4⟩:=zeU (k:=7) hv rfl
 obtain⟨g6,t6,cs6,fuel6,p6,e1,e2,e3,e4⟩:=zeU (k:=4) hv rfl
 obtain⟨g9,t9,cs9,fuel9,p9,f1,f2,f3,f4⟩:=zeU (k:=2) hv rfl
 obtain rfl : 0 = g0 := Option.some.inj ((show Tryz.prog.globalNamed "strings.asciiSpace" = some 0 by kernel_rfl).symm.trans a1)
 obtain rfl : 6 = g6 := Option.some.inj ((show Tryz.prog.globalNamed "strconv.ErrRange" = some 6 by kernel_rfl).symm.trans e1)
 obtain rfl : 9 = g9 := Option.some.inj ((show Tryz.prog.globalNamed "internal/strconv.uint64pow10" = some 9 by kernel_rfl).symm.trans f1)
 obtain rfl:135=t0:=yaR.inj ((show(yb5.globals[0]?).map (·.type)=some 135 by kernel_rfl).symm.trans a2)
 obtain rfl:139=t6:=yaR.inj ((show(yb5.globals[6]?).map (·.type)=some 139 by kernel_rfl).symm.trans e2)
 obtain rfl:282=t9:=yaR.inj ((show(yb5.globals[9]?).map (·.type)=some 282 by kernel_rfl).symm.trans f2)
 have k0:cs0.toList=spZ.map fun z=>Value.int .u8 z:=Lib.cells_of_tab (n:=256) (e:=5) (k:=.u8) Tryz.underlying135 Tryz.underlying5 (by kernel_rfl) (by kernel_rfl) (zs:=spZ) (by have:=a4;exact this)
 obtain⟨u,ev,hc6⟩:=zpP Tryz.underlying139 e4
 have k9:cs9.toList=Lib.pow10Tab.map fun z=>Value.int .u64 z:=Lib.cells_of_tab (n:=20) (e:=174) (k:=.u64) Tryz.underlying282 Tryz.underlying174 (by kernel_rfl) (by kernel_rfl) (zs:=Lib.pow10Tab) (by have:=f4;exact this)
 obtain⟨m,hm⟩:=Tryz.laysM143.s1_3 W hs
 have l11:11<W.heap.size:=World.block_lt_of_cell? W _ hm
 have cell:∀(nm:String) (g:Nat) (cs:Array Value),yb5.globalNamed nm=some g→W.var? yb5 nm=some cs→∀j,W.cell? ⟨g,j,none⟩=cs.toList[j]?:=fun nm g cs h1 h2 j=>by
  have:=World.var?_cell h1 h2 j
  rw[Array.getElem?_toList]
  simpa using this
 have v0:=cell _ 0 cs0 a1 a3
 have v6:=cell _ 6 cs6 e1 e3
 rw[k0]at v0
 rw[hc6]at v6
 refine⟨u,⟨fun x=>?_,fun _ h=>h.elim,fun B c h=>?_⟩⟩
 ·match x with
  | 0 =>
   have hl:zdg=spZ.map (ycc .u8):=by simp[zdg,spZ]
   refine .pv _ _ 0 0 (fun j=>(spZ.map fun z=>Value.int .u8 z).getD j undef) (by simp[Mem,Mp.all];omega) (fun _ j hj=>?_) (fun _ j hj=>?_)
   ·have hj':j<(spZ.map fun z=>Value.int .u8 z).length:=by
     have:j<zdg.length:=hj
     rw[hl]at this
     simpa using this
    rw[ycR,v0 j,ycX,yau hj']
    rfl
   ·have hj':j<spZ.length:=by
     have:j<zdg.length:=hj
     rw[hl]at this
     simpa using this
    have:((AV.agg zdg).cells[j]'hj)=.int .u8 spZ[j]:=by simp[AV.cells,hl]
    rw[this,ycX,ycY,yau hj']
    exact .int ..
  | 1=>exact .undef _
  | 2=>exact .undef _
  | 3=>exact .undef _
  | 4=>exact .undef _
  | 5=>exact .undef _
  | 6 =>
   refine .pv _ _ 6 0 (fun j=>.iface u ev) (by simp[Mem,Mp.all];omega) (fun _ j hj=>?_) (fun _ j hj=>?_)
   ·have hj':j=0:=by simpa using hj
    subst hj'
    exact v6 0
   ·have hj':j=0:=by simpa using hj
    subst hj'
    exact .iface _ _ _ (.undef _)
  | n+7=>exact .undef _
 ·simp only[GP]at h
  split at h
  ·rename_i hB
   subst hB
   cases h
   refine⟨by simp[Mp.all];omega,?_⟩
   have hq:cs9=(Lib.pow10Tab.map fun z=>Value.int .u64 z).toArray:=by
    rw[←k9]
   rw[←hq]
   have:=f3
   simp only[World.var?,f1]at this
   rw[Option.bind_some]at this
   split at this
   ·rename_i cs elem frozen hh
    cases this
    exact⟨_,_,hh⟩
   ·cases this
  ·cases h
theorem zlJ(os:Os):laidMet yb5 zi8 (zfU os) :=
 laidMet_layVars (w0:=World.doorLaid yb5 400 os) zwU zCD rfl (by kernel_rfl) (by kernel_rfl) (LaidIn.of_run zCD 8 (by kernel_rfl) (by kernel_rfl) (by kernel_rfl) (by kernel_rfl))
theorem znr(os:Os)(args:Array Value):laidMetH yb5 zi8 ((zfU os).forCall (fun _ _=>0) ⟨#[],args,[]⟩).memory :=
 show laidMet yb5 zi8 _ from(zlJ os).of_heap (by simp[World.memory,World.forCall,Input.heap])
end Go.Proofs.YtohfclafhegadaaGreatDoor

namespace Go.Proofs.YtohfclafhegadaaGreatDoor
open Go Go.Abs
def zkU(M:Mp):Mp where
 role B:=match M.role B with
  | some (.st m)=>some (.st m)
  | _=>none
 obj:=M.obj
 no:=0
 nf:=1
def zfV(M M':Mp)(n:Nat):Mp:={ M with role:=fun B=>match M.role B with
  | some r=>some r
  | none=>if B<n then none else match M'.role B with
   | some (.st m)=>some (.st m)
   | some (.fam _)=>some .stat
   | _=>none }
theorem zkV{M:Mp}{B m}(h:M.role B=some (.st m)):(zkU M).role B=some (.st m):=by simp[zkU,h]
theorem zgT{M:Mp}{B}(h:∀m,M.role B≠some (.st m)):(zkU M).role B=none:=by
 cases hq:M.role B with
 | none=>simp[zkU,hq]
 | some r =>
  cases r with
  | st m=>exact absurd hq (h m)
  | fam f=>simp[zkU,hq]
  | obj=>simp[zkU,hq]
theorem zcE{M M':Mp}{n B r}(h:M.role B=some r):(zfV M M' n).role B=some r:=by simp[zfV,h]
theorem zns{M M':Mp}{n B}(h:M.role B=none)(hB:B<n):(zfV M M' n).role B=none:=by simp[zfV,h,hB]
end Go.Proofs.YtohfclafhegadaaGreatDoor
namespace Go.Abs
open Go Go.Abs
open Go.Proofs.YtohfclafhegadaaGreatDoor
theorem Sim.rid{M:Mp}{σ:AS}{w:World}(S:Sim M σ w):Sim (zkU M) AS.bare w where
 no:=rfl
 nf:=rfl
 role B r h:=by
  cases hq:M.role B with
  | none=>simp[zkU,hq]at h
  | some r'=>exact S.role B r' hq
 obj o cs h:=by cases h
 inj o o' h:=by cases h
end Go.Abs
namespace Go.Proofs.YtohfclafhegadaaGreatDoor
open Go Go.Abs
section
variable {M M' : Mp} {σ : AS} {w w' : World} {F' : Nat → FSt}
theorem zkW(S:Sim M σ w)(E:Ext (zkU M) AS.bare.F w M' F' w'){B:Nat}{r:Role}(h:M.role B=some r)(hr:∀m,r≠.st m):w'.heap[B]?=w.heap[B]? :=
 (E.free B (S.role B r h) (zgT fun m q=>by rw[h]at q;cases q;exact hr m rfl)).2
theorem zkX(S:Sim M σ w)(E:Ext (zkU M) AS.bare.F w M' F' w'):Ext M σ.F w (zfV M M' w.heap.size) σ.F w' where
 io:=E.io
 no:=yah _
 nf:=yah _
 obj _ _:=rfl
 dead _ _ h:=h
 spoil _ _ h:=by rw[h];simp
 size:=E.size
 shape B c e z h:=by
  obtain⟨c',z',h1,h2,h3⟩:=E.shape B c e z h
  refine⟨c',z',h1,h2,fun hn=>?_⟩
  have hB:=(Array.getElem?_eq_some_iff.1 h).1
  have hq:w'.heap[B]?=w.heap[B]?:=(E.free B hB (zgT fun m q=>hn m (zcE q))).2
  rw[hq,h]at h1
  cases h1
  exact fun _ _ q=>q
 stat B m h:=⟨zcE h,(E.stat B m (zkV h)).2⟩
 free B hB h:=⟨zns h hB,(E.free B hB (zgT fun m q=>by rw[h]at q;cases q)).2⟩
 famr B f _ h _:=zcE h
 famc B f _ h _:=zkW S E h (fun m q=>by cases q)
theorem zpR(S:Sim M σ w)(E:Ext (zkU M) AS.bare.F w M' F' w'){σ':AS}(S':Sim M' σ' w'):Sim (zfV M M' w.heap.size) σ w' where
 no:=S.no
 nf:=S.nf
 role B r h:=by
  cases hq:M.role B with
  | some r'=>exact yag (S.role B r' hq) E.size
  | none =>
   by_cases hB:B<w.heap.size
   ·exact yag hB E.size
   ·cases hq':M'.role B with
    | none=>simp[zfV,hq,hB,hq']at h
    | some r'=>exact S'.role B r' hq'
 obj o cs h:=by
  obtain⟨h1,h2,h3⟩:=S.obj o cs h
  have hq:=zkW S E h2 (fun m q=>by cases q)
  refine⟨h1,zcE h2,fun j hj=>?_⟩
  obtain⟨c,a,b,d⟩:=h3 j hj
  exact⟨c,(zh hq).trans a,(zg hq).trans b,d.mono (zkX S E)⟩
 inj:=S.inj
theorem zsW(S:Sim M σ w)(E:Ext (zkU M) AS.bare.F w M' F' w'){v:AV}{c:Value}(h:VR M' F' w' v c)(hs:Cb F' v):VR (zfV M M' w.heap.size) σ.F w' (clm v) c:=by
 have old:∀B r,B<w.heap.size→M'.role B=some r→∃m,r=.st m∧M.role B=some (.st m):=fun B r hB hr=>by
  cases hq:M.role B with
  | none =>
   have:=(E.free B hB (zgT fun m q=>by rw[hq]at q;cases q)).1
   rw[hr]at this;cases this
  | some r' =>
   cases r' with
   | st m =>
    have:=(E.stat B m (zkV hq)).1
    rw[hr]at this;cases this
    exact⟨m,rfl,rfl⟩
   | fam f =>
    have:=(E.free B hB (zgT fun m q=>by rw[hq]at q;cases q)).1
    rw[hr]at this;cases this
   | obj =>
    have:=(E.free B hB (zgT fun m q=>by rw[hq]at q;cases q)).1
    rw[hr]at this;cases this
 have new:∀B,¬B<w.heap.size→M.role B=none:=fun B hB=>by
  cases hq:M.role B with
  | none=>rfl
  | some r=>exact absurd (S.role B r hq) hB
 refine h.clmTo (fun B m hm=>?_) (fun B f hf=>?_) hs
 ·by_cases hB:B<w.heap.size
  ·obtain⟨m',e,hm'⟩:=old B _ hB hm
   cases e
   exact zcE hm'
  ·simp[zfV,new B hB,hB,hm]
 ·by_cases hB:B<w.heap.size
  ·obtain⟨m',e,hm'⟩:=old B _ hB hf
   cases e
  ·exact⟨false,by simp[zfV,new B hB,hB,hf]⟩
end
theorem zsX{P:Program}{G:Env}{M:Mp}{σ:AS}{w:World}(g:GOk P G M σ.F w)(hG:∀k,StillI (G.g k))(hy:∀l,¬G.has l):GOk P G (zkU M) AS.bare.F w where
 vars k:=(g.vars k).stillI (fun _ _ h=>zkV h) (hG k)
 yields l hl:=absurd hl (hy l)
 fixed B cs hB:=by
  obtain⟨h1,h2⟩:=g.fixed B cs hB
  exact⟨zkV h1,h2⟩
theorem znt{P:Program}{G:Env}{f:FuncId}{σ:AS}{R:Out→AS→Prop}{vs:List AV}{Q:List AV→Prop}(hG:∀k,StillI (G.g k))(hy:∀l,¬G.has l)(hv:∀v∈vs,Pln v)(h:ACalls P G f vs AS.bare fun o σ'=>∃xs,o=.ret (.tuple xs)∧(∀v∈xs,Cb σ'.F v)∧Q xs)(hR:∀xs,Q xs→R (.ret (.tuple (xs.map clm))) σ):ACalls P G f vs σ R:=by
 intro M w cargs S g c
 refine(h (zkU M) w cargs S.rid (zsX g hG hy) ⟨c.1,fun j v hj=>?_⟩).mono fun e w' ⟨o,σ',M',⟨xs,ho,hx,hq⟩,h2,h3,h4⟩=>?_
 ·obtain⟨c0,e0,q0⟩:=c.2 j v hj
  exact⟨c0,e0,q0.pln (hv v (ycd hj))⟩
 ·subst ho
  refine⟨_,σ,zfV M M' w.heap.size,hR xs hq,?_,zpR S h4 h3,zkX S h4⟩
  cases e<;>simp only[zbt]at h2 ⊢
  generalize hq:AV.tuple xs=t at h2
  cases h2 with
  | tuple ws A hA va =>
   cases hq
   refine .tuple _ _ (by simpa using hA) fun j h h'=>?_
   rw[List.getElem_map]
   exact zsW S h4 (va j (by simpa using h) h') (hx _ (yaw _))
  | _=>cases hq
theorem zpS{n:Int}(h:n<0):Lib.itoa n=45::Lib.itoa (-n):=by
 unfold Lib.itoa
 rw[if_pos h,if_neg (by omega)]
 congr 2
 omega
theorem zgU{n:Int}(h0:0≤n)(h:n<10):Lib.itoa n=[UInt8.ofNat (48+n.toNat)]:=by
 unfold Lib.itoa
 rw[if_neg (by omega),Lib.decDigits,dif_pos (by omega)]
theorem znu{n:Int}(h:10≤n):Lib.itoa n=Lib.itoa (n/10)++Lib.itoa (n%10):=by
 rw[zgU (n:=n%10) (by omega) (by omega)]
 unfold Lib.itoa
 rw[if_neg (by omega),if_neg (by omega),Lib.decDigits,dif_neg (by omega)]
 have e1:(n/10).toNat=n.toNat/10:=by omega
 have e2:(n%10).toNat=n.toNat%10:=by omega
 rw[e1,e2]
theorem zlK:Lib.itoa (-(2^63))=[45,57,50,50,51,51,55,50,48,51,54,56,53,52,55,55,53,56,48,56]:=by decide +kernel
section
variable {G : Env} {σ : AS} {R : Out → AS → Prop}
theorem zdI:∀(k:Nat) {n:Int} {σ:AS} {R:Out→AS→Prop},0≤n→n<2^63→n.toNat<k→R (.ret (.str (Lib.itoa n))) σ→zzQ G 83 [.int .i64 n] σ R
 | 0,_,_,_,_,_,h,_=>by omega
 | k+1,n,σ,R,h0,h1,hk,h=>by
  refine zmI rfl ?_
  have hm:¬n=-9223372036854775808:=by omega
  have hn:¬n<0:=by omega
  by_cases h10:n<10
  ·have w1:yb3 .i64 (48+n)=48+n:=by rw[wrap_i64]<;>omega
   have e:=zgU h0 h10
   have hB:[ycc .u8 (yb3 .u8 (48+n))]=B (Lib.itoa n):=by
    rw[e]
    have w8:yb3 .u8 (48+n)=((UInt8.ofNat (48+n.toNat)).toNat:Int):=by
     simp[yb3,yao,yap]
     omega
    rw[w8]
    rfl
   simp[zu7,hm,hn,h10,w1]
   rw[zlo hB]
   simp
   exact h
  ·have e:=znu (n:=n) (by omega)
   have t1:n.tdiv 10=n/10:=Int.tdiv_eq_ediv_of_nonneg h0
   have t2:n.tmod 10=n%10:=Int.tmod_eq_emod_of_nonneg h0
   have w1:yb3 .i64 (n/10)=n/10:=by rw[wrap_i64]<;>omega
   have w2:yb3 .i64 (n%10)=n%10:=by rw[wrap_i64]<;>omega
   have i1:=Lib.itoa_length_le (n/10) (by omega) (by omega)
   have i2:=Lib.itoa_length_le (n%10) (by omega) (by omega)
   simp[zu7,hm,hn,h10,t1,w1]
   refine zdI k (by omega) (by omega) (by omega) ?_
   simp[t2,w2]
   refine zdI k (by omega) (by omega) (by omega) ?_
   simp
   rw[←e]
   exact⟨by omega,h⟩
theorem zkY{n:Int}(h0:-(2^63)≤n)(h1:n<2^63)(h:R (.ret (.str (Lib.itoa n))) σ):zzQ G 83 [.int .i64 n] σ R:=by
 by_cases hn:n<0
 ·refine zmI rfl ?_
  by_cases hm:n=-9223372036854775808
  ·have e:Lib.itoa n=[45,57,50,50,51,51,55,50,48,51,54,56,53,52,55,55,53,56,48,56]:=by rw[hm];exact zlK
   rw[e]at h
   simp[zu7,hm]
   exact h
  ·have w1:yb3 .i64 (-n)=-n:=by rw[wrap_i64]<;>omega
   have e:=zpS hn
   have i1:=Lib.itoa_length_le (-n) (by omega) (by omega)
   simp[zu7,hm,hn,w1]
   refine zdI ((-n).toNat+1) (by omega) (by omega) (by omega) ?_
   simp
   rw[←e]
   exact⟨by omega,h⟩
 ·exact zdI (n.toNat+1) (by omega) h1 (by omega) h
theorem zq5{t:Int}(h:R (.ret (.str (zw (if t=2 then 2 else 1)))) σ):zzQ G 85 [.int .i64 t] σ R:=by
 refine zsk rfl ?_
 by_cases h2:t=2
 ·simp[h2]at h
  simp[zAP,h2]
  exact h
 ·simp[h2]at h
  simp[zAP,h2]
  exact h
end
theorem zbJ(c:UInt8)(n:Nat)(hn:n<256):c=UInt8.ofNat n↔(c.toNat:Int)=(n:Int):=by
 constructor
 ·intro e;subst e;simp;omega
 ·intro e;apply UInt8.toNat_inj.1;simp;omega
section
variable {G : Env} {σ : AS} {R : Out → AS → Prop}
theorem znv{c:UInt8}(h:R (.ret (.bool (zaW c))) σ):zzQ G 135 [.int .u8 (c.toNat:Int)] σ R:=by
 refine zoS rfl ?_
 have e1:=zbJ c 32 (by omega)
 have e2:=zbJ c 10 (by omega)
 have e3:=zbJ c 40 (by omega)
 have e4:=zbJ c 41 (by omega)
 have e5:=zbJ c 34 (by omega)
 have hs:zaW c=(decide ((c.toNat:Int)=32)||(decide ((c.toNat:Int)=10)||(decide ((c.toNat:Int)=40)||(decide ((c.toNat:Int)=41)||decide ((c.toNat:Int)=34))))):=by
  unfold zaW
  have q:∀n:UInt8,(c==n)=decide (c=n):=fun n=>by by_cases h:c=n<;>simp[h]
  have f1:decide (c=32)=decide ((c.toNat:Int)=32):=decide_eq_decide.2 e1
  have f2:decide (c=10)=decide ((c.toNat:Int)=10):=decide_eq_decide.2 e2
  have f3:decide (c=40)=decide ((c.toNat:Int)=40):=decide_eq_decide.2 e3
  have f4:decide (c=41)=decide ((c.toNat:Int)=41):=decide_eq_decide.2 e4
  have f5:decide (c=34)=decide ((c.toNat:Int)=34):=decide_eq_decide.2 e5
  rw[ycZ,ycZ,ycZ,ycZ,ycZ,yc0,Bool.or_false,q,q,q,q,q,f1,f2,f3,f4,f5]
 rw[hs]at h
 by_cases h1:(c.toNat:Int)=32
 ·simp[h1]at h
  simp[zlp,h1]
  exact h
 ·by_cases h2:(c.toNat:Int)=10
  ·simp[h2]at h
   simp[zlp,h1,h2]
   exact h
  ·by_cases h3:(c.toNat:Int)=40
   ·simp[h3]at h
    simp[zlp,h1,h2,h3]
    exact h
   ·by_cases h4:(c.toNat:Int)=41
    ·simp[h4]at h
     simp[zlp,h1,h2,h3,h4]
     exact h
    ·simp[h1,h2,h3,h4]at h
     simp[zlp,h1,h2,h3,h4]
     exact h
def LkA(x:Nat)(b:List UInt8)(at_:Nat)(σ:AS)(a:Nat→AV)(τ:AS):Prop:=∃i:Nat,at_≤i∧i≤b.length∧(b.drop at_).dropWhile zc1=(b.drop i).dropWhile zc1∧(b.drop at_).all zc1=(b.drop i).all zc1∧a 0=.ptr x 0∧a 4=.int .i64 (i:Int)∧τ=σ
def TwI(p:UInt8→Bool)(b:List UInt8)(s j:Nat):Prop:=(b.drop s).takeWhile p=(b.take j).drop s++(b.drop j).takeWhile p∧(b.drop s).dropWhile p=(b.drop j).dropWhile p
theorem TwI.start(p b s):TwI p b s s:=⟨by rw[show(b.take s).drop s=[] from yci (by simp;omega)];rfl,rfl⟩
theorem TwI.next{p b s j}(h:TwI p b s j)(hsj:s≤j)(hj:j<b.length)(hp:p b[j]=true):TwI p b s (j+1):=by
 obtain⟨h1,h2⟩:=h
 have hd:b.drop j=b[j]::b.drop (j+1):=ycT hj
 rw[hd]at h1 h2
 rw[List.takeWhile_cons_of_pos hp]at h1
 rw[yc1 hp]at h2
 refine⟨?_,h2⟩
 rw[h1,yca hj,yc2 (by simp;omega)]
 simp
theorem TwI.stop{p b s j}(h:TwI p b s j)(hj:∀q:j<b.length,p b[j]=false):(b.drop s).takeWhile p=(b.take j).drop s∧(b.drop s).dropWhile p=b.drop j:=by
 obtain⟨h1,h2⟩:=h
 by_cases q:j<b.length
 ·have hd:b.drop j=b[j]::b.drop (j+1):=ycT q
  have:=hj q
  rw[hd,List.takeWhile_cons_of_neg (by rw[this];simp),ycH]at h1
  rw[hd,yc3 (by rw[this];simp),←hd]at h2
  exact⟨h1,h2⟩
 ·have hz:b.drop j=[]:=yci (by omega)
  rw[hz]at h1 h2 ⊢
  rw[List.takeWhile_nil,ycH]at h1
  exact⟨h1,h2⟩
def LkB(p:UInt8→Bool)(x:Nat)(b:List UInt8)(i:Nat)(σ:AS)(a:Nat→AV)(τ:AS):Prop:=∃j:Nat,i+1≤j∧j≤b.length∧TwI p b (i+1) j∧a 0=.ptr x 0∧a 4=.int .i64 (i:Int)∧a 5=.int .i64 (j:Int)∧τ=σ
theorem zpT{x:Nat}{b:List UInt8}{i:Nat}{v e:AV}{lv:AV}(ho:σ.objs x=some [.str b,v,e,lv])(hve:(v.known=true∧v.one=true∧v.cells=[v])∧(e.known=true∧e.one=true∧e.cells=[e]))(hlv:lv.known=true∧lv.one=true∧lv.cells=[lv])(hi:i<b.length)(hl:b.length≤2^14){a:Nat→AV}(a0:a 0=.ptr x 0)(a4:a 4=.int .i64 (i:Int))
  (h1:∀t at',(if b[i]=40∨b[i]=41 then some ([b[i]],b.drop (i+1))else if b[i]=34 then zbv (b.drop (i+1))else some (b[i]::(b.drop (i+1)).takeWhile (fun x=>!zaW x),(b.drop (i+1)).dropWhile fun x=>!zaW x))=some (t,b.drop at')→i≤at'→at'≤b.length→R (.ret (.tuple [.str t,.int .i64 ((at':Nat):Int)])) σ)
  (h2:b[i]=34→zbv (b.drop (i+1))=none→R (.ret (.tuple [.str [],.int .i64 (i:Int)])) σ) (hns:zc1 b[i]=false):avc yb5 G 150 zfw (zcJ yb5 [.tmp 2,.tmp 3] R) a σ:=by
 have hlti:(i:Int)<(b.length:Int):=by omega
 have hd:b.drop i=b[i]::b.drop (i+1):=ycT hi
 have e34:=zbJ b[i] 34 (by omega)
 have w1:yb3 .i64 ((i:Int)+1)=((i+1:Nat):Int):=by rw[wrap_i64]<;>omega
 have hni:¬i=b.length:=by omega
 have hnii:¬(i:Int)=(b.length:Int):=by omega
 by_cases c34:(b[i].toNat:Int)=34
 ·have c34':b[i]=34:=e34.2 c34
  simp[zfw,a0,a4,ho,hlv,hve,hi,hlti,hni,hnii,c34,w1]
  refine zK (LkB (fun c=>!zkE c) x b i σ) (MU 5 (b.length+1)) ⟨i+1,yah _,hi,TwI.start ..,by simp[a0],by simp[a4],by simp,rfl⟩ fun a τ hI=>?_
  obtain⟨j,hj1,hj2,hT,a0,a4,a5,rfl⟩:=hI
  have w2:yb3 .i64 ((j:Int)+1)=((j+1:Nat):Int):=by rw[wrap_i64]<;>omega
  by_cases hlt:j<b.length
  ·have hltj:(j:Int)<(b.length:Int):=by omega
   have hnj:¬(j:Int)=(b.length:Int):=by omega
   have e1:=zbJ b[j] 34 (by omega)
   have e2:=zbJ b[j] 10 (by omega)
   have hen:zkE b[j]=(decide ((b[j].toNat:Int)=34)||decide ((b[j].toNat:Int)=10)):=by
    have q:∀n:UInt8,(b[j]==n)=decide (b[j]=n):=fun n=>by by_cases h:b[j]=n<;>simp[h]
    have f1:decide (b[j]=34)=decide ((b[j].toNat:Int)=34):=decide_eq_decide.2 e1
    have f2:decide (b[j]=10)=decide ((b[j].toNat:Int)=10):=decide_eq_decide.2 e2
    unfold zkE
    rw[ycZ,ycZ,yc0,Bool.or_false,q,q,f1,f2]
   by_cases d1:(b[j].toNat:Int)=34
   ·obtain⟨t1,t2⟩:=hT.stop (fun _=>by rw[hen];simp[d1])
    have hq:zbv (b.drop (i+1))=some (34::((b.take j).drop (i+1)++[34]),b.drop (j+1)):=by
     unfold zbv
     rw[t2,ycT hlt,t1]
     simp[e1.2 d1]
    simp[zfu,zfv,a0,a4,a5,ho,hlv,hve,hi,hlti,hlt,hltj,hnj,d1,w2]
    have:=h1 (34::((b.take j).drop (i+1)++[34])) (j+1) (by rw[if_neg (by rw[c34'];decide),if_pos c34',hq]) (by omega) hlt
    have e:(b.take (j+1)).drop i=34::((b.take j).drop (i+1)++[34]):=by
     rw[yca hlt,yc2 (by simp;omega),ycT (by simp;omega)]
     simp[c34',e1.2 d1]
    refine⟨by omega,by omega,?_⟩
    rw[e]
    simpa using this
   ·by_cases d2:(b[j].toNat:Int)=10
    ·obtain⟨t1,t2⟩:=hT.stop (fun _=>by rw[hen];simp[d2])
     have hq:zbv (b.drop (i+1))=none:=by
      unfold zbv
      rw[t2,ycT hlt]
      simp only
      rw[if_neg (fun q:b[j]=34=>d1 (e1.1 q))]
     simp[zfu,zfv,a0,a4,a5,ho,hlv,hve,hi,hlti,hlt,hltj,hnj,d1,d2,w2]
     exact h2 c34' hq
    ·simp[zfu,zfv,a0,a4,a5,ho,hlv,hve,hi,hlti,hlt,hltj,hnj,d1,d2,w2]
     refine⟨⟨j+1,by omega,hlt,hT.next hj1 hlt (by rw[hen];simp[d1,d2]),by simp[a0],by simp[a4],by simp,rfl⟩,?_⟩
     simp[MU,a5];omega
  ·have ej:j=b.length:=by omega
   obtain⟨t1,t2⟩:=hT.stop (fun q=>absurd q hlt)
   have hq:zbv (b.drop (i+1))=none:=by
    unfold zbv
    rw[t2,yci (by omega)]
   subst ej
   simp[zfu,zfv,a0,a4,a5,ho,hlv,hve,hi,hlti,w2]
   exact h2 c34' hq
 ·have c34':¬b[i]=34:=fun q=>c34 (e34.1 q)
  rw[if_neg c34']at h1
  simp[zfw,zmE,a0,a4,ho,hlv,hve,hi,hlti,hni,hnii,c34,w1]
  refine znv ?_
  by_cases hst:zaW b[i]=true
  ·have h40:b[i]=40∨b[i]=41:=by
    simp[zaW,zc1,c34']at hst hns
    rcases hst with q|q|q|q
    ·exact absurd q hns.1
    ·exact absurd q hns.2
    ·exact .inl q
    ·exact .inr q
   rw[if_pos h40]at h1
   simp[hst,a0,a4,ho,hlv,hve,hi,hlti,hni,hnii,c34,w1]
   have:=h1 [b[i]] (i+1) rfl (by omega) hi
   have e:(b.take (i+1)).drop i=[b[i]]:=by
    rw[yca hi,yc2 (by simp;omega),yci (by simp;omega)]
    rfl
   refine⟨by omega,by omega,?_⟩
   rw[e]
   simpa using this
  ·have hst':zaW b[i]=false:=by simpa using hst
   have h40:¬(b[i]=40∨b[i]=41):=fun q=>hst (by rcases q with q|q<;>rw[q]<;>decide)
   rw[if_neg h40]at h1
   simp[hst',a0,a4,ho,hlv,hve,hi,hlti,hni,hnii,c34,w1]
   refine zK (LkB (fun c=>!zaW c) x b i σ) (MU 5 (b.length+1)) ⟨i+1,yah _,hi,TwI.start ..,by simp[a0],by simp[a4],by simp,rfl⟩ fun a τ hI=>?_
   obtain⟨j,hj1,hj2,hT,a0,a4,a5,rfl⟩:=hI
   have w2:yb3 .i64 ((j:Int)+1)=((j+1:Nat):Int):=by rw[wrap_i64]<;>omega
   have fin:(∀q:j<b.length,(!zaW b[j])=false)→R (.ret (.tuple [.str ((b.take j).drop i),.int .i64 (j:Int)])) τ:=fun q=>by
    obtain⟨t1,t2⟩:=hT.stop q
    have:=h1 (b[i]::(b.take j).drop (i+1)) j (by rw[t1,t2]) (by omega) hj2
    have e:(b.take j).drop i=b[i]::(b.take j).drop (i+1):=by
     rw[ycT (by simp;omega)]
     simp
    rw[e]
    exact this
   by_cases hlt:j<b.length
   ·have hltj:(j:Int)<(b.length:Int):=by omega
    have hnj:¬(j:Int)=(b.length:Int):=by omega
    simp[zjL,zho,a0,a4,a5,ho,hlv,hve,hi,hlti,hlt,hltj,hnj,w2]
    refine znv ?_
    by_cases hs2:zaW b[j]=true
    ·have:=fin (fun _=>by rw[hs2];rfl)
     simp[hs2,zho,a0,a4,a5,ho,hlv,hve,hi,hlti,hlt,hltj,hnj,w2]
     exact⟨by omega,hj2,this⟩
    ·have hs3:zaW b[j]=false:=by simpa using hs2
     simp[hs3,a0,a4,a5,ho,hlv,hve,hi,hlti,hlt,hltj,hnj,w2]
     refine⟨⟨j+1,by omega,hlt,hT.next hj1 hlt (by rw[hs3];rfl),by simp[a0],by simp[a4],by simp,rfl⟩,?_⟩
     simp[MU,a5];omega
   ·have ej:j=b.length:=by omega
    have:=fin (fun q=>absurd q hlt)
    subst ej
    simp[zjL,zho,a0,a4,a5,ho,hlv,hve,hi,hlti,w2]
    rw[ycu (yah _)]at this
    exact⟨by omega,this⟩
theorem znw{x:Nat}{b:List UInt8}{at_:Nat}{e:Int}{lv:AV}(ho:σ.objs x=some [.str b,.int .i64 (at_:Int),.int .i64 e,lv])(hlv:lv.known=true∧lv.one=true∧lv.cells=[lv])(hle:at_≤b.length)(hl:b.length≤2^14)
  (h1:∀t at',zcV (b.drop at_)=some (t,b.drop at')→at_≤at'→at'≤b.length→R (.ret (.tuple [.str t,.int .i64 ((at':Nat):Int)])) σ) (h2:zcV (b.drop at_)=none→∀n:Nat,n≤b.length→(n<b.length↔(b.drop at_).all zc1=false)→R (.ret (.tuple [.str [],.int .i64 (n:Int)])) σ):zzQ G 68 [.ptr x 0] σ R:=by
 refine zr9 rfl ?_
 simp[zBO,ho,hlv]
 refine zK (LkA x b at_ σ) (MU 4 (b.length+1)) ⟨at_,yah _,hle,rfl,rfl,by simp,by simp,rfl⟩ fun a τ hI=>?_
 obtain⟨i,hi1,hi2,hdw,hall,a0,a4,rfl⟩:=hI
 by_cases hlt:i<b.length
 ·have hd:b.drop i=b[i]::b.drop (i+1):=ycT hlt
  have hlti:(i:Int)<(b.length:Int):=by omega
  have e1:=zbJ b[i] 32 (by omega)
  have e2:=zbJ b[i] 10 (by omega)
  have hsp:zc1 b[i]=(decide ((b[i].toNat:Int)=32)||decide ((b[i].toNat:Int)=10)):=by
   have q:∀n:UInt8,(b[i]==n)=decide (b[i]=n):=fun n=>by by_cases h:b[i]=n<;>simp[h]
   have f1:decide (b[i]=32)=decide ((b[i].toNat:Int)=32):=decide_eq_decide.2 e1
   have f2:decide (b[i]=10)=decide ((b[i].toNat:Int)=10):=decide_eq_decide.2 e2
   unfold zc1
   rw[ycZ,ycZ,yc0,Bool.or_false,q,q,f1,f2]
  have w1:yb3 .i64 ((i:Int)+1)=((i+1:Nat):Int):=by rw[wrap_i64]<;>omega
  have nxt:zc1 b[i]=true→∀a':Nat→AV,a' 0=.ptr x 0→a' 4=.int .i64 ((i+1:Nat):Int)→LkA x b at_ τ a' τ∧MU 4 (b.length+1) a' τ<MU 4 (b.length+1) a τ:=by
   intro hs a' b0 b4
   refine⟨⟨i+1,by omega,hlt,?_,?_,b0,b4,rfl⟩,?_⟩
   ·rw[hdw,hd,yc1 hs]
   ·rw[hall,hd,yb6,hs,Bool.true_and]
   ·simp[MU,a4,b4];omega
  by_cases c1:(b[i].toNat:Int)=32
  ·simp[zft,a0,a4,ho,hlv,hlt,hlti,c1,w1]
   exact nxt (by rw[hsp];simp[c1]) _ (by simp[a0]) (by simp)
  ·by_cases c2:(b[i].toNat:Int)=10
   ·simp[zft,a0,a4,ho,hlv,hlt,hlti,c1,c2,w1]
    exact nxt (by rw[hsp];simp[c2]) _ (by simp[a0]) (by simp)
   ·have hs:zc1 b[i]=false:=by rw[hsp];simp[c1,c2]
    have hcut:zcV (b.drop at_)=if b[i]=40∨b[i]=41 then some ([b[i]],b.drop (i+1))else if b[i]=34 then zbv (b.drop (i+1))else some (b[i]::(b.drop (i+1)).takeWhile (fun x=>!zaW x),(b.drop (i+1)).dropWhile fun x=>!zaW x):=by
     unfold zcV
     rw[hdw,hd,yc3 (by rw[hs];simp)]
    have hali:(b.drop at_).all zc1=false:=by rw[hall,hd,yb6,hs,Bool.false_and]
    simp[zft,a0,a4,ho,hlv,hlt,hlti,c1,c2,w1]
    refine zpT ho ⟨by simp,by simp⟩ hlv hlt hl (by simp[a0]) (by simp[a4]) (fun t at' q q1 q2=>h1 t at' (hcut.trans q) (by omega) q2) (fun q1 q2=>h2 ?_ i hi2 ?_) hs
    ·rw[hcut,if_neg (by rw[q1];decide),if_pos q1,q2]
    ·rw[hali];simp[hlt]
 ·have ei:i=b.length:=by omega
  subst ei
  simp[zft,zfw,a0,a4,ho,hlv]
  refine h2 ?_ _ (yah _) ?_
  ·unfold zcV
   rw[hdw]
   simp
  ·rw[hall];simp
end
def zaj(σ:AS)(x f:Nat):Prop:=∃cs v,σ.objs x=some cs∧cs[3]?=some v∧zgj v=some f
structure zae(x:Nat)(σ σ':AS):Prop where
 no:σ.no≤σ'.no
 nf:σ.nf≤σ'.nf
 obj:∀o,o<σ.no→o≠x→σ'.objs o=σ.objs o
 fam:∀f,f<σ.nf→¬zaj σ x f→σ'.F f=σ.F f
 use:∀f,f<σ.nf→zaj σ' x f→zaj σ x f
theorem zae.refl(x σ):zae x σ σ:=⟨yah _,yah _,fun _ _ _=>rfl,fun _ _ _=>rfl,fun _ _ h=>h⟩
theorem zae.trans{x σ σ1 σ2}(h:zae x σ σ1)(h':zae x σ1 σ2):zae x σ σ2 where
 no:=yai h.no h'.no
 nf:=yai h.nf h'.nf
 obj o a b:=by rw[h'.obj o (yag a h.no) b,h.obj o a b]
 fam f a b:=by rw[h'.fam f (yag a h.nf) fun u=>b (h.use f a u),h.fam f a b]
 use f a u:=h.use f a (h'.use f (yag a h.nf) u)
theorem zf.keepQ{x σ σ'}(h:zf σ σ')(hx:x<σ.no):zae x σ σ' where
 no:=h.no
 nf:=h.nf
 obj o a _:=h.obj o a
 fam f a _:=h.fam f a
 use f _ u:=by unfold zaj at *;rwa [h.obj x hx]at u
structure zE(x:Nat)(σ σ':AS):Prop where
 no:σ.no≤σ'.no
 nf:σ.nf≤σ'.nf
 obj:∀o,o<σ.no→o≠x→σ'.objs o=σ.objs o
 fam:∀f,f<σ.nf→σ'.F f=σ.F f
 lst:∀cs,σ.objs x=some cs→∃cs',σ'.objs x=some cs'∧cs'[3]?=cs[3]?
 some:(σ.objs x).isSome=true
theorem zE.refl{x σ cs}(h:σ.objs x=yaR cs):zE x σ σ:=⟨yah _,yah _,fun _ _ _=>rfl,fun _ _=>rfl,fun cs h=>⟨cs,h,rfl⟩,by rw[h];rfl⟩
theorem zE.trans{x σ σ1 σ2}(h:zE x σ σ1)(h':zE x σ1 σ2):zE x σ σ2 where
 no:=yai h.no h'.no
 nf:=yai h.nf h'.nf
 obj o a b:=by rw[h'.obj o (yag a h.no) b,h.obj o a b]
 fam f a:=by rw[h'.fam f (yag a h.nf),h.fam f a]
 lst cs e:=by
  obtain⟨c1,e1,e2⟩:=h.lst cs e
  obtain⟨c2,e3,e4⟩:=h'.lst c1 e1
  exact⟨c2,e3,e4.trans e2⟩
 some:=h.some
theorem zE.r{x σ σ'}(h:zE x σ σ'):zae x σ σ' where
 no:=h.no
 nf:=h.nf
 obj:=h.obj
 fam f a _:=h.fam f a
 use f a u:=by
  obtain⟨cs,v,h1,h2,h3⟩:=u
  obtain⟨c0,hc0⟩:=Option.isSome_iff_exists.1 h.some
  obtain⟨c1,e1,e2⟩:=h.lst c0 hc0
  rw[h1]at e1
  cases e1
  exact⟨c0,v,hc0,by rw[←e2];exact h2,h3⟩
theorem zf.keepP{x σ σ' cs}(h:zf σ σ')(hx:x<σ.no)(ho:σ.objs x=yaR cs):zE x σ σ' where
 no:=h.no
 nf:=h.nf
 obj o a _:=h.obj o a
 fam f a:=h.fam f a
 lst cs e:=⟨cs,(h.obj x hx).trans e,rfl⟩
 some:=by rw[ho];rfl
theorem zE.set{x σ cs cs'}(ho:σ.objs x=yaR cs)(h:cs'[3]?=cs[3]?):zE x σ (σ.setO x cs') where
 no:=yah _
 nf:=yah _
 obj o _ ho:=by simp[ho]
 fam f _:=rfl
 lst c e:=⟨cs',by simp,by rw[h];rw[ho]at e;cases e;rfl⟩
 some:=by rw[ho];rfl
theorem zE.endF{x σ τ}(K:zE x σ τ){g:Nat}(hg:σ.nf≤g):zE x σ (τ.setF g .dead) where
 no:=K.no
 nf:=K.nf
 obj:=K.obj
 fam f a:=by
  have:¬f=g:=by omega
  simp[this]
  exact K.fam f a
 lst:=K.lst
 some:=K.some
theorem zE.newF{x σ τ}(K:zE x σ τ):zE x σ τ.newF where
 no:=K.no
 nf:=ycp K.nf
 obj:=K.obj
 fam f a:=by
  have:=K.nf
  have:¬f=τ.nf:=by omega
  simp[this]
  exact K.fam f a
 lst:=K.lst
 some:=K.some
theorem zE.mrg{x σ τ}(K:zE x σ τ){g:Nat}(hg:σ.nf≤g):zE x σ (τ.mrg g fun _=>false) where
 no:=K.no
 nf:=K.nf
 obj o a b:=by simpa [AS.mrg]using K.obj o a b
 fam f a:=by
  have:¬f=g:=by omega
  simp[AS.mrg,zf2,this]
  exact K.fam f a
 lst cs e:=by
  obtain⟨c1,e1,e2⟩:=K.lst cs e
  exact⟨c1,by simpa [AS.mrg]using e1,e2⟩
 some:=K.some
theorem ToR.keepF{base σ σ' v ls}(h:ToR base σ v ls)(hn:σ.nf≤σ'.nf)(hF:∀f,f<σ.nf→σ'.F f=σ.F f):ToR base σ' v ls:=by
 rcases h with h|⟨g,tos,h1,h2,h3,h4,h5⟩
 ·exact .inl h
 ·exact .inr ⟨g,tos,h1,h2,by omega,(hF g h3).trans h4,h5⟩
theorem zE.other{x σ τ}(K:zE x σ τ){o:Nat}(ho:σ.no≤o)(hne:¬x=o){cs:List AV}:zE x σ (τ.setO o cs) where
 no:=K.no
 nf:=K.nf
 obj p h1 h2:=by
  have:¬p=o:=by omega
  simp[this]
  exact K.obj p h1 h2
 fam:=K.fam
 lst cs' e:=by
  obtain⟨c1,e1,e2⟩:=K.lst cs' e
  exact⟨c1,by simp[hne,e1],e2⟩
 some:=K.some
theorem zae.other{x σ τ}(K:zae x σ τ){o:Nat}(ho:σ.no≤o)(hne:¬x=o){cs:List AV}:zae x σ (τ.setO o cs) where
 no:=K.no
 nf:=K.nf
 obj p h1 h2:=by
  have:¬p=o:=by omega
  simp[this]
  exact K.obj p h1 h2
 fam:=K.fam
 use f a u:=K.use f a (by
  obtain⟨cs',v,h1,h2,h3⟩:=u
  exact⟨cs',v,by simpa [hne]using h1,h2,h3⟩)
structure Rw(base x:Nat)(b:List UInt8)(at_:Nat)(e:Int)(lv:AV)(ls:To)(σ:AS):Prop where
 hx:x<σ.no
 hb:0<base∧base≤σ.nf
 h0:σ.F 0=.alive
 le:at_≤b.length
 hl:b.length≤2^14
 tor:ToR base σ lv ls
 cells:σ.objs x=some [.str b,.int .i64 (at_:Int),.int .i64 e,lv]
theorem Rw.set{base x b at_ e lv ls σ at' e'}(h:Rw base x b at_ e lv ls σ)(ha:at'≤b.length):Rw base x b at' e' lv ls (σ.setO x [.str b,.int .i64 (at':Int),.int .i64 e',lv]) :=
 ⟨h.hx,h.hb,h.h0,ha,h.hl,h.tor.keepF (yah _) fun _ _=>rfl,by simp⟩
theorem Rw.adds{base x b at_ e lv ls σ σ'}(h:Rw base x b at_ e lv ls σ)(A:zf σ σ'):Rw base x b at_ e lv ls σ':=by
 have hb:=h.hb
 have hn:=A.nf
 exact⟨yag h.hx A.no,⟨hb.1,by omega⟩,(A.fam 0 (by omega)).trans h.h0,h.le,h.hl,h.tor.keepF A.nf fun f hf=>A.fam f hf,(A.obj x h.hx).trans h.cells⟩
theorem Rw.other{base x b at_ e lv ls σ o cs}(h:Rw base x b at_ e lv ls σ)(hne:¬x=o):Rw base x b at_ e lv ls (σ.setO o cs) :=
 ⟨h.hx,h.hb,h.h0,h.le,h.hl,h.tor.keepF (yah _) fun _ _=>rfl,by simp[hne,h.cells]⟩
def RwS(base x:Nat)(b:List UInt8)(so:Res Ts)(σ:AS):Prop:=∃(at_:Nat) (e:Int) (lv:AV) (ls:To),Rw base x b at_ e lv ls σ∧match so with
 | .error e'=>e=e'∧e'≠0
 | .ok s=>e=0∧s.b=b.drop at_∧s.ls=ls
def zb4{α:Type}(so:Res Ts)(f:Ts→Res (α × Ts))(a:α)(so':Res Ts):Prop:=so.bind f=so'.map fun s=>(a,s)
def zcc(so:Res Ts):Int:=match so with
 | .error e=>e
 | .ok _=>0
theorem RwS.hx{base x b so σ}(h:RwS base x b so σ):x<σ.no:=by obtain⟨_,_,_,_,h,_⟩:=h;exact h.hx
theorem RwS.base_le{base x b so σ}(h:RwS base x b so σ):base≤σ.nf:=by obtain⟨_,_,_,_,h,_⟩:=h;exact h.hb.2
theorem RwS.base_pos{base x b so σ}(h:RwS base x b so σ):0<base:=by obtain⟨_,_,_,_,h,_⟩:=h;exact h.hb.1
theorem RwS.adds{base x b so σ σ'}(h:RwS base x b so σ)(A:zf σ σ'):RwS base x b so σ':=by
 obtain⟨at_,e,lv,ls,h,hm⟩:=h
 exact⟨at_,e,lv,ls,h.adds A,hm⟩
theorem RwS.other{base x b so σ o cs}(h:RwS base x b so σ)(hne:¬x=o):RwS base x b so (σ.setO o cs):=by
 obtain⟨at_,e,lv,ls,h,hm⟩:=h
 exact⟨at_,e,lv,ls,h.other hne,hm⟩
theorem RwS.opn{base x b so σ}(h:RwS base x b so σ):∃(at_:Nat) (lv:AV) (ls:To),σ.objs x=some [.str b,.int .i64 (at_:Int),.int .i64 (zcc so),lv]∧(lv.known=true∧lv.one=true∧lv.cells=[lv])∧ToR base σ lv ls∧at_≤b.length∧b.length≤2^14∧(∀s,so=.ok s→s.b=b.drop at_∧s.ls=ls)∧Rw base x b at_ (zcc so) lv ls σ:=by
 obtain⟨at_,e,lv,ls,h,hm⟩:=h
 have he:e=zcc so:=by
  cases so with
  | error e'=>exact hm.1
  | ok s=>exact hm.1
 subst he
 refine⟨at_,lv,ls,h.cells,h.tor.one,h.tor,h.le,h.hl,?_,h⟩
 rintro s rfl
 exact hm.2
theorem RwS.ne{base x b e σ}(h:RwS base x b (.error e) σ):e≠0:=by
 obtain⟨_,_,_,_,_,hm⟩:=h
 exact hm.2
theorem RwS.len{base x b s σ}(h:RwS base x b (.ok s) σ):s.b.length≤b.length∧b.length≤2^14:=by
 obtain⟨at_,e,lv,ls,h,hm⟩:=h
 rw[hm.2.1,ycq]
 exact⟨by omega,h.hl⟩
def zbK(c:Int)(so:Res Ts):Res Ts:=match so with
 | .error e=>.error e
 | .ok _=>.error c
section
variable {G : Env} {σ : AS} {R : Out → AS → Prop}
theorem zah{base x b so}{c:Int}(hc:c≠0)(h:RwS base x b so σ)(hs:∀σ',RwS base x b (zbK c so) σ'→zE x σ σ'→R (.ret (.tuple [])) σ'):zzQ G 73 [.ptr x 0,.int .i64 c] σ R:=by
 refine zse rfl ?_
 obtain⟨at_,e,lv,ls,h,hm⟩:=h
 have ho:=h.cells
 have l1:=h.tor.one
 cases so with
 | error e' =>
  obtain⟨rfl,hne⟩:=hm
  simp[zAN,ho,l1,hne]
  exact hs _ ⟨_,_,_,_,h,rfl,hne⟩ (.refl ho)
 | ok s =>
  obtain⟨rfl,m1,m2⟩:=hm
  simp[zAN,ho,l1,splice]
  exact hs _ ⟨_,_,_,_,h.set h.le,rfl,hc⟩ (.set ho rfl)
theorem zkZ{base x b so}(h:RwS base x b so σ)(hs:∀(t:List UInt8) (n:Nat),n≤b.length→(∀s,so=.ok s→(zcV s.b=some (t,b.drop n)∧t≠[])∨(t=[]∧zcV s.b=none∧(n<b.length↔s.b.all zc1=false)))→R (.ret (.tuple [.str t,.int .i64 (n:Int)])) σ):zzQ G 68 [.ptr x 0] σ R:=by
 obtain⟨at_,lv,ls,ho,l1,ht,hle,hl,hm,_⟩:=h.opn
 refine znw ho l1 hle hl (fun t at' q q1 q2=>hs t at' q2 fun s e=>.inl ?_) (fun q n hn q2=>hs [] n hn fun s e=>.inr ?_)
 ·obtain⟨m1,_⟩:=hm s e
  rw[m1]
  exact⟨q,(zau q).2⟩
 ·obtain⟨m1,_⟩:=hm s e
  rw[m1]
  exact⟨rfl,q,q2⟩
theorem zd6{base x b so}(h:RwS base x b so σ)(hs:∀(t:List UInt8) so' σ',zb4 so zY t so'→(∀e,so'=.error e→t=[])→(∀s,so'=.ok s→t≠[])→RwS base x b so' σ'→zE x σ σ'→R (.ret (.str t)) σ'):zzQ G 136 [.ptr x 0] σ R:=by
 refine zoT rfl ?_
 simp[zvk]
 refine zkZ h fun t n hn hc=>?_
 obtain⟨at_,lv,ls,ho,l1,ht,hle,hl,hm,hw⟩:=h.opn
 cases so with
 | error e =>
  have hne:=h.ne
  simp only[zcc]at ho
  by_cases h0:t=[]
  ·simp[h0]
   refine zah (by decide) h fun σ' h' K=>?_
   obtain⟨at2,lv2,ls2,ho2,l2,_⟩:=h'.opn
   simp only[zbK,zcc]at ho2
   simp[ho2,l2,hne]
   exact hs [] (.error e) _ rfl (fun _ _=>rfl) (fun s q=>by cases q) h' K
  ·simp[h0,ho,l1,hne]
   exact hs [] (.error e) _ rfl (fun _ _=>rfl) (fun s q=>by cases q) h (.refl ho)
 | ok s =>
  simp only[zcc]at ho
  rcases hc s rfl with ⟨q1,q2⟩|⟨rfl,q1,q2⟩
  ·simp[q2,ho,l1,splice]
   refine hs t (.ok { s with b:=b.drop n }) _ ?_ (fun e q=>by cases q) (fun _ _=>q2) ⟨n,0,lv,ls,hw.set hn,rfl,rfl,(hm s rfl).2⟩ (.set ho rfl)
   unfold zb4 zY
   simp only[Except.bind,Except.map]
   rw[q1]
  ·simp
   refine zah (by decide) h fun σ' h' K=>?_
   obtain⟨at2,lv2,ls2,ho2,l2,_⟩:=h'.opn
   simp only[zbK,zcc]at ho2
   simp[ho2,l2]
   refine hs [] (.error 2) _ ?_ (fun _ _=>rfl) (fun s q=>by cases q) h' K
   unfold zb4 zY
   simp only[Except.bind,Except.map]
   rw[q1]
end
def LQ(x:Nat)(σ:AS)(v:AV)(ts:List (List UInt8)):Prop:=(∃φ,v=.sl φ 1 (ts.map yce)∧Al.Rd σ φ)∨∃ob,v=.slm ob 0 1 ts.length∧ob<σ.no∧ob≠x∧σ.objs ob=some (ts.map yce)
theorem Rd.keepP{x:Nat}{σ σ':AS}{φ:Go.Abs.Own}(h:Al.Rd σ φ)(K:zE x σ σ'):Al.Rd σ' φ:=by
 cases φ with
 | stat b=>exact trivial
 | fam f b =>
  obtain⟨h1,h2⟩:=h
  exact⟨yag h1 K.nf,(K.fam f h1).trans h2⟩
theorem LQ.keep{x σ σ' v ts}(h:LQ x σ v ts)(K:zE x σ σ'):LQ x σ' v ts:=by
 rcases h with ⟨φ,h,r⟩|⟨ob,h1,h2,h3,h4⟩
 ·exact .inl ⟨φ,h,Rd.keepP r K⟩
 ·exact .inr ⟨ob,h1,yag h2 K.no,h3,(K.obj ob h2 h3).trans h4⟩
theorem LQ.one{x σ v ts}(h:LQ x σ v ts):v.known=true∧v.one=true∧v.cells=[v]:=by
 rcases h with ⟨φ,rfl,_⟩|⟨ob,rfl,_⟩<;>simp
def MwI(base x:Nat)(b:List UInt8)(ts:List (List UInt8))(so0:Res Ts)(σ:AS)(v:AV)(a:Nat→AV)(τ:AS):Prop:=∃(d r:List (List UInt8)) (so:Res Ts),ts=d++r∧so0.bind (zu ts)=so.bind (zu r)∧a 0=.ptr x 0∧a 1=v∧a 4=.int .i64 (d.length:Int)∧RwS base x b so τ∧zE x σ τ∧LQ x τ v ts
section
variable {G : Env} {σ : AS} {R : Out → AS → Prop}
theorem zk0{base x b so v ts}(h:RwS base x b so σ)(hv:LQ x σ v ts)(hl:ts.length<1000)(hne:∀t∈ts,t≠[])(hs:∀σ',RwS base x b (so.bind (zu ts)) σ'→zE x σ σ'→R (.ret (.tuple [])) σ'):zzQ G 69 [.ptr x 0,v] σ R:=by
 refine zsa rfl ?_
 obtain⟨at0,lv0,ls0,ho0,_⟩:=h.opn
 have v1:=hv.one
 simp[zBP,v1]
 refine zK (MwI base x b ts so σ v) (MU 4 (ts.length+1)) ⟨[],ts,so,rfl,rfl,by simp,by simp,by simp,h,.refl ho0,hv⟩ fun a τ hI=>?_
 obtain⟨d,r,so1,hdr,he,a0,a1,a4,hW,hK,hV⟩:=hI
 have fin:∀(t:List UInt8) (r':List (List UInt8)),r=t::r'→∀(so2:Res Ts) (τ2:AS) (a':Nat→AV),so1.bind (zu r)=so2.bind (zu r')→RwS base x b so2 τ2→zE x τ τ2→a' 0=.ptr x 0→a' 1=v→a' 4=.int .i64 ((d.length+1:Nat):Int)→MwI base x b ts so σ v a' τ2∧MU 4 (ts.length+1) a' τ2<MU 4 (ts.length+1) a τ:=by
  intro t r' hr so2 τ2 a' q1 q2 q3 b0 b1 b4
  refine⟨⟨d++[t],r',so2,by rw[hdr,hr];simp,by rw[he,q1],b0,b1,by simpa using b4,q2,hK.trans q3,hV.keep q3⟩,?_⟩
  have:d.length<ts.length:=by rw[hdr,hr];simp
  simp[MU,a4,b4];omega
 cases r with
 | nil =>
  have e:ts.length=d.length:=by simp[hdr]
  have hso:so.bind (zu ts)=so1:=by rw[he];cases so1<;>rfl
  rw[hso]at hs
  rcases hV with ⟨φ,rfl,hr⟩|⟨ob,rfl,_⟩
  ·simp[zfx,a0,a1,a4,e]
   exact hs _ hW hK
  ·simp[zfx,a0,a1,a4,e]
   exact hs _ hW hK
 | cons t r =>
  have hlt:(d.length:Int)<(ts.length:Int):=by simp[hdr];omega
  have hltn:d.length<ts.length:=by simp[hdr]
  have hi:ts[d.length]?=some t:=by simp[hdr]
  have hti:ts[d.length]=t:=(yaq.1 hi).2
  have w1:yb3 .i64 ((d.length:Int)+1)=((d.length+1:Nat):Int):=by rw[wrap_i64]<;>omega
  have htn:t≠[]:=hne t (by rw[hdr];simp)
  have step:∀(t':List UInt8) (so2:Res Ts),zb4 so1 zY t' so2→so1.bind (zu (t::r))=so2.bind fun s=>if t'=t then zu r s else .error 2:=fun t' so2 g=>by
   have:so1.bind (zu (t::r))=(so1.bind zY).bind fun p=>if p.1=t then zu r p.2 else .error 2:=by cases so1<;>rfl
   rw[this,show so1.bind zY=_ from g]
   cases so2<;>rfl
  rcases hV with ⟨φ,rfl,hr⟩|⟨ob,rfl,g1,g2,g3⟩
  ·have hr1:=hr.read
   simp[zfx,a0,a1,a4,hlt,hltn,hti,hi,hr1]
   refine zd6 hW fun t' so2 τ2 g e1 e2 hW2 hK2=>?_
   have hst:=step t' so2 g
   have hr2:=(Rd.keepP hr hK2).read
   by_cases ht:t'=t
   ·simp[ht,a0,a1,a4,hlt,hltn,hti,hi,hr2,w1]
    refine fin t r rfl so2 τ2 _ ?_ hW2 hK2 (by simp[a0]) (by simp[a1]) (by simp)
    rw[hst];simp only[if_pos ht]
   ·simp[ht,a0,a1,a4,hlt,hltn,hti,hi,hr2,w1]
    refine zah (by decide) hW2 fun τ3 hW3 hK3=>?_
    simp[a0,a1,a4,w1]
    refine fin t r rfl (zbK 2 so2) τ3 _ ?_ hW3 (hK2.trans hK3) (by simp[a0]) (by simp[a1]) (by simp)
    rw[hst];simp only[if_neg ht]
    cases so2<;>rfl
  ·have g4:=hK.no
   simp[zfx,a0,a1,a4,hlt,hltn,hti,hi,g3]
   refine zd6 hW fun t' so2 τ2 g e1 e2 hW2 hK2=>?_
   have hst:=step t' so2 g
   have g5:=(hK2.obj ob g1 g2).trans g3
   by_cases ht:t'=t
   ·simp[ht,a0,a1,a4,hlt,hltn,hti,hi,g5,w1]
    refine fin t r rfl so2 τ2 _ ?_ hW2 hK2 (by simp[a0]) (by simp[a1]) (by simp)
    rw[hst];simp only[if_pos ht]
   ·simp[ht,a0,a1,a4,hlt,hltn,hti,hi,g5,w1]
    refine zah (by decide) hW2 fun τ3 hW3 hK3=>?_
    simp[a0,a1,a4,w1]
    refine fin t r rfl (zbK 2 so2) τ3 _ ?_ hW3 (hK2.trans hK3) (by simp[a0]) (by simp[a1]) (by simp)
    rw[hst];simp only[if_neg ht]
    cases so2<;>rfl
def NuJ(x:Nat)(t:List UInt8)(d:List UInt8)(τ0:AS)(a:Nat→AV)(τ:AS):Prop:=∃i:Nat,i≤d.length∧(d.take i).all zH=true∧a 0=.ptr x 0∧a 3=.str t∧a 4=.str d∧a 5=.int .i64 (yb3 .i64 (-(zcU 0 (d.take i):Int)))∧a 6=.int .i64 (i:Int)∧τ=τ0
theorem zpU(A c:Int):yb3 .i64 (yb3 .i64 (10*yb3 .i64 (-A))-c)=yb3 .i64 (-(A*10+c)):=by
 simp[yb3,yao,yap]
 omega
theorem zja(A:Int):yb3 .i64 (-yb3 .i64 A)=yb3 .i64 (-A):=by
 simp[yb3,yao,yap]
 omega
theorem znx{t:List UInt8}(h1:zX t≠[])(h2:(zX t).all zH=true):zgh t=if Lib.itoa (yb3 .i64 (zdl t))=t then .ok (yb3 .i64 (zdl t))else .error 11:=by
 have hv:zgh t=match Lib.atoiAll t with
   | .ok n=>if Lib.itoa n=t then .ok n else .error 11
   | _=>.error 11:=by
  unfold zgh
  rw[if_neg (by simp[h1,h2])]
  try rfl
 rw[hv,zhH h1 h2]
 by_cases o:-(2^63)≤zdl t∧zdl t<2^63
 ·have w:yb3 .i64 (zdl t)=zdl t:=by rw[wrap_i64]<;>omega
  rw[if_pos o,w]
 ·rw[if_neg o]
  simp only
  rw[if_neg]
  intro e
  have:=zpl (yb3 .i64 (zdl t))
  rw[e]at this
  have hw:=(zhP (zdl t)).1
  omega
theorem zh2{base x b so}(h:RwS base x b so σ)(hs:∀(n:Int) so' σ',zb4 so zB n so'→-(2^63)≤n→n<2^63→RwS base x b so' σ'→zE x σ σ'→R (.ret (.int .i64 n)) σ'):zzQ G 70 [.ptr x 0] σ R:=by
 refine zsb rfl ?_
 simp[zBQ]
 refine zd6 h fun t so1 σ1 g e1 e2 h1 K1=>?_
 have hnum:so.bind zB=so1.bind fun s=>(zgh t).map fun n=>(n,s):=by
  have:so.bind zB=(so.bind zY).bind fun p=>(zgh p.1).map fun n=>(n,p.2):=by cases so<;>rfl
  rw[this,show so.bind zY=_ from g]
  cases so1<;>rfl
 obtain⟨at_,lv,ls,ho,l1,ht,hle,hl,hm,hw⟩:=h1.opn
 cases so1 with
 | error e =>
  have hne:=h1.ne
  simp only[zcc]at ho
  simp[ho,l1,hne]
  exact hs 0 (.error e) _ (by unfold zb4;rw[hnum];rfl) (by omega) (by omega) h1 K1
 | ok s =>
  have htn:=e2 s rfl
  have hbad:∀c:Int,c≠0→zgh t=.error c→∀σ',RwS base x b (.error c) σ'→zE x σ1 σ'→R (.ret (.int .i64 0)) σ':=fun c hc q σ' hr hk=>hs 0 (.error c) σ' (by unfold zb4;rw[hnum];simp only[Except.bind];rw[q];rfl) (by omega) (by omega) hr (K1.trans hk)
  obtain⟨c,r,rfl⟩:∃c r,t=c::r:=by
   cases t with
   | nil=>exact absurd rfl htn
   | cons c r=>exact⟨c,r,rfl⟩
  simp only[zcc]at ho
  have e45:=zbJ c 45 (by omega)
  have htl:(c::r).length≤2^14:=by
   cases so with
   | error e=>cases g
   | ok s0 =>
    have hlen:=h.len
    have g':zY s0=.ok (c::r,s):=g
    unfold zY at g'
    cases hc:zcV s0.b with
    | none=>rw[hc]at g';cases g'
    | some p =>
     obtain⟨p1,p2⟩:=p
     rw[hc]at g'
     cases g'
     have:=(zau hc).1
     omega
  have hbl:(zX (c::r)).length≤(c::r).length:=by
   unfold zX
   split<;>simp
  -- the loop zBo digits
  have go:∀(d:List UInt8) (a:Nat→AV),d=zX (c::r)→a 0=.ptr x 0→a 3=.str (c::r)→a 4=.str d→a 5=.int .i64 0→a 6=.int .i64 0→zjC yb5 G 67 zcw (zak 0 (zaO (avc yb5 G 67 zfy (zcJ yb5 [.tmp 2] R)) (zcJ yb5 [.tmp 2] R))) a σ1:=by
   intro d a hd a0 a3 a4 a5 a6
   refine zK (NuJ x (c::r) d σ1) (MU 6 (d.length+1)) ⟨0,ycV _,by simp,a0,a3,a4,by rw[a5];rfl,a6,rfl⟩ fun a τ hI=>?_
   obtain⟨i,hi,hall,a0,a3,a4,a5,a6,rfl⟩:=hI
   have hdl:d.length≤2^14:=by rw[hd];omega
   by_cases hlt:i<d.length
   ·have hlti:(i:Int)<(d.length:Int):=by omega
    have w1:yb3 .i64 ((i:Int)+1)=((i+1:Nat):Int):=by rw[wrap_i64]<;>omega
    have hdig:zH d[i]=(decide (48≤d[i].toNat)&&decide (d[i].toNat≤57)):=rfl
    have hno:zH d[i]=false→zgh (c::r)=.error 2:=fun q=>by
     unfold zgh
     rw[if_pos]
     have:(zX (c::r)).all zH=false:=by
      rw[←hd,List.all_eq_false]
      exact⟨d[i],yaw hlt,by rw[q];simp⟩
     simp[this]
    by_cases d1:(d[i].toNat:Int)<48
    ·simp[zcw,a0,a3,a4,a5,a6,hlt,hlti,d1]
     refine zah (by decide) h1 fun σ' h' K'=>?_
     simp
     refine hbad 2 (by decide) (hno ?_) σ' h' K'
     rw[hdig];simp;omega
    ·by_cases d2:(57:Int)<(d[i].toNat:Int)
     ·simp[zcw,a0,a3,a4,a5,a6,hlt,hlti,d1,d2]
      refine zah (by decide) h1 fun σ' h' K'=>?_
      simp
      refine hbad 2 (by decide) (hno ?_) σ' h' K'
      rw[hdig];simp;omega
     ·have w8:yb3 .u8 ((d[i].toNat:Int)-48)=((d[i].toNat-48:Nat):Int):=by
       simp[yb3,yao,yap]
       omega
      have w9:yb3 .i64 ((d[i].toNat-48:Nat):Int)=((d[i].toNat-48:Nat):Int):=by
       have:=d[i].toNat_lt
       rw[wrap_i64]<;>omega
      have hacc:=zpU (zcU 0 (d.take i):Int) ((d[i].toNat-48:Nat):Int)
      have hdec:(zcU 0 (d.take (i+1)):Int)=(zcU 0 (d.take i):Int)*10+((d[i].toNat-48:Nat):Int):=by
       rw[yca hlt,zfB]
       simp[zcU]
      rw[←hdec]at hacc
      simp[zcw,a0,a3,a4,a5,a6,hlt,hlti,d1,d2,w8,w9,hacc,w1]
      refine⟨⟨i+1,hlt,?_,by simp[a0],by simp[a3],by simp[a4],by simp,by simp,rfl⟩,?_⟩
      ·rw[yca hlt,List.all_append,hall]
       simp[hdig];omega
      ·simp[MU,a6];omega
   ·have e:i=d.length:=by omega
    subst e
    rw[ycu (yah _)]at hall a5
    by_cases hd0:d=[]
    ·subst hd0
     simp[zcw,zfy,a0,a3,a4,a5,a6]
     refine zah (by decide) h1 fun σ' h' K'=>?_
     simp
     refine hbad 2 (by decide) ?_ σ' h' K'
     unfold zgh
     rw[if_pos (by simp[←hd])]
    ·have hne:¬d.length=0:=fun q=>hd0 (ybR.1 q)
     have hnei:¬(d.length:Int)=0:=by omega
     have hv:=znx (t:=c::r) (by rw[←hd];exact hd0) (by rw[←hd];exact hall)
     have hw2:=(zhP (zdl (c::r))).1
     have fin:∀σ':AS,σ'=τ→Lib.itoa (yb3 .i64 (zdl (c::r)))=c::r→R (.ret (.int .i64 (yb3 .i64 (zdl (c::r))))) σ':=fun σ' e q=>by
      subst e
      rw[if_pos q]at hv
      exact hs _ (.ok s) _ (by unfold zb4;rw[hnum];simp only[Except.bind];rw[hv];rfl) hw2.1 hw2.2 h1 K1
     have fin2:¬Lib.itoa (yb3 .i64 (zdl (c::r)))=c::r→zgh (c::r)=.error 11:=fun q=>by rw[hv,if_neg q]
     by_cases hsg:d.length<(c::r).length
     ·have hsgi:(d.length:Int)<(r.length:Int)+1:=by simp at hsg;omega
      have hval:zdl (c::r)=-(zcU 0 d:Int):=by
       have:(c::r).head?=some 45:=by
        by_cases q:(c::r).head?=some 45
        ·exact q
        ·rw[hd]at hsg;unfold zX at hsg;rw[if_neg q]at hsg;omega
       unfold zdl
       rw[if_pos this,←hd]
      have e1:yb3 .i64 (-yb3 .i64 (-yb3 .i64 (-(zcU 0 d:Int))))=yb3 .i64 (zdl (c::r)):=by
       rw[hval,zja,Int.neg_neg]
       simp[yb3,yao,yap]
       omega
      simp[zcw,zfy,a0,a3,a4,a5,a6,hne,hnei,hsgi,e1]
      refine zkY hw2.1 hw2.2 ?_
      by_cases q:Lib.itoa (yb3 .i64 (zdl (c::r)))=c::r
      ·simp[a0,a3,a5,q,e1]
       exact fin _ rfl q
      ·simp[a0,a3,a5,q,e1]
       refine zah (by decide) h1 fun σ' h' K'=>?_
       simp
       exact hbad 11 (by decide) (fin2 q) σ' h' K'
     ·have hsgi:¬(d.length:Int)<(r.length:Int)+1:=by simp at hsg;omega
      have hval:zdl (c::r)=(zcU 0 d:Int):=by
       have:¬(c::r).head?=some 45:=fun q=>by
        rw[hd]at hsg;unfold zX at hsg;rw[if_pos q]at hsg;simp at hsg
       unfold zdl
       rw[if_neg this,←hd]
      have e1:yb3 .i64 (-yb3 .i64 (-(zcU 0 d:Int)))=yb3 .i64 (zdl (c::r)):=by
       rw[hval,zja,Int.neg_neg]
      simp[zcw,zfy,a0,a3,a4,a5,a6,hne,hnei,hsgi,e1]
      refine zkY hw2.1 hw2.2 ?_
      by_cases q:Lib.itoa (yb3 .i64 (zdl (c::r)))=c::r
      ·simp[a0,a3,a5,q,e1]
       exact fin _ rfl q
      ·simp[a0,a3,a5,q,e1]
       refine zah (by decide) h1 fun σ' h' K'=>?_
       simp
       exact hbad 11 (by decide) (fin2 q) σ' h' K'
  by_cases hc:(c.toNat:Int)=45
  ·have hb:r=zX (c::r):=by
    unfold zX
    rw[if_pos (by simp[e45.2 hc])]
    rfl
   simp[ho,l1,hc]
   exact⟨by omega,go r _ hb (by simp) (by simp) (by simp) (by simp) (by simp)⟩
  ·have hb:c::r=zX (c::r):=by
    unfold zX
    rw[if_neg]
    simp
    exact fun q=>hc (e45.1 q)
   simp[ho,l1,hc]
   exact go (c::r) _ hb (by simp) (by simp) (by simp) (by simp) (by simp)
theorem RwS.move{base x b s σ n}(h:RwS base x b (.ok s) σ)(hn:n≤b.length):∃lv,(∃at_:Nat,σ.objs x=some [.str b,.int .i64 (at_:Int),.int .i64 0,lv])∧RwS base x b (.ok { s with b:=b.drop n }) (σ.setO x [.str b,.int .i64 (n:Int),.int .i64 0,lv])∧zE x σ (σ.setO x [.str b,.int .i64 (n:Int),.int .i64 0,lv]):=by
 obtain⟨at_,e,lv,ls,h,rfl,m1,m2⟩:=h
 exact⟨lv,⟨at_,h.cells⟩,⟨n,0,lv,ls,h.set hn,rfl,rfl,m2⟩,.set h.cells rfl⟩
theorem zpV{base x b so w}(h:RwS base x b so σ)(hw:w≠[])(hn:(∀s,so=.ok s→zh7 w s=none)→∀σ',RwS base x b so σ'→zE x σ σ'→R (.ret (.bool false)) σ')(hs:∀s s',so=.ok s→zh7 w s=some s'→∀σ',RwS base x b (.ok s') σ'→zE x σ σ'→R (.ret (.bool true)) σ'):zzQ G 71 [.ptr x 0,.str [40],.str w] σ R:=by
 refine zsc rfl ?_
 obtain⟨at_,lv,ls,ho,l1,ht,hle,hl,hm,hq⟩:=h.opn
 simp[zBR,ho,l1]
 refine zkZ h fun t n hn1 hc=>?_
 cases so with
 | error e =>
  have hne:=h.ne
  simp only[zcc]at ho
  simp[ho,l1,hne]
  exact hn (fun s q=>by cases q) _ h (.refl ho)
 | ok s =>
  simp only[zcc]at ho
  obtain⟨m1,m2⟩:=hm s rfl
  by_cases h40:t=[40]
  ·subst h40
   have hc1:zcV s.b=some ([40],b.drop n):=by
    rcases hc s rfl with ⟨q,_⟩|⟨q,_⟩
    ·exact q
    ·cases q
   obtain⟨lv2,⟨at2,ho2⟩,hR1,hK1⟩:=h.move hn1
   rw[ho]at ho2
   simp only[yaR.injEq,yc4.injEq,ycc.injEq,true_and,and_true]at ho2
   obtain⟨_,rfl⟩:=ho2
   have hmw:zh7 w s=(match zcV (b.drop n)with|none=>none|some q=>if q.1=w then some { s with b:=q.2 }else none):=by
    unfold zh7
    rw[hc1]
    rfl
   have ho1:(σ.setO x [.str b,.int .i64 (n:Int),.int .i64 0,lv]).objs x=some [.str b,.int .i64 (n:Int),.int .i64 0,lv]:=by simp
   simp[ho,l1,splice]
   generalize σ.setO x [.str b,.int .i64 (n:Int),.int .i64 0,lv]=σ1 at *
   refine zkZ hR1 fun t2 n2 hn2 hc2=>?_
   have hc3:=hc2 _ rfl
   have back:RwS base x b (.ok s) (σ1.setO x [.str b,.int .i64 (at_:Int),.int .i64 0,lv])∧zE x σ (σ1.setO x [.str b,.int .i64 (at_:Int),.int .i64 0,lv]):=by
    obtain⟨lv3,⟨at3,ho3⟩,hR3,hK3⟩:=hR1.move (n:=at_) hle
    rw[ho1]at ho3
    simp only[yaR.injEq,yc4.injEq,ycc.injEq,true_and,and_true]at ho3
    obtain⟨_,rfl⟩:=ho3
    refine⟨?_,hK1.trans hK3⟩
    have:({ ({ s with b:=b.drop n }:Ts)with b:=b.drop at_ }:Ts)=s:=by
     cases s
     simp only at m1
     simp[m1]
    rw[←this]
    exact hR3
   by_cases ht2:t2=w
   ·have hc4:zcV (b.drop n)=some (w,b.drop n2):=by
     rcases hc3 with ⟨q,_⟩|⟨q,_⟩
     ·rw[←ht2];exact q
     ·exact absurd (ht2.symm.trans q) hw
    obtain⟨lv3,⟨at3,ho3⟩,hR3,hK3⟩:=hR1.move (n:=n2) hn2
    rw[ho1]at ho3
    simp only[yaR.injEq,yc4.injEq,ycc.injEq,true_and,and_true]at ho3
    obtain⟨_,rfl⟩:=ho3
    simp[ht2,ho1,l1,splice]
    refine hs s { s with b:=b.drop n2 } rfl ?_ _ hR3 (hK1.trans hK3)
    rw[hmw,hc4]
    simp
   ·simp[ht2,ho1,l1,splice]
    refine hn (fun s' e=>?_) _ back.1 back.2
    cases e
    rw[hmw]
    rcases hc3 with ⟨q,_⟩|⟨_,q,_⟩
    ·simp only at q
     rw[q]
     simp[ht2]
    ·simp only at q
     rw[q]
  ·simp[ho,l1,h40]
   refine hn (fun s' e=>?_) _ h (.refl ho)
   cases e
   unfold zh7
   rcases hc s rfl with ⟨q,_⟩|⟨_,q,_⟩
   ·rw[q]
    simp only
    rw[if_neg (show ¬t=zL from h40)]
   ·rw[q]
def zt2(c:UInt8)(r:List UInt8)(i:Nat):Bool:=if i=0 then zac c&&r.all (fun x=>zac x||zH x)else((c::r).drop i).all fun x=>zac x||zH x
def TgQ(t:List UInt8)(c:UInt8)(r:List UInt8)(σ:AS)(a:Nat→AV)(τ:AS):Prop:=∃i:Nat,i≤t.length∧zdL 24 t=zt2 c r i∧a 0=.str t∧a 3=.int .i64 (i:Int)∧τ=σ
theorem zwV{t:List UInt8}(h:R (.ret (.bool (zdL 24 t))) σ):zzQ G 137 [.str t] σ R:=by
 refine zoV rfl ?_
 cases t with
 | nil =>
  simp[zoU]
  exact h
 | cons c r =>
  by_cases hl:24<(c::r).length
  ·have hli:(24:Int)<(r.length:Int)+1:=by simp at hl;omega
   have h1:¬(r.length:Int)+1<1:=by omega
   have ht:zdL 24 (c::r)=false:=by unfold zdL;simp;intro q;simp at hl;omega
   rw[ht]at h
   simp[zoU,hli,h1]
   exact h
  ·have hli:¬(24:Int)<(r.length:Int)+1:=by simp at hl;omega
   have h1:¬(r.length:Int)+1<1:=by omega
   have hle:(c::r).length≤24:=by omega
   simp[zoU,hli,h1]
   refine zK (TgQ (c::r) c r σ) (MU 3 25) ⟨0,ycV _,?_,by simp,by simp,rfl⟩ fun a τ hI=>?_
   ·unfold zdL zt2
    simp[decide_eq_true hle]
    simp at hle
    intro _ _
    omega
   obtain⟨i,hi,hg,a0,a3,rfl⟩:=hI
   generalize ht:c::r=t at *
   by_cases hlt:i<t.length
   ·have hlti:(i:Int)<(t.length:Int):=by omega
    have w1:yb3 .i64 ((i:Int)+1)=((i+1:Nat):Int):=by rw[wrap_i64]<;>omega
    have e95:=zbJ t[i] 95 (by omega)
    have hlet:zac t[i]=((decide (97≤(t[i].toNat:Int))&&decide ((t[i].toNat:Int)≤122))||decide ((t[i].toNat:Int)=95)):=by
     have q:(t[i]==95)=decide (t[i]=95):=by by_cases h:t[i]=95<;>simp[h]
     have f1:decide (t[i]=95)=decide ((t[i].toNat:Int)=95):=decide_eq_decide.2 e95
     have f2:decide (97≤t[i].toNat)=decide (97≤(t[i].toNat:Int)):=decide_eq_decide.2 (by omega)
     have f3:decide (t[i].toNat≤122)=decide ((t[i].toNat:Int)≤122):=decide_eq_decide.2 (by omega)
     unfold zac
     rw[q,f1,f2,f3]
    have hdig:zH t[i]=(decide (48≤(t[i].toNat:Int))&&decide ((t[i].toNat:Int)≤57)):=by
     have f2:decide (48≤t[i].toNat)=decide (48≤(t[i].toNat:Int)):=decide_eq_decide.2 (by omega)
     have f3:decide (t[i].toNat≤57)=decide ((t[i].toNat:Int)≤57):=decide_eq_decide.2 (by omega)
     unfold zH
     rw[f2,f3]
    have hok:(zac t[i]||(decide (0<i)&&zH t[i]))=true→zdL 24 t=zt2 c r (i+1):=by
     intro q
     rw[hg]
     unfold zt2
     by_cases h0:i=0
     ·subst h0
      simp at q
      have:t[0]=c:=by simp[←ht]
      rw[this]at q
      simp[q]
     ·have:(c::r).drop i=t[i]::(c::r).drop (i+1):=by rw[ht];exact ycT hlt
      rw[if_neg h0,if_neg (by omega),this,yb6]
      simp[show 0<i by omega]at q
      rcases q with q|q<;>simp[q]
    have hbad:(zac t[i]||(decide (0<i)&&zH t[i]))=false→zdL 24 t=false:=by
     intro q
     rw[hg]
     unfold zt2
     by_cases h0:i=0
     ·subst h0
      simp at q
      have:t[0]=c:=by simp[←ht]
      rw[this]at q
      simp[q]
     ·have:(c::r).drop i=t[i]::(c::r).drop (i+1):=by rw[ht];exact ycT hlt
      rw[if_neg h0,this,yb6]
      simp[show 0<i by omega]at q
      simp[q]
    have go:(zac t[i]||(decide (0<i)&&zH t[i]))=true→∀a':Nat→AV,a' 0=.str t→a' 3=.int .i64 ((i+1:Nat):Int)→TgQ t c r τ a' τ∧MU 3 25 a' τ<MU 3 25 a τ:=by
     intro q a' b0 b3
     refine⟨⟨i+1,hlt,hok q,b0,b3,rfl⟩,?_⟩
     simp[MU,a3,b3];omega
    have no:(zac t[i]||(decide (0<i)&&zH t[i]))=false→R (.ret (.bool false)) τ:=fun q=>by
     rw[←hbad q];exact h
    rw[hlet,hdig]at go no
    have w0:yb3 .i64 1=1:=rfl
    by_cases c1:(97:Int)≤(t[i].toNat:Int)∧(t[i].toNat:Int)≤122
    ·simp[zaY,a0,a3,hlt,hlti,c1.1,c1.2,w1]
     exact go (by simp[c1.1,c1.2]) _ (by simp[a0]) (by simp)
    ·by_cases c2:(t[i].toNat:Int)=95
     ·simp[zaY,a0,a3,hlt,hlti,c2,w1]
      exact go (by simp[c2]) _ (by simp[a0]) (by simp)
     ·have hl0:((decide (97≤(t[i].toNat:Int))&&decide ((t[i].toNat:Int)≤122))||decide ((t[i].toNat:Int)=95))=false:=by
       simp[c2];omega
      rw[hl0]at go no
      have side:(97:Int)≤(t[i].toNat:Int)∧¬(t[i].toNat:Int)≤122∨¬(97:Int)≤(t[i].toNat:Int):=by omega
      by_cases h0:i=0
      ·subst h0
       have:=no (by simp)
       rcases side with ⟨s1,s2⟩|s1
       ·simp[zaY,a0,a3,hlt,hlti,c2,s1,s2,w1]
        exact this
       ·simp[zaY,a0,a3,hlt,hlti,c2,s1,w1]
        exact this
      ·have h0i:¬(i:Int)=0:=by omega
       have h0p:0<i:=by omega
       by_cases d1:(t[i].toNat:Int)<48
       ·have:=no (by simp;omega)
        have s1:¬(97:Int)≤(t[i].toNat:Int):=by omega
        simp[zaY,a0,a3,hlt,hlti,c2,s1,h0,h0i,d1,w1]
        exact this
       ·by_cases d2:(57:Int)<(t[i].toNat:Int)
        ·have:=no (by simp;omega)
         rcases side with ⟨s1,s2⟩|s1
         ·simp[zaY,a0,a3,hlt,hlti,c2,s1,s2,h0,h0i,d1,d2,w1]
          exact this
         ·simp[zaY,a0,a3,hlt,hlti,c2,s1,h0,h0i,d1,d2,w1]
          exact this
        ·have s1:¬(97:Int)≤(t[i].toNat:Int):=by omega
         simp[zaY,a0,a3,hlt,hlti,c2,s1,h0,h0i,d1,d2,w1]
         exact go (by simp;omega) _ (by simp[a0]) (by simp)
   ·have e:i=t.length:=by omega
    have ht2:zdL 24 t=true:=by
     rw[hg]
     unfold zt2
     have:¬i=0:=by rw[e,←ht];simp
     rw[if_neg this,ht,yci (by omega)]
     rfl
    rw[ht2]at h
    subst e
    simp[zaY,zkq,a0,a3]
    exact h
end
def zdk(σ0:AS)(x sz:Nat)(τ:AS)(v:AV)(xs:List AV):Prop:=(xs=[]∧v=.nilsl)∨∃g,v=.sl (.fam g false) sz xs∧σ0.nf≤g∧g<τ.nf∧τ.F g=.alive∧¬zaj τ x g
theorem zdk.one{σ0 x sz τ v xs}(h:zdk σ0 x sz τ v xs):v.known=true∧v.one=true∧v.cells=[v]:=by rcases h with ⟨_,rfl⟩|⟨b,rfl,_⟩<;>simp
theorem zdk.keep{σ0 x sz τ τ' v xs}(h:zdk σ0 x sz τ v xs)(K:zae x τ τ'):zdk σ0 x sz τ' v xs:=by
 rcases h with h|⟨g,h1,h2,h3,h4,h5⟩
 ·exact .inl h
 ·exact .inr ⟨g,h1,h2,yag h3 K.nf,(K.fam g h3 h5).trans h4,fun u=>h5 (K.use g h3 u)⟩
theorem zae.endF{x σ τ}(K:zae x σ τ){g:Nat}(hg:σ.nf≤g):zae x σ (τ.setF g .dead) where
 no:=K.no
 nf:=K.nf
 obj:=K.obj
 fam f a b:=by
  have:¬f=g:=by omega
  simp[this]
  exact K.fam f a b
 use f a u:=K.use f a u
theorem zae.newF{x σ τ}(K:zae x σ τ):zae x σ τ.newF where
 no:=K.no
 nf:=ycp K.nf
 obj:=K.obj
 fam f a b:=by
  have:=K.nf
  have:¬f=τ.nf:=by omega
  simp[this]
  exact K.fam f a b
 use f a u:=K.use f a u
theorem RwS.lt{base x b so σ}(h:RwS base x b so σ){f:Nat}(u:zaj σ x f):f<σ.nf∧base≤f:=by
 obtain⟨cs,v,h1,h2,h3⟩:=u
 obtain⟨at_,e,lv,ls,h,hm⟩:=h
 rw[h.cells]at h1
 cases h1
 simp at h2
 subst h2
 rcases h.tor with ⟨_,rfl⟩|⟨g,tos,rfl,hg,hg2,_⟩
 ·cases h3
 ·simp only[zgj,yaR.injEq]at h3
  omega
theorem RwS.newF{base x b so τ}(h:RwS base x b so τ):RwS base x b so τ.newF:=h.adds (zf.refl τ).newF
theorem RwS.endF{base x b so τ}(h:RwS base x b so τ){g:Nat}(hg:base≤g)(hu:¬zaj τ x g):RwS base x b so (τ.setF g .dead):=by
 obtain⟨at_,e,lv,ls,h,hm⟩:=h
 have ho:=h.cells
 have hb:=h.hb
 refine⟨at_,e,lv,ls,⟨h.hx,hb,?_,h.le,h.hl,?_,ho⟩,hm⟩
 ·have:¬0=g:=by omega
  simp[this,h.h0]
 ·rcases h.tor with h1|⟨f,tos,h1,h2,h3,h4,h5⟩
  ·exact .inl h1
  ·have:¬f=g:=fun e=>hu ⟨_,_,ho,rfl,by rw[h1,←e];rfl⟩
   exact .inr ⟨f,tos,h1,h2,h3,by simp[this,h4],h5⟩
theorem RwS.mrg{base x b so τ}(h:RwS base x b so τ){g:Nat}(hg:base≤g)(hu:¬zaj τ x g):RwS base x b so (τ.mrg g fun _=>false):=by
 obtain⟨at_,e,lv,ls,h,hm⟩:=h
 have ho:=h.cells
 have hb:=h.hb
 refine⟨at_,e,lv,ls,⟨h.hx,hb,?_,h.le,h.hl,?_,by simpa [AS.mrg]using ho⟩,hm⟩
 ·have:¬0=g:=by omega
  simp[AS.mrg,zf2,this,h.h0]
 ·rcases h.tor with h1|⟨f,tos,h1,h2,h3,h4,h5⟩
  ·exact .inl h1
  ·have:¬f=g:=fun e=>hu ⟨_,_,ho,rfl,by rw[h1,←e];rfl⟩
   exact .inr ⟨f,tos,h1,h2,h3,by simp[AS.mrg,zf2,this,h4],h5⟩
theorem zfW{el:Option TypeId}{base x b so}{σ0 τ:AS}{v row:AV}{xs:List AV}{bsz sz:Nat}{K:AV→AS→Prop}(hG:zdk σ0 x sz τ v xs)(hR:RwS base x b so τ)(hK:zae x σ0 τ)(hb:base≤σ0.nf)(hrow:row.cells.length=sz)(hl:(xs.length+1)*bsz≤2^47)
  (h:∀v' τ',zdk σ0 x sz τ' v' (xs++[row])→RwS base x b so τ'→zae x σ0 τ'→τ'.objs=τ.objs→τ'.no=τ.no→(zE x σ0 τ→zE x σ0 τ')→K v' τ'):zcb el bsz sz v [row] τ K:=by
 have hn:=hK.nf
 rcases hG with ⟨rfl,rfl⟩|⟨g,rfl,h2,h3,h4,h5⟩
 ·have hnu:¬zaj τ.newF x τ.nf:=fun u=>by have:=(hR.lt (f:=τ.nf) u).1;omega
  have:=h (.sl (.fam τ.nf false) sz [row]) τ.newF (.inr ⟨τ.nf,rfl,hn,by simp,by simp,hnu⟩) hR.newF hK.newF (by simp) (by simp) (fun q=>q.newF)
  simp at hl
  simp
  first|exact this|exact⟨by omega,this⟩
 ·have hR':=(hR.endF (by omega) h5).newF
  have hK':=(hK.endF h2).newF
  have hnu:¬zaj (τ.setF g .dead).newF x τ.nf:=fun u=>by have:=(hR.lt (f:=τ.nf) u).1;omega
  have:=h (.sl (.fam τ.nf false) sz (xs++[row])) (τ.setF g .dead).newF (.inr ⟨τ.nf,rfl,hn,by simp,by simp,hnu⟩) hR' hK' (by simp) (by simp) (fun q=>(q.endF h2).newF)
  simp[h4]
  exact⟨hl,this⟩
def MBw(x:Nat)(_:Nat→AV)(τ:AS):Nat:=match τ.objs x with
 | some (_::.int _ n::.int _ 0::_)=>2^14+1-n.toNat
 | _=>0
theorem zew{base x b s τ}(h:RwS base x b (.ok s) τ)(a:Nat→AV):MBw x a τ=2^14+1+s.b.length-b.length∧s.b.length≤b.length∧b.length≤2^14:=by
 obtain⟨at_,e,lv,ls,h,rfl,m1,m2⟩:=h
 have h1:=h.le
 have h2:=h.hl
 unfold MBw
 rw[h.cells]
 simp only[ybe]
 have h3:s.b.length=b.length-at_:=by rw[m1,ycq]
 omega
theorem zj0{base x b e τ}(h:RwS base x b (.error e) τ)(a:Nat→AV):MBw x a τ=0:=by
 obtain⟨at_,e',lv,ls,h,rfl,hne⟩:=h
 unfold MBw
 rw[h.cells]
 split
 ·rename_i q
  simp only[yaR.injEq,yc4.injEq,ycc.injEq,true_and]at q
  exact absurd q.2.2.1.2 hne
 ·rfl
theorem zcP{so so':Res Ts}{t:List UInt8}{s s':Ts}(g:zb4 so zY t so')(e:so=.ok s)(e':so'=.ok s'):zY s=.ok (t,s')∧t.length+s'.b.length≤s.b.length∧t≠[]∧s'.ls=s.ls:=by
 subst e e'
 have q:zY s=.ok (t,s'):=g
 exact⟨q,za3 q⟩
def zex(s:Ts):Res (List Int × Ts):=zam (s.b.length+1) [] s
def TqI(base x:Nat)(b:List UInt8)(so0:Res Ts)(σ:AS)(a:Nat→AV)(τ:AS):Prop:=∃(k:Nat) (done:List Int) (so:Res Ts),so0.bind zex=so.bind (fun s=>zam k done s)∧(∀s,so=.ok s→s.b.length<k∧done.length+s.b.length≤2^14)∧done.length≤2^14∧a 0=.ptr x 0∧zdk σ x 1 τ (a 3) (done.map (.int .i64))∧RwS base x b so τ∧zE x σ τ
section
variable {G : Env} {σ : AS} {R : Out → AS → Prop}
theorem zpW{base x b so}(h:RwS base x b so σ)(hs:∀(v:AV) (l:List Int) so' σ',zb4 so zex l so'→l.length≤2^14→zdk σ x 1 σ' v (l.map (.int .i64))→RwS base x b so' σ'→zE x σ σ'→R (.ret v) σ'):zzQ G 138 [.ptr x 0] σ R:=by
 refine zoW rfl ?_
 obtain⟨at0,lv0,ls0,ho0,_,_,_,hl0,hm0,_⟩:=h.opn
 have hbl:=h.base_le
 simp[zvl]
 refine zK (TqI base x b so σ) (MBw x) ⟨(match so with|.ok s=>s.b.length+1|_=>0),[],so,?_,?_,by simp,by simp,.inl ⟨rfl,by simp⟩,h,.refl ho0⟩ fun a τ hI=>?_
 ·cases so with
  | error e=>rfl
  | ok s=>rfl
 ·rintro s rfl
  have:=h.len
  exact⟨by simp,by simp;omega⟩
 obtain⟨k,done,so1,he,hk,hdl,a0,hG,hR,hK⟩:=hI
 obtain⟨at1,lv1,ls1,ho1,l1,_,hle1,hl1,hm1,_⟩:=hR.opn
 cases so1 with
 | error e =>
  have hne:=hR.ne
  simp only[zcc]at ho1
  simp[zhy,zkr,a0,ho1,l1,hne]
  exact hs .nilsl [] (.error e) _ he (by simp) (.inl ⟨rfl,rfl⟩) hR hK
 | ok s =>
  obtain⟨hk1,hk2⟩:=hk s rfl
  obtain⟨k,rfl⟩:∃j,k=j+1:=⟨k-1,by omega⟩
  simp only[zcc]at ho1
  have hmb:=(zew hR a).1
  have hmb2:=(zew hR a).2
  simp[zhy,a0,ho1,l1]
  refine zd6 hR fun t so2 τ2 g e1 e2 hR2 hK2=>?_
  have hst:so.bind zex=so2.bind fun s2=>if t=zst then zam k (done++[1]) s2 else if t=zsu then zam k (done++[2]) s2 else if t=zi∧done≠[]then .ok (done,s2)else .error 2:=by
   rw[he]
   simp only[Except.bind]
   rw[zam,show zY s=_ from g]
   cases so2<;>rfl
  have hG2:=hG.keep hK2.r
  have g2:=hG2.one
  have hK12:=hK.trans hK2
  -- a wrong word
  have wrong:∀τ3,RwS base x b (zbK 2 so2) τ3→zE x τ2 τ3→(∀s2,so2=.ok s2→so.bind zex=.error 2)→∀a':Nat→AV,a' 0=.ptr x 0→a' 3=a 3→TqI base x b so σ a' τ3∧MBw x a' τ3<MBw x a τ:=by
   intro τ3 hR3 hK3 hbad a' b0 b3
   have hf:∃c,zbK 2 so2=.error c:=by cases so2<;>exact⟨_,rfl⟩
   obtain⟨c,hc⟩:=hf
   refine⟨⟨0,done,zbK 2 so2,?_,fun s q=>(by rw[hc]at q;cases q),hdl,b0,by rw[b3];exact hG2.keep hK3.r,hR3,hK12.trans hK3⟩,?_⟩
   ·cases so2 with
    | error e=>rw[hst];rfl
    | ok s2=>rw[hbad s2 rfl];rfl
   ·rw[hc]at hR3
    rw[zj0 hR3,hmb]
    omega
  by_cases h32:t=zst
  ·have h32':t=[105,51,50]:=h32
   simp[h32',g2]
   refine zfW (row:=.int .i64 1) hG2 hR2 hK12.r hbl (by simp) (by simp;omega) fun v' τ' q1 q2 q3 q4 q5 q6=>?_
   obtain⟨s2,rfl⟩:∃s2,so2=.ok s2:=by
    cases so2 with
    | error e=>have:=e1 e rfl;rw[this]at h32;cases h32
    | ok s2=>exact⟨s2,rfl⟩
   obtain⟨n1,n2,n3,n4⟩:=zcP g rfl rfl
   have ht0:1≤t.length:=ybm.2 n3
   simp
   refine⟨⟨k,done++[1],.ok s2,by rw[hst];simp only[if_pos h32],fun s' q=>?_,by simp;omega,by simp[a0],by simpa using q1,q2,q6 hK12⟩,?_⟩
   ·cases q;exact⟨by omega,by simp;omega⟩
   ·rw[(zew q2 _).1,hmb];omega
  ·have h32':¬t=[105,51,50]:=h32
   by_cases h64:t=zsu
   ·have h64':t=[105,54,52]:=h64
    simp[h64',g2]
    refine zfW (row:=.int .i64 2) hG2 hR2 hK12.r hbl (by simp) (by simp;omega) fun v' τ' q1 q2 q3 q4 q5 q6=>?_
    obtain⟨s2,rfl⟩:∃s2,so2=.ok s2:=by
     cases so2 with
     | error e=>have:=e1 e rfl;rw[this]at h64;cases h64
     | ok s2=>exact⟨s2,rfl⟩
    obtain⟨n1,n2,n3,n4⟩:=zcP g rfl rfl
    have ht0:1≤t.length:=ybm.2 n3
    simp
    refine⟨⟨k,done++[2],.ok s2,by rw[hst];simp only[if_neg h32,if_pos h64],fun s' q=>?_,by simp;omega,by simp[a0],by simpa using q1,q2,q6 hK12⟩,?_⟩
    ·cases q;exact⟨by omega,by simp;omega⟩
    ·rw[(zew q2 _).1,hmb];omega
   ·have h64':¬t=[105,54,52]:=h64
    by_cases hsh:t=zi
    ·have hsh':t=[41]:=hsh
     obtain⟨s2,rfl⟩:∃s2,so2=.ok s2:=by
      cases so2 with
      | error e=>have:=e1 e rfl;rw[this]at hsh;cases hsh
      | ok s2=>exact⟨s2,rfl⟩
     by_cases hd:done=[]
     ·subst hd
      have fin:∀τ3,RwS base x b (zbK 2 (.ok s2)) τ3→zE x τ2 τ3→R (.ret (a 3)) τ3:=fun τ3 hR3 hK3=>by
       refine hs (a 3) [] (.error 2) τ3 ?_ (by simp) (hG2.keep hK3.r) hR3 (hK12.trans hK3)
       unfold zb4
       rw[hst]
       simp only[Except.bind,if_neg h32,if_neg h64]
       rw[if_neg (fun q=>q.2 rfl)]
       rfl
      rcases hG2 with ⟨_,e2⟩|⟨g,e2,_⟩
      ·rw[e2]at fin
       simp[hsh',e2,a0]
       refine zah (c:=2) (by decide) hR2 fun τ3 hR3 hK3=>?_
       simp[e2]
       exact fin τ3 hR3 hK3
      ·rw[e2]at fin
       simp[hsh',e2,a0]
       refine zah (c:=2) (by decide) hR2 fun τ3 hR3 hK3=>?_
       simp[e2]
       exact fin τ3 hR3 hK3
     ·have hdn:¬done.length=0:=fun q=>hd (ybR.1 q)
      obtain⟨gf,hv,q1,q2,q3,q4⟩:∃gf,a 3=.sl (.fam gf false) 1 (done.map (.int .i64))∧σ.nf≤gf∧gf<τ2.nf∧τ2.F gf=.alive∧¬zaj τ2 x gf:=by
       rcases hG2 with ⟨e1,_⟩|h
       ·simp at e1;exact absurd e1 hd
       ·exact h
      simp[hsh',hv,hd,hdn]
      refine hs _ done (.ok s2) τ2 ?_ hdl (.inr ⟨gf,rfl,q1,q2,q3,q4⟩) hR2 hK12
      unfold zb4
      rw[hst]
      simp only[Except.bind,if_neg h32,if_neg h64]
      rw[if_pos ⟨hsh,hd⟩]
      rfl
    ·have hsh':¬t=[41]:=hsh
     simp[h32',h64',hsh',a0]
     refine zah (by decide) hR2 fun τ3 hR3 hK3=>?_
     simp
     refine wrong τ3 hR3 hK3 (fun s2 e=>?_) _ (by simp[a0]) (by simp)
     rw[hst,e]
     simp only[Except.bind,if_neg h32,if_neg h64]
     rw[if_neg (fun q=>hsh q.1)]
theorem zj1{base x b so}(h:RwS base x b so σ)(hs:∀(v:AV) (l:List Int) so' σ',zb4 so zex l so'→l.length≤2^14→Al.IntsE v l→RwS base x b so' σ'→zE x σ σ'→R (.ret v) σ'):zzQ G 138 [.ptr x 0] σ R:=by
 refine Al.merging (zpW h fun v l so' σ' hg hlen hG hR hK=>?_)
 have hnb:=h.base_pos
 have hbl:=h.base_le
 rcases hG with ⟨h1,rfl⟩|⟨g,rfl,h2,h3,h4,h5⟩
 ·have hl0:l=[]:=by simpa using h1
  exact .inl (hs _ l so' σ' hg hlen (.inl ⟨hl0,.inl rfl⟩) hR hK)
 ·have:=hs (.sl (.fam 0 false) 1 (l.map (.int .i64))) l so' (σ'.mrg g fun _=>false) hg hlen (.inr ⟨_,rfl⟩) (hR.mrg (by omega) h5) (hK.mrg (by omega))
  refine Al.MrgOr.merged g (fun _=>false) (by omega) h4 ?_
  simpa [Function.comp_def]using this
end
end Go.Proofs.YtohfclafhegadaaGreatDoor

































namespace Go.Proofs.YtohfclafhegadaaGreatDoor
open Go Go.Abs
theorem zjb{l:List W}:∀{ls:To},l∈ls→l.length≤zhQ ls
 | x::ls,h=>by
  simp only[zhQ,yaL,List.sum_cons]
  rcases List.mem_cons.1 h with rfl|h
  ·omega
  ·have:=zjb h
   simp only[zhQ]at this
   omega
section
variable {G : Env} {σ : AS} {R : Out → AS → Prop}
end
def zj2(p:List UInt8 × W):AV:=.agg (.str p.1::p.2.cs)
section
variable {G : Env} {σ : AS} {R : Out → AS → Prop}
theorem zwW(h:R (.ret (.sl (.stat true) 7 (zax.map zj2))) σ):zzQ G 186 [] σ R:=by
 refine zpe rfl ?_
 simp[zvz,splice]
 exact h
def zsY(σ0 τ:AS)(v:AV)(l:List (List UInt8 × W)):Prop:=v=.sl (.stat true) 7 (l.map zj2)∨∃g,v=.sl (.fam g false) 7 (l.map zj2)∧σ0.nf≤g∧g<τ.nf∧τ.F g=.alive
def zlL(t:Int):List (List UInt8 × W):=if t=1 then zdZ else if t=2 then zdZ++zbe 1 else zaJ
def RoI(σ:AS)(a:Nat→AV)(τ:AS):Prop:=∃t:Int,1≤t∧t≤3∧a 3=.int .i64 t∧a 2=.sl (.stat true) 1 (zal.map yce)∧zsY σ τ (a 1) (zlL t)∧zf σ τ
def RiI(σ:AS)(t:Int)(a:Nat→AV)(τ:AS):Prop:=∃i:Nat,i≤16∧a 4=.int .i64 (i:Int)∧a 3=.int .i64 t∧a 2=.sl (.stat true) 1 (zal.map yce)∧zsY σ τ (a 1) (zlL t++(zbe t).take i)∧zf σ τ
theorem zny{σ0 τ:AS}{v:AV}{l:List (List UInt8 × W)}{p:List UInt8 × W}{el:Option TypeId}{sz:Nat}{K:AV→AS→Prop}(hv:zsY σ0 τ v l)(A:zf σ0 τ)(hl:(l.length+1)*sz≤2^47)(h:∀v' τ',zsY σ0 τ' v' (l++[p])→zf σ0 τ'→K v' τ'):zcb el sz 7 v [zj2 p] τ K:=by
 have hn:=A.nf
 rcases hv with rfl|⟨g,rfl,g1,g2,g3⟩
 ·have:=h (.sl (.fam τ.nf false) 7 ((l++[p]).map zj2)) τ.newF (.inr ⟨_,rfl,by omega,by simp,by simp⟩) A.newF
  simp at this
  simp
  refine⟨by omega,?_⟩
  first|exact this|exact⟨by omega,this⟩
 ·have hgg:¬g=τ.nf:=by omega
  have:=h (.sl (.fam τ.nf false) 7 ((l++[p]).map zj2)) (τ.setF g .dead).newF (.inr ⟨_,rfl,by simpa using (by omega:σ0.nf≤τ.nf),by simp,by simp⟩) ⟨A.no,by simp;omega,A.obj,fun f hf=>by
   have e1:¬f=τ.nf:=by omega
   have e2:¬f=g:=by omega
   simp[e1,e2]
   exact A.fam f hf⟩
  simp at this
  simp[g3]
  first|exact this|exact⟨by omega,this⟩
theorem zwX:zaJ.length=45:=by decide
theorem znz(t:Int):(zbe t).length=17:=by simp[zbe,zal]
theorem zpX{t:Int}{i:Nat}(h:i<zal.length)(h':i<(zbe t).length):(zbe t)[i]=(zw t++46::zal[i],{ op:=4,ty:=t,n:=0,body:=0,other:=0,name:=zal[i] }):=by
 have e:(zbe t)[i]?=some (zw t++46::zal[i],{ op:=4,ty:=t,n:=0,body:=0,other:=0,name:=zal[i] }):=by
  unfold zbe
  rw[List.getElem?_append_left (by simpa using h),ycY,yau h]
  rfl
 rw[yau h']at e
 exact yaR.inj e
theorem zpY:∀s∈zal,s.length≤5:=by decide
theorem zpZ(t:Int):(zw t).length=3:=by unfold zw;split<;>rfl
theorem zwY(h:∀v σ',zsY σ σ' v zaJ→zf σ σ'→R (.ret v) σ'):zzQ G 187 [] σ R:=by
 refine zpf rfl ?_
 simp[zvA,splice]
 refine zK (RoI σ) (MU 3 4) ⟨1,by omega,by omega,by simp,by simp;rfl,.inl (by simp;rfl),.refl _⟩ fun a τ hI=>?_
 obtain⟨t,t1,t3,a3,a2,hv,hA⟩:=hI
 have v1:(a 1).known=true∧(a 1).one=true∧(a 1).cells=[a 1]:=by
  rcases hv with e|⟨g,e,_⟩<;>rw[e]<;>simp
 by_cases h3:t≤2
 ·have w1:yb3 .i64 (t+1)=t+1:=by rw[wrap_i64]<;>omega
  have hty:zw (if t=2 then 2 else 1)=zw t:=by
   have:t=1∨t=2:=by omega
   rcases this with rfl|rfl<;>rfl
  have hdl:(zlL t).length≤45:=by
   have:t=1∨t=2:=by omega
   rcases this with rfl|rfl<;>decide
  have tl:=zpZ t
  simp[zhF,a3,h3]
  refine zK (RiI σ t) (MU 4 17) ⟨0,by omega,by simp,by simp[a3],by simp[a2],by simpa using hv,hA⟩ fun b ρ hJ=>?_
  obtain⟨i,hi,b4,b3,b2,hv2,hB⟩:=hJ
  have v2:(b 1).known=true∧(b 1).one=true∧(b 1).cells=[b 1]:=by
   rcases hv2 with e|⟨g,e,_⟩<;>rw[e]<;>simp
  have sl:zal.length=16:=by decide
  by_cases hlt:i<16
  ·have hlt':(i:Int)<16:=by omega
   have wi:yb3 .i64 ((i:Int)+1)=((i+1:Nat):Int):=by rw[wrap_i64]<;>omega
   have hat:=zpX (t:=t) (i:=i) (by omega) (by rw[znz];omega)
   have hsg:=zpY zal[i] (yaw (by omega))
   simp[zhE,b4,b3,b2,sl,hlt,hlt',splice]
   refine zq5 ?_
   rw[hty]
   simp[splice,v2]
   refine⟨by omega,by omega,zny (p:=(zw t++46::zal[i],{ op:=4,ty:=t,n:=0,body:=0,other:=0,name:=zal[i] })) hv2 hB (by simp only[yab,ybf];omega) fun v' τ' hv' A'=>?_⟩
   simp[b4,b3,b2,wi]
   refine⟨⟨i+1,hlt,by simp,by simp[b3],by simp[b2],?_,A'⟩,?_⟩
   ·rw[yca (by rw[znz];omega),hat,←yck]
    exact hv'
   ·simp[MU,b4];omega
  ·have e:i=16:=by omega
   subst e
   simp[zhE,zky,b4,b3,b2,sl]
   refine zq5 ?_
   rw[hty]
   have heq:(zbe t).take 16++[(zw t++[46,101,113,122],{ op:=5,ty:=t,n:=0,body:=0,other:=0,name:=[] })]=zbe t:=by
    unfold zbe
    rw[List.take_append_of_le_length (by simp[sl]),ycu (by simp[sl])]
   simp[splice,v2,b3]
   refine⟨by omega,zny (p:=(zw t++[46,101,113,122],{ op:=5,ty:=t,n:=0,body:=0,other:=0,name:=[] })) hv2 hB (by simp only[yab,ybf];omega) fun v' τ' hv' A'=>?_⟩
   simp[zkz,b4,b3,b2,w1]
   refine⟨⟨t+1,by omega,by omega,by simp,by simp[b2],?_,A'⟩,?_⟩
   ·have hd:zlL t++(zbe t).take 16++[(zw t++[46,101,113,122],{ op:=5,ty:=t,n:=0,body:=0,other:=0,name:=[] })]=zlL (t+1):=by
     rw[yck,heq]
     have:t=1∨t=2:=by omega
     rcases this with rfl|rfl
     ·rfl
     ·simp[zlL,zaJ]
    rw[←hd]
    simpa using hv'
   ·simp[MU,a3];omega
 ·have e:t=3:=by omega
  subst e
  simp[zhF,zkA,a3]
  exact h _ _ hv hA
end
end Go.Proofs.YtohfclafhegadaaGreatDoor

namespace Go.Proofs.YtohfclafhegadaaGreatDoor
open Go Go.Abs
theorem zk1{α:Type}{p:α→Bool}{l:List α}{i:Nat}(hi:i<l.length)(hb:∀x∈l.take i,p x=false)(h:p l[i]=true):l.find? p=some l[i]:=by
 have e:l=l.take i++l[i]::l.drop (i+1):=by rw[←ycT hi,List.take_append_drop]
 have hn:(l.take i).find? p=none:=by
  rw[ycJ]
  intro x hx
  simp[hb x hx]
 have:=congrArg (List.find? p) e
 rw[List.find?_append,hn,List.find?_cons,h]at this
 simpa using this
theorem zk2{α:Type}{p:α→Bool}{l:List α}(hb:∀x∈l,p x=false):l.find? p=none:=by
 rw[ycJ]
 intro x hx
 simp[hb x hx]
theorem zk3{α:Type}{p:α→Bool}{l:List α}{i:Nat}(hi:i<l.length)(hb:∀x∈l.take i,p x=false)(h:p l[i]=false):∀x∈l.take (i+1),p x=false:=fun x hx=>by
 rw[yca hi,ybh,ych]at hx
 rcases hx with hx|rfl
 ·exact hb x hx
 ·exact h
theorem zwZ:zax.length=7:=by decide
theorem znA{φ:Abs.Own}{l:List (List UInt8 × W)}{i:Nat}(hi:i<l.length)(K:AV→Prop):zy yb5 215 (.sl φ 7 (l.map zj2)) (.int .i64 (i:Int)) K=K (.pv φ (zj2 l[i])):=by
 have hlt:(i:Int)<(l.length:Int):=by omega
 simp[hi,hlt]
theorem zsY.rd{σ τ:AS}{v:AV}{l:List (List UInt8 × W)}(h:zsY σ τ v l):∃φ,v=.sl φ 7 (l.map zj2)∧Al.Rd τ φ:=by
 rcases h with h|⟨g,h,_,h2,h3⟩
 ·exact⟨_,h,trivial⟩
 ·exact⟨_,h,h2,h3⟩
section
variable {G : Env} {σ : AS} {R : Out → AS → Prop}
end
theorem znB:∀p∈zaJ,zt zax p.1=none:=by decide
theorem zj3{p:List UInt8 × W}(hp:p∈zaJ)(h:zt zaJ p.1=some p.2)(s:Ts):zaP p.1 s=.ok (p.2,s):=by
 unfold zaP
 rw[znB p hp]
 simp only
 rw[h]
def SqI(x:Nat)(t:List UInt8)(σ σ1:AS)(v:AV)(a:Nat→AV)(τ:AS):Prop:=∃i:Nat,i≤45∧(∀p∈zaJ.take i,(p.1==t)=false)∧a 0=.ptr x 0∧a 1=.str t∧a 4=.ptr σ.no 0∧a 6=v∧a 7=.int .i64 (i:Int)∧τ=σ1
def SqN(x:Nat)(t:List UInt8)(σ σ1:AS)(a:Nat→AV)(τ:AS):Prop:=∃i:Nat,i≤7∧(∀p∈zax.take i,(p.1==t)=false)∧a 0=.ptr x 0∧a 1=.str t∧a 4=.ptr σ.no 0∧a 6=.sl (.stat true) 7 (zax.map zj2)∧a 8=.int .i64 (i:Int)∧τ=σ1
section
variable {G : Env} {σ : AS} {R : Out → AS → Prop}
theorem zp0{base x b so t}(h:RwS base x b so σ)(hs:∀(w:W) (ok:Bool) so' σ',(ok=true→zb4 so (zaP t) w so')→(ok=false→so'=so∧∀s,zaP t s=.error 2)→RwS base x b so' σ'→zE x σ σ'→R (.ret (.tuple [w.av,.bool ok])) σ'):zzQ G 179 [.ptr x 0,.str t] σ R:=by
 refine zpc rfl ?_
 have hx:=h.hx
 obtain⟨at0,lv0,ls0,ho0,_⟩:=h.opn
 simp[zvx]
 refine zwY fun v σ1 hv A1=>?_
 obtain⟨φ,rfl,hrd⟩:=hv.rd
 have A0:zf σ σ1:=(zf.refl σ).newO.trans A1
 have hR1:=h.adds A0
 have hK1:=A0.keepP hx ho0
 obtain⟨atq,lvq,lsq,hoq,_⟩:=hR1.opn
 have hn1:σ.no<σ1.no:=by have:=A1.no;simp at this;omega
 have hz1:σ1.objs σ.no=some zaM.cs:=by
  have:=A1.obj σ.no (by simp)
  rw[this]
  simp[zaM,W.cs]
 simp only[zaM,W.cs]at hz1
 have hxo:¬x=σ.no:=by omega
 have nl:=zwX
 have nn:=zwZ
 simp
 refine zK (SqI x t σ σ1 (.sl φ 7 (zaJ.map zj2))) (MU 7 46) ⟨0,by omega,by simp,by simp,by simp,by simp,by simp,by simp,rfl⟩ fun a τ hI=>?_
 obtain⟨i,hi,hno,a0,a1,a4,a6,a7,rfl⟩:=hI
 have hrd':=hrd.read
 by_cases hlt:i<45
 ·have hlt':(i:Int)<45:=by omega
  have hin:i<zaJ.length:=by omega
  have w1:yb3 .i64 ((i:Int)+1)=((i+1:Nat):Int):=by rw[wrap_i64]<;>omega
  have hat:=znA (φ:=φ) hin
  have hmem:=yaw hin
  have hno1:(zaJ[i].1==t)=false→∀p∈zaJ.take (i+1),(p.1==t)=false:=fun q=>zk3 (p:=fun p=>p.1==t) hin hno q
  have hyes:(zaJ[i].1==t)=true→zt zaJ t=some zaJ[i].2:=fun q=>by
   unfold zt
   rw[zk1 (p:=fun p=>p.1==t) hin hno q]
   rfl
  generalize zaJ[i]=p at *
  obtain⟨u,w⟩:=p
  by_cases e:u=t
  ·subst e
   have hl:=fun s=>zj3 hmem (hyes (by simp)) s
   simp[zeN,a0,a1,a4,a6,a7,nl,hlt,hlt',hat,hrd',zj2,W.cs,splice,hz1]
   have:=hs w true so (τ.setO σ.no [.int .i64 w.op,.int .i64 w.ty,.int .i64 w.n,.int .i64 w.body,.int .i64 w.other,.str w.name]) (fun _=>by
    unfold zb4
    cases so with
    | error e=>rfl
    | ok s=>exact hl s) (fun q=>by cases q) (hR1.other hxo) (hK1.other (yah _) hxo)
   simpa [W.av,W.cs]using this
  ·have e':¬t=u:=fun q=>e q.symm
   simp[zeN,a0,a1,a4,a6,a7,nl,hlt,hlt',hat,hrd',zj2,W.cs,splice,hz1,e,e',w1]
   refine⟨⟨i+1,hlt,hno1 (by simp[e]),by simp[a0],by simp[a1],by simp[a4],by simp[a6],by simp,rfl⟩,?_⟩
   simp[MU,a7];omega
 ·have ei:i=45:=by omega
  subst ei
  have hrows:zt zaJ t=none:=by
   unfold zt
   rw[zk2 (p:=fun p=>p.1==t) (fun p hp=>hno p (by rw[ycu (by omega)];exact hp))]
   rfl
  simp[zeN,zhB,zhC,a0,a1,a4,a6,a7,nl]
  refine zwW ?_
  simp
  refine zK (SqN x t σ τ) (MU 8 8) ⟨0,by omega,by simp,by simp[a0],by simp[a1],by simp[a4],by simp,by simp,rfl⟩ fun a' τ' hJ=>?_
  obtain⟨i,hi,hno2,a0,a1,a4,a6,a8,rfl⟩:=hJ
  by_cases hlt:i<7
  ·have hlt':(i:Int)<7:=by omega
   have hin:i<zax.length:=by omega
   have w1:yb3 .i64 ((i:Int)+1)=((i+1:Nat):Int):=by rw[wrap_i64]<;>omega
   have hat:=znA (φ:=.stat true) hin
   have hno1:(zax[i].1==t)=false→∀p∈zax.take (i+1),(p.1==t)=false:=fun q=>zk3 (p:=fun p=>p.1==t) hin hno2 q
   have hyes:(zax[i].1==t)=true→zt zax t=some zax[i].2:=fun q=>by
    unfold zt
    rw[zk1 (p:=fun p=>p.1==t) hin hno2 q]
    rfl
   generalize zax[i]=p at *
   obtain⟨u,w⟩:=p
   by_cases e:u=t
   ·subst e
    have hl:∀s,zaP u s=(zB s).map fun p=>({ w with n:=p.1 },p.2):=fun s=>by
     unfold zaP
     rw[hyes (by simp)]
    simp[zeO,a0,a1,a4,a6,a8,nn,hlt,hlt',hat,zj2,W.cs,splice,hz1]
    have A2:zf τ' ((τ'.newO [ycc .i64 0,.int .i64 0,.int .i64 0,.int .i64 0,.int .i64 0,.str []]).setO τ'.no [.int .i64 w.op,.int .i64 w.ty,.int .i64 w.n,.int .i64 w.body,.int .i64 w.other,.str w.name]):=(zf.refl τ').newO.setO (yah _)
    have z2:((τ'.newO [ycc .i64 0,.int .i64 0,.int .i64 0,.int .i64 0,.int .i64 0,.str []]).setO τ'.no [.int .i64 w.op,.int .i64 w.ty,.int .i64 w.n,.int .i64 w.body,.int .i64 w.other,.str w.name]).objs τ'.no=some [.int .i64 w.op,.int .i64 w.ty,.int .i64 w.n,.int .i64 w.body,.int .i64 w.other,.str w.name]:=by simp
    have z3:=(A2.obj σ.no hn1).trans hz1
    have n2:τ'.no<((τ'.newO [ycc .i64 0,.int .i64 0,.int .i64 0,.int .i64 0,.int .i64 0,.str []]).setO τ'.no [.int .i64 w.op,.int .i64 w.ty,.int .i64 w.n,.int .i64 w.body,.int .i64 w.other,.str w.name]).no:=by simp
    have hR2:=hR1.adds A2
    have hK2:=hK1.trans (A2.keepP hR1.hx hoq)
    generalize (τ'.newO [ycc .i64 0,.int .i64 0,.int .i64 0,.int .i64 0,.int .i64 0,.str []]).setO τ'.no [.int .i64 w.op,.int .i64 w.ty,.int .i64 w.n,.int .i64 w.body,.int .i64 w.other,.str w.name]=τ2 at *
    have hxo2:¬x=τ'.no:=by have:=hR1.hx;omega
    refine zh2 hR2 fun n so' σ' g _ _ hR3 hK3=>?_
    have z4:=(hK3.obj τ'.no n2 (fun q=>hxo2 q.symm)).trans z2
    have z5:=(hK3.obj σ.no (by omega) (fun q=>hxo q.symm)).trans z3
    have hne:¬σ.no=τ'.no:=by omega
    simp[a0,a1,a4,splice,z4,z5,hne]
    have:=hs { w with n:=n } true so' ((σ'.setO τ'.no [.int .i64 w.op,.int .i64 w.ty,.int .i64 n,.int .i64 w.body,.int .i64 w.other,.str w.name]).setO σ.no [.int .i64 w.op,.int .i64 w.ty,.int .i64 n,.int .i64 w.body,.int .i64 w.other,.str w.name]) (fun _=>by
     unfold zb4 at g ⊢
     have:so.bind (zaP u)=(so.bind zB).map fun p=>({ w with n:=p.1 },p.2):=by
      cases so with
      | error e=>rfl
      | ok s=>exact hl s
     rw[this,g]
     cases so'<;>rfl) (fun q=>by cases q) ((hR3.other hxo2).other hxo) (((hK2.trans hK3).other (by omega) hxo2).other (yah _) hxo)
    simpa [W.av,W.cs]using this
   ·have e':¬t=u:=fun q=>e q.symm
    simp[zeO,a0,a1,a4,a6,a8,nn,hlt,hlt',hat,zj2,W.cs,splice,hz1,e,e',w1]
    refine⟨⟨i+1,hlt,hno1 (by simp[e]),by simp[a0],by simp[a1],by simp[a4],by simp[a6],by simp,rfl⟩,?_⟩
    simp[MU,a8];omega
  ·have ei:i=7:=by omega
   subst ei
   have hnumb:zt zax t=none:=by
    unfold zt
    rw[zk2 (p:=fun p=>p.1==t) (fun p hp=>hno2 p (by rw[ycu (by omega)];exact hp))]
    rfl
   have hl:∀s,zaP t s=.error 2:=fun s=>by
    unfold zaP
    rw[hnumb]
    simp only
    rw[hrows]
   simp[zeO,zhB,zhC,a0,a1,a4,a6,a8,nn,splice,hz1]
   have:=hs zaM false so (τ'.setO σ.no [ycc .i64 0,.int .i64 0,.int .i64 0,.int .i64 0,.int .i64 0,.str []]) (fun q=>by cases q) (fun _=>⟨rfl,hl⟩) (hR1.other hxo) (hK1.other (yah _) hxo)
   simpa [W.av,W.cs,zaM]using this
end
def zb9:PC→PC
 | .seq a _=>a
 | p=>p
def zay:PC→PC
 | .seq _ b=>b
 | p=>p
def zw0:PC:=zay (zay zgg)
theorem zp1:zgg=.seq (zb9 zgg) (.seq (zb9 (zay zgg)) zw0):=rfl
abbrev zQ:List AV:=[.int .i64 0,.int .i64 0,.int .i64 0,.int .i64 0,.int .i64 0,.str []]
abbrev nW(op n e:Int):W:={ op:=op,ty:=0,n:=0,body:=n,other:=e,name:=[] }
abbrev nWs(op n e:Int):List AV:=[.int .i64 op,.int .i64 0,.int .i64 0,.int .i64 n,.int .i64 e,.str []]
def zlM(G:Env)(base x:Nat)(b:List UInt8)(k:Nat):Prop:=∀(σ:AS) (R:Out→AS→Prop) (d:Nat) (o:Bool) (so:Res Ts),d≤401→(401≤d→∃e,so=.error e)→RwS base x b so σ→(∀s,so=.ok s→s.b.length<k∧s.ls.length+s.b.length≤2^15) →
 (∀(n:Int) (t:List UInt8) so' σ',so.bind (fun s=>zp k d o [] s)=so'.map (fun s'=>((n,t),s'))→-(2^63)≤n→n<2^63→RwS base x b so' σ'→zae x σ σ'→R (.ret (.tuple [.int .i64 n,.str t])) σ')→zzQ G 139 [.ptr x 0,.int .i64 (d:Int),.bool o] σ R
section
variable {G : Env} {σ : AS} {R : Out → AS → Prop}
theorem zfX{rec:ztX}{op:Int}{d:Nat}(hd:d≤400)(s:Ts):zR rec op d s=(rec d (decide (op=13)) s).bind fun p =>
  if op=13 then(if p.1.2=za2 then(rec d false p.2).map fun q=>(nW 13 p.1.1 q.1.1,q.2)else .ok (nW 13 p.1.1 (-1),p.2))
  else .ok (nW op p.1.1 0,p.2):=by unfold zR;rw[if_neg (by omega)]
theorem zk4{base x b so1 t}{k d o:Nat}{σ1:AS}{a:Nat→AV}(h1:RwS base x b so1 σ1)(K1:zae x σ σ1)(a0:a 0=.ptr x 0)(a1:a 1=.str t)(a2:a 2=.int .i64 (d:Int))(a6:a 6=.ptr o 0)(ho6:σ1.objs o=some zQ)(ho:σ.no≤o)(ho1:o<σ1.no)(hox:¬x=o)(ht:zM t≠0)(hd4:d≤401)(h401:401≤d→∃e,so1=.error e)
  (hb:∀s,so1=.ok s→s.b.length<k∧s.ls.length+s.b.length≤2^15) (IH:zlM G base x b k) (hs:∀w so' σ',zb4 so1 (zR (fun d o s=>zp k d o [] s) (zM t) d) w so'→RwS base x b so' σ'→zae x σ σ'→R (.ret w.av) σ'):avc yb5 G 45 zw0 (zcJ yb5 [.cell 6 53] R) a σ1:=by
 have hx1:=h1.hx
 have hxo:¬x=σ1.no:=by omega
 have hne:¬o=σ1.no:=by omega
 have A2:∀cs,zf σ1 ((σ1.newO zQ).setO σ1.no cs):=fun cs=>(zf.refl σ1).newO.setO (yah _)
 obtain⟨at0,lv0,ls0,hoq,_⟩:=h1.opn
 have hnest:∀w so',(d≤400→∀s,so1=.ok s→zR (fun d o s=>zp k d o [] s) (zM t) d s=so'.map fun s=>(w,s))→(∀e,so1=.error e→so'=.error e)→zb4 so1 (zR (fun d o s=>zp k d o [] s) (zM t) d) w so':=fun w so' q1 q2=>by
  unfold zb4
  cases so1 with
  | error e=>rw[q2 e rfl];rfl
  | ok s=>exact q1 (by
    by_cases q:d≤400
    ·exact q
    ·obtain⟨e,he⟩:=h401 (by omega);cases he) s rfl
 have e1:t=zbE∨t=zdY∨t=tIf:=by
  unfold zM at ht
  by_cases q:t=zbE
  ·exact .inl q
  ·by_cases q2:t=zdY
   ·exact .inr (.inl q2)
   ·by_cases q3:t=tIf
    ·exact .inr (.inr q3)
    ·rw[if_neg q,if_neg q2,if_neg q3]at ht;exact absurd rfl ht
 -- blocks and loops
 have one:∀(op:Int) (σ2:AS),op=zM t→op≠13→zf σ1 σ2→∀n t' so' σ',so1.bind (fun s=>zp k d false [] s)=so'.map (fun s'=>((n,t'),s'))→RwS base x b so' σ'→zae x σ2 σ'→∀c1 c2,R (.ret (nW op n 0).av) ((σ'.setO σ1.no c1).setO o c2):=fun op σ2 q1 q2 A n t' so' σ' g hR hK c1 c2=>by
  refine hs (nW op n 0) so' _ (hnest _ _ (fun hd s e=>?_) fun e he=>?_) ((hR.other hxo).other hox) ((((K1.trans (A.keepQ hx1)).trans hK).other (by have:=K1.no;omega) hxo).other ho hox)
  ·rw[zfX hd,←q1]
   subst e
   simp only[if_neg q2,decide_eq_false q2]
   have g':zp k d false [] s=so'.map fun s'=>((n,t'),s'):=g
   rw[g']
   cases so'<;>rfl
  ·subst he
   cases so' with
   | error e'=>cases g;rfl
   | ok s=>cases g
 rcases e1 with e|e|e
 ·subst e
  simp[zw0,zay,zgg,zbE,a0,a1,a2,a6,splice]
  have A:=A2 (nWs 11 0 0)
  have z2:((σ1.newO zQ).setO σ1.no (nWs 11 0 0)).objs σ1.no=some (nWs 11 0 0):=by simp
  have n2:σ1.no<((σ1.newO zQ).setO σ1.no (nWs 11 0 0)).no:=by simp
  have k6:=(A.obj o ho1).trans ho6
  have hR2:=h1.adds A
  refine IH ((σ1.newO zQ).setO σ1.no (nWs 11 0 0)) _ d false so1 hd4 h401 hR2 hb fun n t' so' σ' g _ _ hR hK=>?_
  have z3:=(hK.obj σ1.no n2 (fun q=>hxo q.symm)).trans z2
  have z6:=(hK.obj o (by omega) (fun q=>hox q.symm)).trans k6
  simp[zbE,a0,a1,a2,a6,z3,z6,splice,hne]
  exact one 11 _ (by decide) (by decide) A n t' so' σ' g hR hK _ _
 ·subst e
  simp[zw0,zay,zgg,zdY,a0,a1,a2,a6,splice]
  have A:zf σ1 (((σ1.newO zQ).setO σ1.no (nWs 11 0 0)).setO σ1.no (nWs 12 0 0)):=(A2 (nWs 11 0 0)).setO (yah _)
  have z2:(((σ1.newO zQ).setO σ1.no (nWs 11 0 0)).setO σ1.no (nWs 12 0 0)).objs σ1.no=some (nWs 12 0 0):=by simp
  have n2:σ1.no<(((σ1.newO zQ).setO σ1.no (nWs 11 0 0)).setO σ1.no (nWs 12 0 0)).no:=by simp
  have k6:=(A.obj o ho1).trans ho6
  have hR2:=h1.adds A
  refine IH (((σ1.newO zQ).setO σ1.no (nWs 11 0 0)).setO σ1.no (nWs 12 0 0)) _ d false so1 hd4 h401 hR2 hb fun n t' so' σ' g _ _ hR hK=>?_
  have z3:=(hK.obj σ1.no n2 (fun q=>hxo q.symm)).trans z2
  have z6:=(hK.obj o (by omega) (fun q=>hox q.symm)).trans k6
  simp[zdY,a0,a1,a2,a6,z3,z6,splice,hne]
  exact one 12 _ (by decide) (by decide) A n t' so' σ' g hR hK _ _
 ·subst e
  simp[zw0,zay,zgg,tIf,a0,a1,a2,a6,splice]
  have A:=A2 (nWs 11 0 0)
  have z2:((σ1.newO zQ).setO σ1.no (nWs 11 0 0)).objs σ1.no=some (nWs 11 0 0):=by simp
  have n2:σ1.no<((σ1.newO zQ).setO σ1.no (nWs 11 0 0)).no:=by simp
  have k6:=(A.obj o ho1).trans ho6
  have hR2:=h1.adds A
  have K2:=K1.trans (A.keepQ hx1)
  have hno1:=K1.no
  refine IH ((σ1.newO zQ).setO σ1.no (nWs 11 0 0)) _ d true so1 hd4 h401 hR2 hb fun n t' so' σ' g _ _ hR hK=>?_
  have z3:=(hK.obj σ1.no n2 (fun q=>hxo q.symm)).trans z2
  have z6:=(hK.obj o (by omega) (fun q=>hox q.symm)).trans k6
  have hnoK:=hK.no
  have K3:=K2.trans hK
  by_cases hel:t'=za2
  ·have hel':t'=[101,108,115,101]:=hel
   simp[tIf,a0,a1,a2,a6,z3,z6,splice,hne,hel']
   have z4:(((σ'.setO σ1.no (nWs 11 n 0)).setO σ1.no (nWs 13 n 0)).setO σ1.no (nWs 13 n (-1))).objs σ1.no=some (nWs 13 n (-1)):=by simp
   have z7:(((σ'.setO σ1.no (nWs 11 n 0)).setO σ1.no (nWs 13 n 0)).setO σ1.no (nWs 13 n (-1))).objs o=some zQ:=by simp[hne,z6]
   have hR4:RwS base x b so' (((σ'.setO σ1.no (nWs 11 n 0)).setO σ1.no (nWs 13 n 0)).setO σ1.no (nWs 13 n (-1))):=((hR.other hxo).other hxo).other hxo
   have K4:zae x σ (((σ'.setO σ1.no (nWs 11 n 0)).setO σ1.no (nWs 13 n 0)).setO σ1.no (nWs 13 n (-1))):=((K3.other hno1 hxo).other hno1 hxo).other hno1 hxo
   have n4:(((σ'.setO σ1.no (nWs 11 n 0)).setO σ1.no (nWs 13 n 0)).setO σ1.no (nWs 13 n (-1))).no=σ'.no:=by simp
   refine IH (((σ'.setO σ1.no (nWs 11 n 0)).setO σ1.no (nWs 13 n 0)).setO σ1.no (nWs 13 n (-1))) _ d false so' hd4 (fun q=>?_) hR4 (fun s' e'=>?_) fun n3 t3 so3 σ3 g3 _ _ hR5 hK5=>?_
   ·obtain⟨e,he⟩:=h401 q
    subst he
    cases so' with
    | error e'=>exact⟨_,rfl⟩
    | ok s=>cases g
   ·subst e'
    cases so1 with
    | error e=>cases g
    | ok s =>
     obtain⟨b1,b2⟩:=hb s rfl
     have g':zp k d true [] s=.ok ((n,t'),s'):=g
     have hle:=zb3 _ _ _ _ _ _ _ g'
     have l1:=hle.1
     have l2:=hle.2
     exact⟨by omega,by omega⟩
   ·have z8:=(hK5.obj σ1.no (by omega) (fun q=>hxo q.symm)).trans z4
    have z9:=(hK5.obj o (by omega) (fun q=>hox q.symm)).trans z7
    simp[tIf,a0,a1,a2,a6,z8,z9,splice,hne]
    refine hs (nW 13 n n3) so3 _ (hnest _ _ (fun hd s e=>?_) fun e he=>?_) ((hR5.other hxo).other hox) (((K4.trans hK5).other hno1 hxo).other ho hox)
    ·rw[zfX hd,show zM tIf=13 from rfl]
     subst e
     simp only[if_true,decide_true]
     have g':zp k d true [] s=so'.map fun s'=>((n,t'),s'):=g
     rw[g']
     cases so' with
     | error e =>
      cases so3 with
      | error e'=>cases g3;rfl
      | ok s3=>cases g3
     | ok s2 =>
      have g3':zp k d false [] s2=so3.map fun s'=>((n3,t3),s'):=g3
      simp only[Except.map,Except.bind,if_pos hel]
      rw[g3']
      cases so3<;>rfl
    ·subst he
     cases so' with
     | error e' =>
      cases g
      cases so3 with
      | error e''=>cases g3;rfl
      | ok s3=>cases g3
     | ok s=>cases g
  ·have hel':¬t'=[101,108,115,101]:=hel
   simp[tIf,a0,a1,a2,a6,z3,z6,splice,hne,hel']
   refine hs (nW 13 n (-1)) so' _ (hnest _ _ (fun hd s e=>?_) fun e he=>?_) ((((hR.other hxo).other hxo).other hxo).other hox) ((((K3.other hno1 hxo).other hno1 hxo).other hno1 hxo).other ho hox)
   ·rw[zfX hd,show zM tIf=13 from rfl]
    subst e
    simp only[if_true,decide_true]
    have g':zp k d true [] s=so'.map fun s'=>((n,t'),s'):=g
    rw[g']
    cases so' with
    | error e=>rfl
    | ok s2 =>
     simp only[Except.map,Except.bind]
     rw[if_neg hel]
   ·subst he
    cases so' with
    | error e'=>cases g;rfl
    | ok s=>cases g
theorem zh3{base x b so t}{k d:Nat}(h:RwS base x b so σ)(ht:zM t≠0)(hd4:d≤401)(hb:∀s,so=.ok s→s.b.length<k∧s.ls.length+s.b.length≤2^15)(IH:zlM G base x b k)
  (hs:∀w so' σ',zb4 so (zR (fun d o s=>zp k d o [] s) (zM t) d) w so'→RwS base x b so' σ'→zae x σ σ'→R (.ret w.av) σ'):zzQ G 178 [.ptr x 0,.str t,.int .i64 (d:Int)] σ R:=by
 refine zpb rfl ?_
 have hx:=h.hx
 obtain⟨at0,lv0,ls0,hoq,_⟩:=h.opn
 have A:zf σ (σ.newO zQ):=(zf.refl σ).newO
 have hR1:=h.adds A
 have hK1:=A.keepP hx hoq
 have z1:(σ.newO zQ).objs σ.no=some zQ:=by simp
 have n1:σ.no<(σ.newO zQ).no:=by simp
 have hxo:¬x=σ.no:=by omega
 rw[zp1]
 by_cases h4:400<d
 ·have h4':(400:Int)<(d:Int):=by omega
  simp[zb9,zay,zgg,h4']
  refine zah (c:=3) (by decide) hR1 fun σ2 hR2 hK2=>?_
  have z2:=(hK2.obj σ.no n1 (fun q=>hxo q.symm)).trans z1
  have n2:=hK2.no
  simp
  refine zk4 (o:=σ.no) hR2 (hK1.trans hK2).r (by simp) (by simp) (by simp) (by simp) z2 (yah _) (yag n1 n2) hxo ht hd4 (fun _=>?_) (fun s q=>?_) IH fun w so' σ' g hR hK=>hs w so' σ' ?_ hR hK
  ·cases so<;>exact⟨_,rfl⟩
  ·cases so<;>cases q
  ·unfold zb4 at g ⊢
   cases so with
   | error e=>exact g
   | ok s =>
    simp only[zbK,Except.bind]at g ⊢
    rw[←g]
    unfold zR
    rw[if_pos h4]
 ·have h4':¬(400:Int)<(d:Int):=by omega
  simp[zb9,zay,zgg,h4']
  exact zk4 (o:=σ.no) hR1 hK1.r (by simp) (by simp) (by simp) (by simp) z1 (yah _) n1 hxo ht hd4 (fun q=>by omega) hb IH hs
end
def zgp:PC→PC
 | .block _ p=>p
 | p=>p
def zlN:PC:=zay (zay (zgp (zay zq)))
def zq6:PC:=zay zlN
def zy6:PC:=zay zq6
theorem zsZ:zlN=.seq (zb9 zlN) zq6:=rfl
theorem zs0:zq6=.seq (zb9 zq6) zy6:=rfl
def ClQ(base x:Nat)(b:List UInt8)(σ:AS)(l:List W)(d:Nat)(o:Bool)(so:Res Ts)(f:Ts→Res (W × Ts))(Q:AQ):Prop:=∀(w:W) (so2:Res Ts) (a':Nat→AV) (τ':AS),zb4 so f w so2→a' 0=.ptr x 0→a' 1=.int .i64 (d:Int)→a' 2=.bool o→zdk σ x 6 τ' (a' 8) (l.map W.av++[w.av])→RwS base x b so2 τ'→zae x σ τ'→Q .normal a' τ'∧Q (.exit 1) a' τ'
section
variable {G : Env} {σ : AS} {R : Out → AS → Prop}
theorem zw1{base x b so so1 f w}{l:List W}{d:Nat}{o:Bool}{Q:AQ}{a:Nat→AV}{σ1:AS}{ok:Bool}{ob:Nat}(a0:a 0=.ptr x 0)(a1:a 1=.int .i64 (d:Int))(a2:a 2=.bool o)(a10:a 10=.ptr ob 0)(a11:a 11=.bool ok)(hob:σ1.objs ob=some w.cs)(hol:ob<σ1.no)(hox:¬x=ob)(hR:RwS base x b so1 σ1)(hG:zdk σ x 6 σ1 (a 8) (l.map W.av))(hK:zae x σ σ1)(hσ:base≤σ.nf)(hl:l.length≤2^15)
  (h1:ok=true→zb4 so f w so1) (h2:ok=false→zb4 so f w (zbK 2 so1)) (hc:ClQ base x b σ l d o so f Q):avc yb5 G 89 zy6 Q a σ1:=by
 have hob':=hob
 simp only[W.cs]at hob'
 cases ok with
 | true =>
  have g1:=hG.one
  simp[zy6,zq6,zlN,zay,zgp,zq,a0,a1,a2,a10,a11,hob',g1]
  refine zfW (row:=w.av) hG hR hK hσ (by simp[W.av,W.cs]) (by simp;omega) fun v' τ' e1 e2 e3 _ _ _=>?_
  simp
  exact(hc w so1 _ τ' (h1 rfl) (by simp[a0]) (by simp[a1]) (by simp[a2]) (by simpa using e1) e2 e3).1
 | false =>
  simp[zy6,zq6,zlN,zay,zgp,zq,a0,a1,a2,a10,a11,hob']
  refine zah (c:=2) (by decide) hR fun σ2 hR2 hK2=>?_
  have hG2:=hG.keep hK2.r
  have g2:=hG2.one
  have hob2:=(hK2.obj ob hol (fun q=>hox q.symm)).trans hob'
  simp[a0,a1,a2,a10,a11,hob2,g2]
  refine zfW (row:=w.av) hG2 hR2 (hK.trans hK2.r) hσ (by simp[W.av,W.cs]) (by simp;omega) fun v' τ' e1 e2 e3 _ _ _=>?_
  simp
  exact(hc w (zbK 2 so1) _ τ' (h2 rfl) (by simp[a0]) (by simp[a1]) (by simp[a2]) (by simpa using e1) e2 e3).1
theorem znC{base x b so t}{l:List W}{d:Nat}{o:Bool}{Q:AQ}{a:Nat→AV}{σ1:AS}(a0:a 0=.ptr x 0)(a1:a 1=.int .i64 (d:Int))(a2:a 2=.bool o)(a9:a 9=.str t)(hR:RwS base x b so σ1)(hG:zdk σ x 6 σ1 (a 8) (l.map W.av))(hK:zae x σ σ1)(hσ:base≤σ.nf)(hl:l.length≤2^15)
  (hc:ClQ base x b σ l d o so (zaP t) Q):avc yb5 G 89 zq6 Q a σ1:=by
 rw[zs0]
 simp[zb9,zq6,zlN,zay,zgp,zq,a0,a1,a2,a9]
 refine zp0 hR fun w ok so2 σ2 h1 h2 hR2 hK2=>?_
 have g2:=(hG.keep hK2.r).one
 have hx2:=hR2.hx
 obtain⟨at2,lv2,ls2,ho2,_⟩:=hR2.opn
 have hxo:¬x=σ2.no:=by omega
 have A:zf σ2 ((σ2.newO zQ).setO σ2.no w.cs):=(zf.refl σ2).newO.setO (yah _)
 have z2:((σ2.newO zQ).setO σ2.no w.cs).objs σ2.no=some w.cs:=by simp
 have n2:σ2.no<((σ2.newO zQ).setO σ2.no w.cs).no:=by simp
 simp[W.av,W.cs,a0,a1,a2,splice]
 refine zw1 (f:=zaP t) (so:=so) (ok:=ok) (w:=w) (ob:=σ2.no) (l:=l) (d:=d) (o:=o) (by simp[a0]) (by simp[a1]) (by simp[a2]) (by simp) (by simp) z2 n2 hxo (hR2.adds A) (by simpa [W.cs]using (hG.keep hK2.r).keep (A.keepQ hx2)) ((hK.trans hK2.r).trans (A.keepQ hx2)) hσ hl h1 (fun q=>?_) hc
 obtain⟨rfl,h3⟩:=h2 q
 unfold zb4
 cases so2 with
 | error e=>rfl
 | ok s =>
  show zaP t s=_
  rw[h3 s]
  rfl
theorem zw2{base x b so t}{l:List W}{d k:Nat}{o:Bool}{Q:AQ}{a:Nat→AV}{σ1:AS}(a0:a 0=.ptr x 0)(a1:a 1=.int .i64 (d:Int))(a2:a 2=.bool o)(a9:a 9=.str t)(hd:d≤400)(hb:∀s,so=.ok s→s.b.length<k∧s.ls.length+s.b.length≤2^15)(IH:zlM G base x b k)(hR:RwS base x b so σ1)(hG:zdk σ x 6 σ1 (a 8) (l.map W.av))(hK:zae x σ σ1)(hσ:base≤σ.nf)(hl:l.length≤2^15)
  (hc:ClQ base x b σ l d o so (zan (fun d o s=>zp k d o [] s) t d) Q):avc yb5 G 89 zlN Q a σ1:=by
 have wd:yb3 .i64 ((d:Int)+1)=((d+1:Nat):Int):=by rw[wrap_i64]<;>omega
 have g1:=hG.one
 rw[zsZ]
 by_cases ht:zM t=0
 ·have hf:zan (fun d o s=>zp k d o [] s) t d=zaP t:=by funext s;unfold zan;rw[if_pos ht]
  rw[hf]at hc
  have n1:¬t=[98,108,111,99,107]:=fun q=>by subst q;revert ht;decide
  have n2:¬t=[108,111,111,112]:=fun q=>by subst q;revert ht;decide
  have n3:¬t=[105,102]:=fun q=>by subst q;revert ht;decide
  simp[zb9,zlN,zay,zgp,zq,a0,a1,a2,a9,n1,n2,n3]
  exact znC (by simp[a0]) (by simp[a1]) (by simp[a2]) (by simp[a9]) hR (by simpa using hG) hK hσ hl hc
 ·have hf:zan (fun d o s=>zp k d o [] s) t d=zR (fun d o s=>zp k d o [] s) (zM t) (d+1):=by funext s;unfold zan;rw[if_neg ht]
  rw[hf]at hc
  have e1:t=zbE∨t=zdY∨t=tIf:=by
   unfold zM at ht
   by_cases q:t=zbE
   ·exact .inl q
   ·by_cases q2:t=zdY
    ·exact .inr (.inl q2)
    ·by_cases q3:t=tIf
     ·exact .inr (.inr q3)
     ·rw[if_neg q,if_neg q2,if_neg q3]at ht;exact absurd rfl ht
  rcases e1 with e|e|e
  ·subst e
   simp[zb9,zlN,zay,zgp,zq,a0,a1,a2,a9,zbE,wd,g1]
   refine zh3 (t:=zbE) (d:=d+1) (k:=k) hR (by decide) (by omega) hb IH fun w so' σ' q1 q2 q3=>?_
   have hG2:=hG.keep q3
   have g2:=hG2.one
   simp[W.av,W.cs,a0,a1,a2,g2]
   refine zfW (row:=w.av) hG2 q2 (hK.trans q3) hσ (by simp[W.av,W.cs]) (by simp;omega) fun v' τ' e1 e2 e3 _ _ _=>?_
   simp
   exact(hc w so' _ τ' q1 (by simp[a0]) (by simp[a1]) (by simp[a2]) (by simpa using e1) e2 e3).2
  ·subst e
   simp[zb9,zlN,zay,zgp,zq,a0,a1,a2,a9,zdY,wd,g1]
   refine zh3 (t:=zdY) (d:=d+1) (k:=k) hR (by decide) (by omega) hb IH fun w so' σ' q1 q2 q3=>?_
   have hG2:=hG.keep q3
   have g2:=hG2.one
   simp[W.av,W.cs,a0,a1,a2,g2]
   refine zfW (row:=w.av) hG2 q2 (hK.trans q3) hσ (by simp[W.av,W.cs]) (by simp;omega) fun v' τ' e1 e2 e3 _ _ _=>?_
   simp
   exact(hc w so' _ τ' q1 (by simp[a0]) (by simp[a1]) (by simp[a2]) (by simpa using e1) e2 e3).2
  ·subst e
   simp[zb9,zlN,zay,zgp,zq,a0,a1,a2,a9,tIf,wd,g1]
   refine zh3 (t:=tIf) (d:=d+1) (k:=k) hR (by decide) (by omega) hb IH fun w so' σ' q1 q2 q3=>?_
   have hG2:=hG.keep q3
   have g2:=hG2.one
   simp[W.av,W.cs,a0,a1,a2,g2]
   refine zfW (row:=w.av) hG2 q2 (hK.trans q3) hσ (by simp[W.av,W.cs]) (by simp;omega) fun v' τ' e1 e2 e3 _ _ _=>?_
   simp
   exact(hc w so' _ τ' q1 (by simp[a0]) (by simp[a1]) (by simp[a2]) (by simpa using e1) e2 e3).2
theorem RwS.push{base x b s τ g tos lv lv0 l at_}(h0:RwS base x b (.ok s) τ)(h:Rw base x b at_ 0 lv0 s.ls τ)(hsb:s.b=b.drop at_)(ht:All2 Al.RepE tos s.ls)(hG:zdk σ x 6 τ lv (l.map W.av))(hσ:base≤σ.nf){τ':AS}(e1:τ'.objs=upd τ.objs x (some [.str b,.int .i64 (at_:Int),.int .i64 0,.sl (.fam τ.nf false) 1 (tos++[lv])]))(e2:τ'.no=τ.no)(e3:τ'.nf=τ.nf+1)(e4:τ'.F τ.nf=.alive)
  (e5:∀f,f<τ.nf→¬zaj τ x f→τ'.F f=τ.F f) (K:zae x σ τ) (hg:∀f,zaj τ x f→f=g) {v:AV} (hmv:∀f,Go.Abs.mrg f v=v) (hR:∀σ',RwS base x b (.ok { s with ls:=s.ls++[l] }) σ'→zae x σ σ'→R (.ret v) σ'):Al.MrgOr R (.ret v) τ':=by
 have hb:=h.hb
 have hn:=K.nf
 have base0:∀σ':AS,σ'.no=τ.no→σ'.nf=τ.nf+1→(∀o,o≠x→σ'.objs o=τ.objs o)→(∃tos',σ'.objs x=some [.str b,.int .i64 (at_:Int),.int .i64 0,.sl (.fam τ.nf false) 1 tos']∧All2 Al.RepE tos' (s.ls++[l]))→σ'.F τ.nf=.alive →
   (∀f,f<τ.nf→¬zaj τ x f→f<σ.nf∨f<base→σ'.F f=τ.F f)→R (.ret v) σ':=by
  intro σ' a1 a2 a3 ⟨tos',a4,a6⟩ a7 a8
  have nb:∀f,f<base→¬zaj τ x f:=fun f hf u=>by have:=(h0.lt u).2;omega
  refine hR σ' ⟨at_,0,_,_,⟨by rw[a1];exact h.hx,⟨hb.1,by omega⟩,?_,h.le,h.hl,.inr ⟨τ.nf,tos',rfl,hb.2,by omega,a7,a6⟩,a4⟩,rfl,hsb,rfl⟩ ⟨by rw[a1];exact K.no,by omega,fun o h1 h2=>(a3 o h2).trans (K.obj o h1 h2),fun f h1 h2=>?_,fun f h1 h2=>?_⟩
  ·rw[a8 0 (by omega) (nb 0 hb.1) (.inr hb.1)];exact h.h0
  ·have hu:¬zaj τ x f:=fun u=>h2 (K.use f h1 u)
   rw[a8 f (by omega) hu (.inl h1)]
   exact K.fam f h1 h2
  ·obtain⟨cs,v,q1,q2,q3⟩:=h2
   rw[a4]at q1
   cases q1
   simp at q2
   subst q2
   simp[zgj]at q3
   omega
 rcases hG with ⟨h1,rfl⟩|⟨f,rfl,h2,h3,h4,h5⟩
 ·have hl:l=[]:=by simpa using h1
  subst hl
  exact .inl (base0 τ' e2 e3 (fun o ho=>by rw[e1];simp[ho]) ⟨tos++[.nilsl],by rw[e1];simp,ht.append (.cons (.inl ⟨rfl,rfl⟩) .nil)⟩ e4 (fun f q1 q2 _=>e5 f q1 q2))
 ·refine Al.MrgOr.merged f (fun o=>o==x) (by omega) (by rw[e5 f h3 h5];exact h4) ?_
  rw[hmv]
  refine base0 _ e2 e3 (fun o ho=>by simp[AS.mrg,e1,ho]) ⟨tos++[.sl (.fam 0 false) 6 (l.map W.av)],?_,ht.append (.cons (.inr ⟨_,rfl⟩) .nil)⟩ ?_ (fun f' q1 q2 q3=>?_)
  ·have:¬τ.nf=f:=by omega
   simp[AS.mrg,e1,Al.mrg_rows ht,this,Function.comp_def,Al.mrg_W]
  ·have:¬τ.nf=f:=by omega
   simp[AS.mrg,zf2,this,e4]
  ·have:¬f'=f:=by omega
   simp only[AS.mrg,zf2,zgF,this,if_false]
   exact e5 f' q1 q2
def zd7(so:Res Ts):Nat:=match so with|.error _=>0|.ok s=>s.b.length+1
def LsD(base x:Nat)(b:List UInt8)(d k0:Nat)(o:Bool)(so0:Res Ts)(σ:AS)(a:Nat→AV)(τ:AS):Prop:=∃(k:Nat) (l:List W) (so:Res Ts),so0.bind (fun s=>zp k0 d o [] s)=so.bind (fun s=>zp k d o l s)∧k≤k0∧(∀s,so=.ok s→s.b.length<k∧s.ls.length+s.b.length≤2^15)∧l.length+zd7 so≤2^15∧a 0=.ptr x 0∧a 1=.int .i64 (d:Int)∧a 2=.bool o∧zdk σ x 6 τ (a 8) (l.map W.av)∧RwS base x b so τ∧zae x σ τ∧(401≤d→∃e,so=.error e)
def zlO:PC:=zay (zgp (zay zq))
theorem znD:zlO=.seq (zb9 zlO) zlN:=rfl
theorem zjc:zq=.seq (zb9 zq) (.block 1 (.seq (zb9 (zgp (zay zq))) zlO)):=rfl
theorem zlP{d:Nat}{o:Bool}{t:List UInt8}(h:zeD d o t=false):(t=zb7∧d=0)∨(¬t=zb7∧t=zi∧d≠0)∨(¬t=zb7∧¬t=zi∧t=za2∧o=false)∨(¬t=zb7∧¬t=zi∧¬t=za2):=by
 unfold zeD at h
 simp only[Bool.or_eq_false_iff,Bool.and_eq_false_iff,decide_eq_false_iff_not]at h
 obtain⟨h1,h2,h3⟩:=h
 by_cases q1:t=zb7
 ·exact .inl ⟨q1,by rcases h1 with h|h<;>first|exact absurd q1 h|omega⟩
 ·by_cases q2:t=zi
  ·exact .inr (.inl ⟨q1,q2,by rcases h2 with h|h<;>first|exact absurd q2 h|exact h⟩)
  ·by_cases q3:t=za2
   ·exact .inr (.inr (.inl ⟨q1,q2,q3,by rcases h3 with h|h<;>first|exact absurd q3 h|exact h⟩))
   ·exact .inr (.inr (.inr ⟨q1,q2,q3⟩))
theorem zlQ{base x b so0}{k0 d:Nat}{o:Bool}(hd:d≤401)(hσ:base≤σ.nf)(IH:∀j,j<k0→zlM G base x b j)
  (hs:∀(n:Int) (t:List UInt8) so' σ',so0.bind (fun s=>zp k0 d o [] s)=so'.map (fun s'=>((n,t),s'))→-(2^63)≤n→n<2^63→RwS base x b so' σ'→zae x σ σ'→R (.ret (.tuple [.int .i64 n,.str t])) σ')
  {a:Nat→AV} {τ:AS} (hI:LsD base x b d k0 o so0 σ a τ):avc yb5 G 89 zq (zaO (fun a' σ'=>LsD base x b d k0 o so0 σ a' σ'∧MBw x a' σ'<MBw x a τ) (zak 0 (zaO (avc yb5 G 89 zhz (zcJ yb5 [.tmp 6,.tmp 7] (Al.MrgOr R))) (zcJ yb5 [.tmp 6,.tmp 7] (Al.MrgOr R))))) a τ:=by
 obtain⟨k,l,so,he,hk,hsb,hlb,a0,a1,a2,hG,hR,hK,h401⟩:=hI
 obtain⟨atx,lvx,lsx,ho,lo,_⟩:=hR.opn
 cases so with
 | error e =>
  have hne:=hR.ne
  simp only[zcc]at ho
  simp[zq,a0,ho,lo,hne,zhz]
  exact .inl (hs 0 [] (.error e) _ (by rw[he];rfl) (by decide) (by decide) hR hK)
 | ok s =>
  simp only[zcc]at ho
  have hd4:d≤400:=by
   by_cases q:401≤d
   ·obtain⟨e,h⟩:=h401 q;cases h
   ·omega
  obtain⟨hsk,hsl⟩:=hsb s rfl
  obtain⟨k,rfl⟩:∃j,k=j+1:=⟨k-1,by omega⟩
  obtain⟨m0,m1,m2⟩:=zew hR a
  rw[zjc]
  simp[zb9,zq,zgp,zay,a0,ho,lo]
  refine zd6 hR fun t so1 σ1 g e1 e2 hR1 hK1=>?_
  have he1:so0.bind (fun s=>zp k0 d o [] s)=so1.bind fun s1=>if zeD d o t=true then .ok (((s1.ls.length:Int),t),{ s1 with ls:=s1.ls++[l] })else(zan (fun d o s=>zp k d o [] s) t d s1).bind fun q=>zp k d o (l++[q.1]) q.2:=by
   rw[he]
   simp only[Except.bind]
   rw[zp,show zY s=_ from g]
   cases so1<;>rfl
  have hKK:=hK.trans hK1.r
  have hG1:=hG.keep hK1.r
  have g1:=hG1.one
  by_cases hc:zeD d o t=true
  ·obtain⟨s1,rfl⟩:∃s1,so1=.ok s1:=by
    cases so1 with
    | error e =>
     have:=e1 e rfl
     subst this
     revert hc
     unfold zeD
     simp[zb7,zi,za2]
    | ok s1=>exact⟨s1,rfl⟩
   have he2:so0.bind (fun s=>zp k0 d o [] s)=.ok (((s1.ls.length:Int),t),{ s1 with ls:=s1.ls++[l] }):=by rw[he1];simp only[Except.bind,if_pos hc]
   obtain⟨_,q1,q2,q3⟩:=zcP g rfl rfl
   have ht1:1≤t.length:=ybm.2 q2
   obtain⟨at1,lv1,ls1,ho1,l1,hto1,hle1,hl1,hm1,hq⟩:=hR1.opn
   obtain⟨m3,m4⟩:=hm1 s1 rfl
   subst m4
   simp only[zcc]at ho1 hq
   have hlen:s1.ls.length≤2^15:=by rw[q3];omega
   have wl:yb3 .i64 (s1.ls.length:Int)=(s1.ls.length:Int):=by rw[wrap_i64]<;>omega
   have fin:∀τ':AS,∀tos g,All2 Al.RepE tos s1.ls→(∀f,zaj σ1 x f→f=g)→τ'.objs=upd σ1.objs x (some [.str b,.int .i64 (at1:Int),.int .i64 0,.sl (.fam σ1.nf false) 1 (tos++[a 8])])→τ'.no=σ1.no→τ'.nf=σ1.nf+1→τ'.F σ1.nf=.alive→(∀f,f<σ1.nf→¬zaj σ1 x f→τ'.F f=σ1.F f) →
     Al.MrgOr R (.ret (.tuple [.int .i64 (s1.ls.length:Int),.str t])) τ':=fun τ' tos g t1 t2 t3 t4 t5 t6 t7 =>
    RwS.push hR1 hq m3 t1 hG1 hσ t3 t4 t5 t6 t7 hKK t2 (by intro f;simp) fun σ' r1 r2=>hs _ t _ σ' (by rw[he2];rfl) (by omega) (by omega) r1 r2
   have hcc:(t=[101,110,100]∧(0:Int)<(d:Int)∧0<d)∨(t=[41]∧d=0)∨(t=[101,108,115,101]∧o=true):=by
    unfold zeD at hc
    simp only[Bool.or_eq_true,Bool.and_eq_true,decide_eq_true_eq]at hc
    rcases hc with ⟨h,h'⟩|⟨h,h'⟩|⟨h,h'⟩
    ·exact .inl ⟨h,by omega,h'⟩
    ·exact .inr (.inl ⟨h,h'⟩)
    ·exact .inr (.inr ⟨h,h'⟩)
   rw[znD]
   rcases hto1 with ⟨hl0,rfl⟩|⟨gf,tos,rfl,t1,t2,t3,t4⟩
   ·have key:=fin ((σ1.newF).setO x [.str b,.int .i64 (at1:Int),.int .i64 0,.sl (.fam σ1.nf false) 1 ([]++[a 8])]) [] 0 (by rw[hl0];exact .nil) (fun f ⟨cs,v,u1,u2,u3⟩=>by rw[ho1]at u1;cases u1;simp at u2;subst u2;cases u3) (by simp) (by simp) (by simp) (by simp) (fun f h1 h2=>by
     have:¬f=σ1.nf:=by omega
     simp[this])
    rw[hl0]at key
    have wz:yb3 .i64 0=0:=rfl
    rcases hcc with ⟨h1,h2,h3⟩|⟨h1,h2⟩|⟨h1,h2⟩
    ·subst h1
     simp[zb9,zlO,zq,zgp,zay,a0,a1,a2,ho1,g1,splice,h2,h3,wz]
     simpa using key
    ·subst h1 h2
     simp[zb9,zlO,zq,zgp,zay,a0,a1,a2,ho1,g1,splice,wz]
     simpa using key
    ·subst h1 h2
     simp[zb9,zlO,zq,zgp,zay,a0,a1,a2,ho1,g1,splice,wz]
     simpa using key
   ·have tl:=t4.length
    have key:=fin (((σ1.setF gf .dead).newF).setO x [.str b,.int .i64 (at1:Int),.int .i64 0,.sl (.fam σ1.nf false) 1 (tos++[a 8])]) tos gf t4 (fun f ⟨cs,v,u1,u2,u3⟩=>by rw[ho1]at u1;cases u1;simp at u2;subst u2;simpa [zgj]using u3.symm) (by simp) (by simp) (by simp) (by simp) (fun f h1 h2=>by
     have:¬f=σ1.nf:=by omega
     have:¬f=gf:=fun e=>h2 ⟨_,_,ho1,rfl,by rw[e];rfl⟩
     simp[*])
    rcases hcc with ⟨h1,h2,h3⟩|⟨h1,h2⟩|⟨h1,h2⟩
    ·subst h1
     simp[zb9,zlO,zq,zgp,zay,a0,a1,a2,ho1,g1,splice,h2,h3,t3,tl,wl]
     refine⟨by omega,?_⟩
     simpa using key
    ·subst h1 h2
     simp[zb9,zlO,zq,zgp,zay,a0,a1,a2,ho1,g1,splice,t3,tl,wl]
     refine⟨by omega,?_⟩
     simpa using key
    ·subst h1 h2
     simp[zb9,zlO,zq,zgp,zay,a0,a1,a2,ho1,g1,splice,t3,tl,wl]
     refine⟨by omega,?_⟩
     simpa using key
  ·have hcf:zeD d o t=false:=by simpa using hc
   simp only[if_neg hc]at he1
   have hb1:∀s1,so1=.ok s1→s1.b.length<k∧s1.ls.length+s1.b.length≤2^15∧s1.b.length+1≤s.b.length:=fun s1 q=>by
    obtain⟨_,q1,q2,q3⟩:=zcP g rfl q
    have:1≤t.length:=ybm.2 q2
    rw[q3]
    exact⟨by omega,by omega,by omega⟩
   have hlb1:l.length+1+zd7 so1≤2^15:=by
    have:zd7 so1+1≤zd7 (.ok s):=by
     cases so1 with
     | error e=>simp[zd7]
     | ok s1=>have:=(hb1 s1 rfl).2.2;simp[zd7];omega
    omega
   have close:∀(Q:AQ),(∀a' τ',LsD base x b d k0 o so0 σ a' τ'→MBw x a' τ'<MBw x a τ→Q .normal a' τ'∧Q (.exit 1) a' τ')→ClQ base x b σ l d o so1 (zan (fun d o s=>zp k d o [] s) t d) Q:=fun Q hQ w so2 a' τ' h1 b0 b1 b2 h2 h3 h4=>by
    have hin:∀s2,so2=.ok s2→∃s1,so1=.ok s1∧s2.ls.length+s2.b.length≤s1.ls.length+s1.b.length∧s2.b.length≤s1.b.length:=fun s2 e=>by
     subst e
     cases so1 with
     | error e=>cases h1
     | ok s1 =>
      have hx:=zfO (fun d o s r s' q=>zb3 k d o [] s r s' q) (show zan (fun d o s=>zp k d o [] s) t d s1=.ok (w,s2) from h1)
      exact⟨s1,rfl,hx.2,hx.1⟩
    have hleft:zd7 so2≤zd7 so1:=by
     cases so2 with
     | error e=>simp[zd7]
     | ok s2 =>
      obtain⟨s1,rfl,y1,y2⟩:=hin s2 rfl
      simp only[zd7]
      omega
    refine hQ a' τ' ⟨k,l++[w],so2,?_,by omega,fun s2 e=>?_,by simp;omega,b0,b1,b2,by simpa using h2,h3,h4,fun q=>by omega⟩ ?_
    ·rw[he1]
     have:(so1.bind fun s1=>(zan (fun d o s=>zp k d o [] s) t d s1).bind fun q=>zp k d o (l++[q.1]) q.2)=(so1.bind (zan (fun d o s=>zp k d o [] s) t d)).bind fun q=>zp k d o (l++[q.1]) q.2:=by cases so1<;>rfl
     rw[this,h1]
     cases so2<;>rfl
    ·obtain⟨s1,rfl,y1,y2⟩:=hin s2 e
     obtain⟨y3,y4,y5⟩:=hb1 s1 rfl
     exact⟨by omega,by omega⟩
    ·cases so2 with
     | error e =>
      rw[zj0 h3,m0]
      omega
     | ok s2 =>
      obtain⟨s1,rfl,y1,y2⟩:=hin s2 rfl
      obtain⟨y3,y4,y5⟩:=hb1 s1 rfl
      obtain⟨n0,n1,n2⟩:=zew h3 a'
      rw[n0,m0]
      omega
   rw[znD]
   have fin:∀(Q:AQ) (a':Nat→AV),(∀a' τ',LsD base x b d k0 o so0 σ a' τ'→MBw x a' τ'<MBw x a τ→Q .normal a' τ'∧Q (.exit 1) a' τ')→a' 0=.ptr x 0→a' 1=.int .i64 (d:Int)→a' 2=.bool o→a' 8=a 8→a' 9=.str t→avc yb5 G 89 zlN Q a' σ1:=fun Q a' hQ b0 b1 b2 b8 b9 =>
    zw2 b0 b1 b2 b9 hd4 (fun s1 q=>⟨(hb1 s1 q).1,(hb1 s1 q).2.1⟩) (IH k (by omega)) hR1 (by rw[b8];exact hG1) hKK hσ (by omega) (close Q hQ)
   rcases zlP hcf with ⟨q1,q2⟩|⟨n1,q2,q3⟩|⟨n1,n2,q3,q4⟩|⟨n1,n2,n3⟩
   ·subst q1 q2
    simp[zb9,zlO,zq,zgp,zay,a0,a1,a2,zb7]
    refine fin _ _ (fun a' τ' h1 h2=>⟨⟨h1,h2⟩,?_⟩) (by simp[a0]) (by simp[a1]) (by simp[a2]) (by simp) (by simp[zb7])
    simp[zak,zaO]
    exact⟨h1,h2⟩
   ·subst q2
    have q3':¬(d:Int)=0:=by omega
    simp[zb9,zlO,zq,zgp,zay,a0,a1,a2,zi,q3,q3']
    refine fin _ _ (fun a' τ' h1 h2=>⟨⟨h1,h2⟩,?_⟩) (by simp[a0]) (by simp[a1]) (by simp[a2]) (by simp) (by simp[zi])
    simp[zak,zaO]
    exact⟨h1,h2⟩
   ·subst q3 q4
    simp[zb9,zlO,zq,zgp,zay,a0,a1,a2,za2]
    refine fin _ _ (fun a' τ' h1 h2=>⟨⟨h1,h2⟩,?_⟩) (by simp[a0]) (by simp[a1]) (by simp[a2]) (by simp) (by simp[za2])
    simp[zak,zaO]
    exact⟨h1,h2⟩
   ·have n1':¬t=[101,110,100]:=n1
    have n2':¬t=[41]:=n2
    have n3':¬t=[101,108,115,101]:=n3
    simp[zb9,zlO,zq,zgp,zay,a0,a1,a2,n1',n2',n3']
    refine fin _ _ (fun a' τ' h1 h2=>⟨⟨h1,h2⟩,?_⟩) (by simp[a0]) (by simp[a1]) (by simp[a2]) (by simp) (by simp)
    simp[zak,zaO]
    exact⟨h1,h2⟩
theorem zk5{G:Env}{base x b}:∀k j:Nat,j≤k→zlM G base x b j
 | k,j,hj=>by
  have IH:∀i,i<j→zlM G base x b i:=fun i hi=>zk5 (k-1) i (by omega)
  intro σ R d o so hd h401 h hb hs
  refine Al.merging (zoX rfl ?_)
  have hl:zd7 so≤2^15:=by
   cases so with
   | error e=>simp[zd7]
   | ok s=>have:=h.len;simp[zd7];omega
  simp[zvm]
  refine zK (LsD base x b d j o so σ) (MBw x) ⟨j,[],so,rfl,yah _,hb,by simpa using hl,by simp,by simp,by simp,.inl ⟨rfl,by simp⟩,h,.refl ..,h401⟩ fun a τ hI=>?_
  exact zlQ hd h.base_le IH hs hI
termination_by k j=>j
end
structure zbr(x:Nat)(σ σ':AS):Prop where
 no:σ.no≤σ'.no
 nf:σ.nf≤σ'.nf
 obj:∀o,o<σ.no→o≠x→σ'.objs o=σ.objs o
 fam:∀f,f<σ.nf→σ'.F f=σ.F f
theorem zbr.trans{x σ σ1 σ2}(h:zbr x σ σ1)(h':zbr x σ1 σ2):zbr x σ σ2 where
 no:=yai h.no h'.no
 nf:=yai h.nf h'.nf
 obj o a b:=by rw[h'.obj o (yag a h.no) b,h.obj o a b]
 fam f a:=by rw[h'.fam f (yag a h.nf),h.fam f a]
theorem zE.c{x σ σ'}(h:zE x σ σ'):zbr x σ σ':=⟨h.no,h.nf,h.obj,h.fam⟩
theorem zae.c{x σ σ'}(h:zae x σ σ')(hu:∀f,¬zaj σ x f):zbr x σ σ':=⟨h.no,h.nf,h.obj,fun f a=>h.fam f a (hu f)⟩
theorem zbr.setO{x σ τ o cs}(h:zbr x σ τ)(ho:o=x∨σ.no≤o):zbr x σ (τ.setO o cs) where
 no:=h.no
 nf:=h.nf
 obj p a b:=by
  have:¬p=o:=by rcases ho with h|h<;>omega
  simp[this]
  exact h.obj p a b
 fam:=h.fam
theorem Rd.keepC{x:Nat}{σ σ':AS}{φ:Go.Abs.Own}(h:Al.Rd σ φ)(K:zbr x σ σ'):Al.Rd σ' φ:=by
 cases φ with
 | stat b=>exact trivial
 | fam f b =>
  obtain⟨h1,h2⟩:=h
  exact⟨yag h1 K.nf,(K.fam f h1).trans h2⟩
theorem IntsO.keepC{x:Nat}{σ σ':AS}{v l}(h:Al.IntsO σ v l)(K:zbr x σ σ'):Al.IntsO σ' v l:=by
 rcases h with h|⟨φ,h1,h2⟩
 ·exact .inl h
 ·exact .inr ⟨φ,h1,Rd.keepC h2 K⟩
theorem RepO.keepC{x:Nat}{σ σ':AS}{v l}(h:Al.RepO σ v l)(K:zbr x σ σ'):Al.RepO σ' v l:=by
 rcases h with h|⟨φ,h1,h2⟩
 ·exact .inl h
 ·exact .inr ⟨φ,h1,Rd.keepC h2 K⟩
theorem LstO.keepC{x:Nat}{σ σ':AS}{v l}(h:Al.LstO σ v l)(K:zbr x σ σ'):Al.LstO σ' v l:=by
 rcases h with h|⟨φ,rows,h1,h2,h3⟩
 ·exact .inl h
 ·exact .inr ⟨φ,rows,h1,Rd.keepC h2 K,Al.all2_mono h3 fun _ _ q=>RepO.keepC q K⟩
theorem FVO.keepC{x:Nat}{σ σ':AS}{v f}(h:Al.FVO σ v f)(K:zbr x σ σ'):Al.FVO σ' v f:=by
 obtain⟨pv,lv,tv,e,h1,h2,h3⟩:=h
 exact⟨pv,lv,tv,e,IntsO.keepC h1 K,IntsO.keepC h2 K,LstO.keepC h3 K⟩
theorem zs1{base σ v ls}(h:ToR base σ v ls)(h0:0<σ.nf∧σ.F 0=.alive):Al.LstO σ v ls:=by
 rcases h with h|⟨g,tos,h1,h2,h3,h4,h5⟩
 ·exact .inl h
 ·exact .inr ⟨_,tos,h1,⟨h3,h4⟩,Al.all2_mono h5 fun _ _ q=>Al.rep_e h0 q⟩
theorem zp2{v:AV}{l l':List W}(h:Al.RepE v l)(h':Al.RepE v l'):l=l':=by
 have inj:∀{a b:List W},a.map W.av=b.map W.av→a=b:=fun {a}=>by
  induction a with
  | nil=>intro b e;cases b<;>simp at e;rfl
  | cons x a ih =>
   intro b e
   cases b with
   | nil=>simp at e
   | cons y b =>
    simp only[yaL,yc4.injEq]at e
    obtain⟨e1,e2⟩:=e
    have:x=y:=by
     obtain⟨a1,a2,a3,a4,a5,a6⟩:=x
     obtain⟨b1,b2,b3,b4,b5,b6⟩:=y
     simp[W.av,W.cs]at e1
     simp[e1]
    rw[this,ih e2]
 rcases h with ⟨rfl,rfl⟩|⟨b,rfl⟩
 ·rcases h' with ⟨rfl,_⟩|⟨b',e⟩
  ·rfl
  ·cases e
 ·rcases h' with ⟨_,e⟩|⟨b',e⟩
  ·cases e
  ·simp only[AV.sl.injEq,true_and]at e
   exact inj e.2
theorem zp3{tos:List AV}{ls ls':To}(h:All2 Al.RepE tos ls)(h':All2 Al.RepE tos ls'):ls=ls':=by
 induction h generalizing ls' with
 | nil=>cases h';rfl
 | cons a _ ih =>
  cases h' with
  | cons a' b'=>rw[zp2 a a',ih b']
theorem zs2{base base' σ σ' v ls ls'}(h:ToR base σ v ls)(h':ToR base' σ' v ls'):ls=ls':=by
 rcases h with ⟨rfl,rfl⟩|⟨g,tos,rfl,_,_,_,h5⟩
 ·rcases h' with ⟨rfl,_⟩|⟨g',tos',e,_⟩
  ·rfl
  ·cases e
 ·rcases h' with ⟨_,e⟩|⟨g',tos',e,_,_,_,h5'⟩
  ·cases e
  ·simp only[AV.sl.injEq,true_and]at e
   obtain⟨_,rfl⟩:=e
   exact zp3 h5 h5'
theorem RwS.zero{base x b so σ}(h:RwS base x b so σ):0<σ.nf∧σ.F 0=.alive:=by
 obtain⟨_,_,_,_,h,_⟩:=h
 exact⟨by have:=h.hb;omega,h.h0⟩
def zq7(so:Res Ts):Res Ts:=so.map fun s=>{ s with ls:=[] }
theorem RwS.clear{base x b so σ}(h:RwS base x b so σ):∃(at_:Nat) (lv:AV),σ.objs x=some [.str b,.int .i64 (at_:Int),.int .i64 (zcc so),lv]∧(lv.known=true∧lv.one=true∧lv.cells=[lv]) ∧
  RwS base x b (zq7 so) (σ.setO x [.str b,.int .i64 (at_:Int),.int .i64 (zcc so),.nilsl])∧(∀f,¬zaj (σ.setO x [.str b,.int .i64 (at_:Int),.int .i64 (zcc so),.nilsl]) x f):=by
 obtain⟨at_,e,lv,ls,h,hm⟩:=h
 have he:e=zcc so:=by
  cases so with
  | error e'=>exact hm.1
  | ok s=>exact hm.1
 subst he
 refine⟨at_,lv,h.cells,h.tor.one,⟨at_,zcc so,.nilsl,[],⟨h.hx,h.hb,h.h0,h.le,h.hl,.inl ⟨rfl,rfl⟩,by simp⟩,?_⟩,fun f u=>?_⟩
 ·cases so with
  | error e'=>exact hm
  | ok s=>exact⟨rfl,hm.2.1,rfl⟩
 ·obtain⟨cs,v,h1,h2,h3⟩:=u
  simp at h1
  subst h1
  simp at h2
  subst h2
  cases h3
def zp4:PC:=zay (zay (zay (zay (zay (zay zkm)))))
def zq8:PC:=zay zp4
def zq9:PC:=zay zq8
def zBn:PC:=zay zq9
abbrev zF:List AV:=[.str [],.nilsl,.nilsl,.int .i64 0,.nilsl]
structure FnD(base x:Nat)(b:List UInt8)(ro fo:Nat)(σ0:AS)(so:Res Ts)(nm:List UInt8)(pv lv:AV)(ty:Int)(τ:AS):Prop where
 rs:RwS base x b so τ
 ks:zE x σ0 τ
 fx:¬x=fo
 rx:¬x=ro
 f0:σ0.no≤fo
 r0:σ0.no≤ro
 lt:fo<τ.no
 lr:ro<τ.no
 ne:¬ro=fo
 ob:τ.objs fo=some [.str nm,pv,lv,.int .i64 ty,.nilsl]
 rb:τ.objs ro=some zF
def zj4(R:Out→AS→Prop)(base x:Nat)(b:List UInt8)(σ0:AS)(so:Res Ts)(g:Ts→Res (F × Ts)):Prop:=∀(f:F) (v:AV) so' σ',zb4 so g f so'→(∀g',base≤g'→¬zaj σ' x g'→Al.FVO (σ'.setF g' .dead) v f)→RwS base x b so' σ'→zbr x σ0 σ'→(∀h,h<σ0.nf→zaj σ' x h→zaj σ0 x h)→R (.ret v) σ'
section
variable {G : Env} {R : Out → AS → Prop}
theorem FnD.keep{base x b ro fo σ0 so so' nm pv lv ty τ τ'}(hF:FnD base x b ro fo σ0 so nm pv lv ty τ)(hW:RwS base x b so' τ')(K:zE x τ τ'):FnD base x b ro fo σ0 so' nm pv lv ty τ' :=
 ⟨hW,hF.ks.trans K,hF.fx,hF.rx,hF.f0,hF.r0,yag hF.lt K.no,yag hF.lr K.no,hF.ne,(K.obj fo hF.lt fun q=>hF.fx q.symm).trans hF.ob,(K.obj ro hF.lr fun q=>hF.rx q.symm).trans hF.rb⟩
theorem FnD.set{base x b ro fo σ0 so nm pv lv ty τ nm' pv' lv' ty'}(hF:FnD base x b ro fo σ0 so nm pv lv ty τ):FnD base x b ro fo σ0 so nm' pv' lv' ty' (τ.setO fo [.str nm',pv',lv',.int .i64 ty',.nilsl]) :=
 ⟨hF.rs.other hF.fx,hF.ks.other hF.f0 hF.fx,hF.fx,hF.rx,hF.f0,hF.r0,hF.lt,hF.lr,hF.ne,by simp,by simp[hF.ne,hF.rb]⟩
theorem znE{base x b ro fo σ0 so nm pv lv ty τ P L}{a:Nat→AV}(hF:FnD base x b ro fo σ0 so nm pv lv ty τ)(hp:Al.IntsE pv P)(hl:Al.IntsE lv L)(a0:a 0=.ptr x 0)(a2:a 2=.ptr ro 0)(a3:a 3=.ptr fo 0)
  (hs:zj4 R base x b σ0 so (zi2 nm P L ty)):avc yb5 G 69 zBn (zcJ yb5 [.cell 2 57] R) a τ:=by
 have p1:=hp.one
 have l1:=hl.one
 obtain⟨at_,lv0,ho,lo,hR1,hu⟩:=hF.rs.clear
 have fx:=hF.fx
 have rx:=hF.rx
 have hne:=hF.ne
 have fx':¬fo=x:=fun q=>fx q.symm
 have rx':¬ro=x:=fun q=>rx q.symm
 have hne':¬fo=ro:=fun q=>hne q.symm
 have of1:(τ.setO x [.str b,.int .i64 (at_:Int),.int .i64 (zcc so),.nilsl]).objs fo=some [.str nm,pv,lv,.int .i64 ty,.nilsl]:=by simp[fx',hF.ob]
 have rf1:(τ.setO x [.str b,.int .i64 (at_:Int),.int .i64 (zcc so),.nilsl]).objs ro=some zF:=by simp[rx',hF.rb]
 have K1:zbr x σ0 (τ.setO x [.str b,.int .i64 (at_:Int),.int .i64 (zcc so),.nilsl]):=hF.ks.c.setO (.inl rfl)
 have lt1:fo<(τ.setO x [.str b,.int .i64 (at_:Int),.int .i64 (zcc so),.nilsl]).no:=hF.lt
 have lr1:ro<(τ.setO x [.str b,.int .i64 (at_:Int),.int .i64 (zcc so),.nilsl]).no:=hF.lr
 simp[zBn,zq9,zq8,zp4,zay,zkm,a0,a2,a3,ho,lo,splice]
 generalize τ.setO x [.str b,.int .i64 (at_:Int),.int .i64 (zcc so),.nilsl]=τ1 at *
 obtain⟨k,hk⟩:∃k,∀s,so=.ok s→k=s.b.length+1:=by
  cases so with
  | error e=>exact⟨0,fun s q=>by cases q⟩
  | ok s=>exact⟨_,fun s' q=>by cases q;rfl⟩
 have hsl:∀s,so=.ok s→s.b.length≤2^14:=fun s q=>by
  have h:=hF.rs
  rw[q]at h
  have:=h.len
  omega
 refine zk5 k k (yah _) τ1 _ 0 false (zq7 so) (by omega) (by omega) hR1 (fun s q=>?_) fun n t so' σ' g _ _ hR2 hK2=>?_
 ·cases so with
  | error e=>cases q
  | ok s0 =>
   have:=hsl s0 rfl
   have:=hk s0 rfl
   cases q
   simp
   omega
 ·obtain⟨at2,lv2,ls2,ho2,lo2,ht2,_,_,hm2,hw2⟩:=hR2.opn
  have of2:=(hK2.obj fo lt1 fx').trans of1
  have rf2:=(hK2.obj ro lr1 rx').trans rf1
  simp[a0,a2,a3,ho2,lo2,of2,rf2,p1,l1,splice,fx,rx,hne,hne',fx',rx']
  have hz:=hR2.zero
  have KK:=(K1.trans (hK2.c hu)).setO (o:=fo) (cs:=[.str nm,pv,lv,.int .i64 ty,lv2]) (.inr hF.f0)
  refine hs ⟨nm,P,L,ty,ls2⟩ _ so' _ ?_ ?_ ((hR2.other fx).other rx) (KK.setO (.inr hF.r0)) (fun h hh u=>?_)
  ·unfold zb4
   cases so with
   | error e =>
    cases so' with
    | error e'=>cases g;rfl
    | ok s'=>cases g
   | ok s =>
    have g':zp k 0 false [] { s with ls:=[] }=so'.map fun s'=>((n,t),s'):=g
    show zi2 nm P L ty s=_
    unfold zi2
    rw[←hk s rfl,g']
    cases so' with
    | error e'=>rfl
    | ok s' =>
     have:=(hm2 s' rfl).2
     simp[Except.map,this]
  ·intro g' hg' hu'
   have hR3:=((hR2.other fx (cs:=[.str nm,pv,lv,.int .i64 ty,lv2])).other rx (cs:=[.str nm,pv,lv,.int .i64 ty,lv2])).endF hg' hu'
   have hz3:=hR3.zero
   obtain⟨at3,lv3,ls3,ho3,lo3,ht3,_,_,hm3,hw3⟩:=hR3.opn
   simp[fx,rx,ho2]at ho3
   obtain⟨_,rfl⟩:=ho3
   have hls:ls3=ls2:=zs2 ht3 ht2
   subst hls
   exact⟨pv,lv,lv2,rfl,Al.ints_e hz3 hp,Al.ints_e hz3 hl,zs1 ht3 hz3⟩
  ·have u2:zaj σ' x h:=by
    obtain⟨cs,v,q1,q2,q3⟩:=u
    exact⟨cs,v,by simpa [fx,rx]using q1,q2,q3⟩
   exact absurd (hK2.use h (yag hh K1.nf) u2) (hu h)
end
section
variable {G : Env} {R : Out → AS → Prop}
theorem zjd{w:List UInt8}{so:Res Ts}(hq:∀s,so=.ok s→zh7 w s=none):so.bind (zaQ w)=so.map fun s=>([],s):=by
 cases so with
 | error e=>rfl
 | ok s =>
  show zaQ w s=_
  unfold zaQ
  rw[hq s rfl]
  rfl
theorem zgV{w:List UInt8}{s s1:Ts}(hq:zh7 w s=some s1):zaQ w s=zex s1:=by
 unfold zaQ
 rw[hq]
 rfl
theorem zcQ{α β:Type}{so so1:Res Ts}{f:Ts→Res (α × Ts)}{a:α}{g:α→Ts→Res (β × Ts)}(h:zb4 so f a so1):(so.bind fun s=>(f s).bind fun q=>g q.1 q.2)=so1.bind (g a):=by
 have:(so.bind fun s=>(f s).bind fun q=>g q.1 q.2)=(so.bind f).bind fun q=>g q.1 q.2:=by cases so<;>rfl
 rw[this,h]
 cases so1<;>rfl
theorem zey{base x b σ0 so so1 g g1}(hs:zj4 R base x b σ0 so g)(h:so.bind g=so1.bind g1):zj4 R base x b σ0 so1 g1:=fun f v so' σ' q=>hs f v so' σ' (by unfold zb4 at q ⊢;rw[h];exact q)
theorem zfY{base x b ro fo σ0 so nm pv ty τ P}{a:Nat→AV}(hF:FnD base x b ro fo σ0 so nm pv .nilsl ty τ)(hp:Al.IntsE pv P)(a0:a 0=.ptr x 0)(a2:a 2=.ptr ro 0)(a3:a 3=.ptr fo 0)
  (hs:zj4 R base x b σ0 so (endF nm P ty)):avc yb5 G 69 zq9 (zcJ yb5 [.cell 2 57] R) a τ:=by
 have p1:=hp.one
 have eq:zq9=.seq (zb9 zq9) zBn:=rfl
 have hend:∀s,endF nm P ty s=(zaQ zbo s).bind fun q=>zi2 nm P q.1 ty q.2:=fun s=>rfl
 rw[eq]
 simp[zb9,zq9,zq8,zp4,zay,zkm,a0]
 refine zpV (w:=zbo) hF.rs (by decide) (fun q τ1 hW1 K1=>?_) (fun s s1 e q τ1 hW1 K1=>?_)
 ·simp
  refine znE (L:=[]) (hF.keep hW1 K1) hp (.inl ⟨rfl,.inl rfl⟩) (by simp[a0]) (by simp[a2]) (by simp[a3]) (zey hs ?_)
  have:=zcQ (g:=fun l s=>zi2 nm P l ty s) (show zb4 so (zaQ zbo) [] so from zjd q)
  exact this
 ·subst e
  have hF1:=hF.keep hW1 K1
  simp[a0]
  refine zj1 hW1 fun v l so2 τ2 g _ hv hW2 K2=>?_
  have hF2:=hF1.keep hW2 K2
  have v1:=hv.one
  have ob2:=hF2.ob
  simp[a0,a2,a3,ob2,splice,v1,p1]
  refine znE (L:=l) hF2.set hp hv (by simp[a0]) (by simp[a2]) (by simp[a3]) (zey hs ?_)
  have:=zcQ (g:=fun l s=>zi2 nm P l ty s) (show zb4 (.ok s) (zaQ zbo) l so2 from(zgV q).trans g)
  exact this
theorem znF{base x b ro fo σ0 so nm pv τ P}{a:Nat→AV}(hF:FnD base x b ro fo σ0 so nm pv .nilsl 0 τ)(hp:Al.IntsE pv P)(a0:a 0=.ptr x 0)(a2:a 2=.ptr ro 0)(a3:a 3=.ptr fo 0)
  (hs:zj4 R base x b σ0 so (zi1 nm P)):avc yb5 G 69 zq8 (zcJ yb5 [.cell 2 57] R) a τ:=by
 have p1:=hp.one
 have eq:zq8=.seq (zb9 zq8) zq9:=rfl
 have hres:∀s,zi1 nm P s=(zhI s).bind fun r=>endF nm P r.1 r.2:=fun s=>rfl
 rw[eq]
 simp[zb9,zq8,zp4,zay,zkm,a0]
 refine zpV (w:=zdX) hF.rs (by decide) (fun q τ1 hW1 K1=>?_) (fun s s1 e q τ1 hW1 K1=>?_)
 ·simp
  refine zfY (hF.keep hW1 K1) hp (by simp[a0]) (by simp[a2]) (by simp[a3]) (zey hs ?_)
  have hn:zb4 so zhI 0 so:=by
   unfold zb4
   cases so with
   | error e=>rfl
   | ok s =>
    show zhI s=_
    unfold zhI
    rw[q s rfl]
    rfl
  exact zcQ (g:=fun r s=>endF nm P r s) hn
 ·subst e
  have hF1:=hF.keep hW1 K1
  have hrw:zhI s=(zex s1).bind fun r=>if r.1.length=1 then .ok (r.1.headD 0,r.2)else .error 2:=by
   unfold zhI
   rw[q]
   rfl
  simp[a0]
  refine zj1 hW1 fun v l so2 τ2 g _ hv hW2 K2=>?_
  have hF2:=hF1.keep hW2 K2
  have v1:=hv.one
  have ob2:=hF2.ob
  have g':zex s1=so2.map fun s=>(l,s):=g
  have hz:=hW2.zero
  by_cases h1:l.length=1
  ·obtain⟨n,rfl⟩:=List.length_eq_one_iff.1 h1
   have hv':∃b,v=.sl (.fam 0 b) 1 [.int .i64 n]:=by
    rcases hv with ⟨h,_⟩|⟨b,h⟩
    ·cases h
    ·exact⟨b,h⟩
   obtain⟨b',rfl⟩:=hv'
   simp[a0,a2,a3,ob2,splice,hz,p1]
   refine zfY hF2.set hp (by simp[a0]) (by simp[a2]) (by simp[a3]) (zey hs ?_)
   have hn:zb4 (.ok s) zhI n so2:=by
    show zhI s=_
    rw[hrw,g']
    cases so2<;>rfl
   exact zcQ (g:=fun r s=>endF nm P r s) hn
  ·have bad:∀τ3,RwS base x b (zbK 2 so2) τ3→zE x τ2 τ3→∀a':Nat→AV,a' 0=.ptr x 0→a' 2=.ptr ro 0→a' 3=.ptr fo 0→avc yb5 G 69 zq9 (zcJ yb5 [.cell 2 57] R) a' τ3:=fun τ3 hR3 K3 a' b0 b2 b3=>by
    refine zfY (hF2.keep hR3 K3) hp b0 b2 b3 (zey hs ?_)
    show zi1 nm P s=_
    rw[hres,hrw,g']
    cases so2 with
    | error e=>rfl
    | ok s2 =>
     simp only[Except.map,Except.bind]
     rw[if_neg h1]
     rfl
   have h1i:¬(l.length:Int)=1:=by omega
   rcases hv with ⟨h,rfl|⟨b',rfl⟩⟩|⟨b',rfl⟩
   ·simp[a0,a2,a3]
    refine zah (c:=2) (by decide) hW2 fun τ3 hR3 K3=>?_
    simp
    exact bad τ3 hR3 K3 _ (by simp[a0]) (by simp[a2]) (by simp[a3])
   ·simp[a0,a2,a3]
    refine zah (c:=2) (by decide) hW2 fun τ3 hR3 K3=>?_
    simp
    exact bad τ3 hR3 K3 _ (by simp[a0]) (by simp[a2]) (by simp[a3])
   ·simp[a0,a2,a3,h1,h1i]
    refine zah (c:=2) (by decide) hW2 fun τ3 hR3 K3=>?_
    simp
    exact bad τ3 hR3 K3 _ (by simp[a0]) (by simp[a2]) (by simp[a3])
theorem zs3{base x b ro fo σ0 so nm τ}{a:Nat→AV}(hF:FnD base x b ro fo σ0 so nm .nilsl .nilsl 0 τ)(a0:a 0=.ptr x 0)(a2:a 2=.ptr ro 0)(a3:a 3=.ptr fo 0)
  (hs:zj4 R base x b σ0 so (zlF nm)):avc yb5 G 69 zp4 (zcJ yb5 [.cell 2 57] R) a τ:=by
 have eq:zp4=.seq (zb9 zp4) zq8:=rfl
 rw[eq]
 simp[zb9,zp4,zay,zkm,a0]
 refine zpV (w:=zbn) hF.rs (by decide) (fun q τ1 hW1 K1=>?_) (fun s s1 e q τ1 hW1 K1=>?_)
 ·simp
  refine znF (P:=[]) (hF.keep hW1 K1) (.inl ⟨rfl,.inl rfl⟩) (by simp[a0]) (by simp[a2]) (by simp[a3]) (zey hs ?_)
  exact zcQ (g:=fun l s=>zi1 nm l s) (show zb4 so (zaQ zbn) [] so from zjd q)
 ·subst e
  have hF1:=hF.keep hW1 K1
  simp[a0]
  refine zj1 hW1 fun v l so2 τ2 g _ hv hW2 K2=>?_
  have hF2:=hF1.keep hW2 K2
  have v1:=hv.one
  have ob2:=hF2.ob
  simp[a0,a2,a3,ob2,splice,v1]
  refine znF (P:=l) hF2.set hv (by simp[a0]) (by simp[a2]) (by simp[a3]) (zey hs ?_)
  exact zcQ (g:=fun l s=>zi1 nm l s) (show zb4 (.ok s) (zaQ zbn) l so2 from(zgV q).trans g)
theorem zj5{base x b so σ}(h:RwS base x b so σ)(hs:zj4 R base x b σ so (zC 24)):zzQ G 72 [.ptr x 0] σ R:=by
 refine zsd rfl ?_
 have hx:=h.hx
 obtain⟨at0,lv0,ls0,ho0,_⟩:=h.opn
 have eq:zkm=.seq (zb9 zkm) (.seq (zb9 (zay zkm)) (.seq (zb9 (zay (zay zkm))) (.seq (zb9 (zay (zay (zay zkm)))) (.seq (zb9 (zay (zay (zay (zay zkm))))) (.seq (zb9 (zay (zay (zay (zay (zay zkm)))))) zp4))))):=rfl
 rw[eq]
 have A:zf σ ((σ.newO zF).newO zF):=(zf.refl σ).newO.newO
 have hR1:=h.adds A
 have K1:=A.keepP hx ho0
 have e1:((σ.newO zF).newO zF).objs σ.no=some zF:=by simp
 have e2:((σ.newO zF).newO zF).objs (σ.no+1)=some zF:=by simp
 have n1:((σ.newO zF).newO zF).no=σ.no+2:=by simp
 simp[zb9,zay,zkm]
 generalize (σ.newO zF).newO zF=σ1 at *
 refine zd6 hR1 fun t so1 σ2 g q1 q2 hR2 K2=>?_
 have K12:=K1.trans K2
 have f2:=(K2.obj σ.no (by omega) (by omega)).trans e1
 have r2:=(K2.obj (σ.no+1) (by omega) (by omega)).trans e2
 have n2:=K2.no
 obtain⟨at1,lv1,ls1,ho1,lo1,_⟩:=hR2.opn
 have hfn:so.bind (zC 24)=so1.bind fun s=>if t.head?=some 36∧zdL 24 t.tail=true then zlF t.tail s else .error 2:=by
  have:so.bind (zC 24)=(so.bind zY).bind fun p=>if p.1.head?=some 36∧zdL 24 p.1.tail=true then zlF p.1.tail p.2 else .error 2:=by cases so<;>rfl
  rw[this,show so.bind zY=_ from g]
  cases so1<;>rfl
 have hne1:¬σ.no=σ.no+1:=by omega
 -- nothing is read
 have none:∀e τ,so.bind (zC 24)=.error e→RwS base x b (.error e) τ→zE x σ2 τ→R (.ret (.agg zF)) (τ.setO σ.no zF):=fun e τ q hR K=>by
  refine hs ⟨[],[],[],0,[]⟩ (.agg zF) (.error e) _ (by unfold zb4;rw[q];rfl) (fun _ _ _=>⟨_,_,_,rfl,.inl ⟨rfl,rfl⟩,.inl ⟨rfl,rfl⟩,.inl ⟨rfl,rfl⟩⟩) (hR.other (by omega)) ((K12.trans K).c.setO (.inr (yah _))) (fun h hh u=>(K12.trans K).r.use h hh (by
   obtain⟨cs,v,u1,u2,u3⟩:=u
   exact⟨cs,v,by simpa [show ¬x=σ.no by omega]using u1,u2,u3⟩))
 cases so1 with
 | error e =>
  have hne:=hR2.ne
  simp only[zcc]at ho1
  simp[ho1,lo1,hne,f2,r2,splice]
  exact none e σ2 (by rw[hfn];rfl) hR2 (.refl ho1)
 | ok s =>
  simp only[zcc]at ho1
  have ht:=q2 s rfl
  obtain⟨c,r,rfl⟩:∃c r,t=c::r:=by
   cases t with
   | nil=>exact absurd rfl ht
   | cons c r=>exact⟨c,r,rfl⟩
  have e36:=zbJ c 36 (by omega)
  have hfn2:so.bind (zC 24)=if c=36∧zdL 24 r=true then zlF r s else .error 2:=by
   rw[hfn]
   simp only[Except.bind,List.head?_cons,ycW,yaR.injEq]
  have wrong:(¬(c=36∧zdL 24 r=true))→∀τ,RwS base x b (zbK 2 (.ok s)) τ→zE x σ2 τ→R (.ret (.agg zF)) (τ.setO σ.no zF):=fun q τ hR K=>none 2 τ (by rw[hfn2,if_neg q]) hR K
  by_cases hc:(c.toNat:Int)=36
  ·simp[ho1,lo1,hc]
   refine⟨by omega,zwV ?_⟩
   by_cases htg:zdL 24 r=true
   ·have hF:FnD base x b σ.no (σ.no+1) σ (.ok s) [] .nilsl .nilsl 0 σ2:=⟨hR2,K12,by omega,by omega,by omega,yah _,by omega,by omega,hne1,r2,f2⟩
    simp[htg,ho1,lo1,r2,splice]
    refine⟨by omega,zs3 (hF.set (nm':=r)) (by simp) (by simp) (by simp) (zey hs ?_)⟩
    rw[hfn2,if_pos ⟨e36.2 hc,htg⟩]
    rfl
   ·have htg':zdL 24 r=false:=by simpa using htg
    simp[htg']
    refine zah (c:=2) (by decide) hR2 fun σ3 hR3 K3=>?_
    obtain⟨at3,lv3,ls3,ho3,lo3,_⟩:=hR3.opn
    simp only[zbK,zcc]at ho3
    have f3:=(K3.obj σ.no (by omega) (by omega)).trans f2
    have r3:=(K3.obj (σ.no+1) (by omega) (by omega)).trans r2
    simp[ho3,lo3,f3,r3,splice]
    exact wrong (fun q=>htg q.2) σ3 hR3 K3
  ·simp[ho1,lo1,hc]
   refine zah (c:=2) (by decide) hR2 fun σ3 hR3 K3=>?_
   obtain⟨at3,lv3,ls3,ho3,lo3,_⟩:=hR3.opn
   simp only[zbK,zcc]at ho3
   have f3:=(K3.obj σ.no (by omega) (by omega)).trans f2
   have r3:=(K3.obj (σ.no+1) (by omega) (by omega)).trans r2
   simp[ho3,lo3,f3,r3,splice]
   exact wrong (fun q=>hc (e36.1 q.1)) σ3 hR3 K3
end
def zje:List UInt8:=zaI++[32]
def zdJ:List Nat:=[0,1,8,10,17,23,28,30,35,37,44,48,50,52,54,56,63,69,75,77,82,84,90,94,96,98,100,102,109,115,122,124,129,131,137,141,143,145,147,149,156,158,160,162,169,173,175,185]
theorem zjf:∀i:Fin 47,zcV (zje.drop (zdJ.getD i 0))=some (zaX.getD i [],zje.drop (zdJ.getD (i+1) 0))∧zdJ.getD (i+1) 0≤185:=by decide +kernel
theorem znG:zcV (zje.drop (zdJ.getD 47 0))=none:=by decide +kernel
theorem zbL:zje.length=186:=by rfl
theorem zfZ:zaX.length=47:=by rfl
theorem zp5:∀t∈zaX,t≠[]:=by decide
def LwG(σ τ:AS)(v:AV)(l:List (List UInt8)):Prop:=(l=[]∧v=.nilsl)∨∃g,v=.sl (.fam g false) 1 (l.map yce)∧σ.nf≤g∧g<τ.nf∧τ.F g=.alive
theorem LwG.one{σ τ v l}(h:LwG σ τ v l):v.known=true∧v.one=true∧v.cells=[v]:=by rcases h with ⟨_,rfl⟩|⟨b,rfl,_⟩<;>simp
theorem zp6{σ τ:AS}{v:AV}{l:List (List UInt8)}{t:List UInt8}{el:Option TypeId}{sz:Nat}{K:AV→AS→Prop}(hv:LwG σ τ v l)(A:zf σ τ)(hl:(l.length+1)*sz≤2^47)(h:∀v' τ',LwG σ τ' v' (l++[t])→zf σ τ'→τ'.objs=τ.objs→τ'.no=τ.no→K v' τ'):zcb el sz 1 v [.str t] τ K:=by
 have hn:=A.nf
 rcases hv with ⟨rfl,rfl⟩|⟨g,rfl,g1,g2,g3⟩
 ·have:=h (.sl (.fam τ.nf false) 1 [.str t]) τ.newF (.inr ⟨_,rfl,hn,by simp,by simp⟩) A.newF (by simp) (by simp)
  simp at hl
  simp
  first|exact this|exact⟨by omega,this⟩
 ·have:=h (.sl (.fam τ.nf false) 1 ((l++[t]).map yce)) (τ.setF g .dead).newF (.inr ⟨_,rfl,by simpa using hn,by simp,by simp⟩) ⟨A.no,by simp;omega,A.obj,fun f hf=>by
   have e1:¬f=τ.nf:=by omega
   have e2:¬f=g:=by omega
   simp[e1,e2]
   exact A.fam f hf⟩ (by simp) (by simp)
  simp at this
  simp[g3]
  first|exact this|exact⟨by omega,this⟩
def HeI(σ:AS)(b:List UInt8)(a:Nat→AV)(τ:AS):Prop:=∃i:Nat,i≤47∧a 0=.str b∧a 2=.ptr σ.no 0∧a 4=.ptr (σ.no+1) 0∧LwG σ τ (a 5) (zaX.take i)∧zf σ τ∧τ.objs σ.no=some [.nilsl,.int .i64 0,.int .i64 0]∧τ.objs (σ.no+1)=some [.str zje,.int .i64 ((zdJ.getD i 0:Nat):Int),.int .i64 0,.nilsl]∧σ.no+2≤τ.no
theorem Rd.undead{τ:AS}{φ:Go.Abs.Own}{g:Nat}(h:Al.Rd (τ.setF g .dead) φ):Al.Rd τ φ:=by
 cases φ with
 | stat b=>exact trivial
 | fam f b =>
  obtain⟨h1,h2⟩:=h
  refine⟨h1,?_⟩
  by_cases e:f=g
  ·subst e;simp at h2
  ·simpa [e]using h2
theorem FVO.undead{τ:AS}{v f g}(h:Al.FVO (τ.setF g .dead) v f):Al.FVO τ v f:=by
 obtain⟨pv,lv,tv,e,h1,h2,h3⟩:=h
 refine⟨pv,lv,tv,e,?_,?_,?_⟩
 ·rcases h1 with h|⟨φ,q1,q2⟩
  ·exact .inl h
  ·exact .inr ⟨φ,q1,Rd.undead q2⟩
 ·rcases h2 with h|⟨φ,q1,q2⟩
  ·exact .inl h
  ·exact .inr ⟨φ,q1,Rd.undead q2⟩
 ·rcases h3 with h|⟨φ,rows,q1,q2,q3⟩
  ·exact .inl h
  ·refine .inr ⟨φ,rows,q1,Rd.undead q2,Al.all2_mono q3 fun _ _ q=>?_⟩
   rcases q with h|⟨φ,q1,q2⟩
   ·exact .inl h
   ·exact .inr ⟨φ,q1,Rd.undead q2⟩
def zlR(base x:Nat)(τ:AS)(v:AV)(l:List F):Prop:=(l=[]∧v=.nilsl)∨∃g rows,v=.sl (.fam g false) 5 rows∧base≤g∧g<τ.nf∧τ.F g=.alive∧¬zaj τ x g∧All2 (Al.FVO (τ.setF g .dead)) rows l
theorem zlR.one{base x τ v l}(h:zlR base x τ v l):v.known=true∧v.one=true∧v.cells=[v]:=by rcases h with ⟨_,rfl⟩|⟨_,_,rfl,_⟩<;>simp
theorem zlR.fs{base x τ v l}(h:zlR base x τ v l):Al.FsO τ v l:=by
 rcases h with h|⟨g,rows,h1,h2,h3,h4,h5,h6⟩
 ·exact .inl h
 ·exact .inr ⟨_,rows,h1,⟨h3,h4⟩,Al.all2_mono h6 fun _ _ q=>FVO.undead q⟩
theorem zlS{x:Nat}{τ τ':AS}(K:zbr x τ τ')(g:Nat):zbr x (τ.setF g .dead) (τ'.setF g .dead) where
 no:=K.no
 nf:=K.nf
 obj:=K.obj
 fam f hf:=by
  by_cases e:f=g
  ·simp[e]
  ·simp[e]
   exact K.fam f hf
theorem zlR.keep{base x τ τ' v l}(h:zlR base x τ v l)(K:zbr x τ τ')(hu:∀f,f<τ.nf→zaj τ' x f→zaj τ x f):zlR base x τ' v l:=by
 rcases h with h|⟨g,rows,h1,h2,h3,h4,h5,h6⟩
 ·exact .inl h
 ·exact .inr ⟨g,rows,h1,h2,yag h3 K.nf,(K.fam g h3).trans h4,fun u=>h5 (hu g h3 u),Al.all2_mono h6 fun _ _ q=>FVO.keepC q (zlS K g)⟩
theorem znH{σ:AS}{v:AV}{f:F}(h:Al.FVO σ v f):v.cells.length=5∧(∀c∈v.cells,c.one=true):=by
 obtain⟨pv,lv,tv,rfl,h1,h2,h3⟩:=h
 have a:=h1.one
 have b:=h2.one
 have c:=h3.one
 refine⟨by simp,?_⟩
 simp[a,b,c]
theorem znI{el:Option TypeId}{bsz base x:Nat}{b:List UInt8}{so:Res Ts}{σ τ:AS}{v row:AV}{l:List F}{f:F}{K:AV→AS→Prop}(h:zlR base x τ v l)(hR:RwS base x b so τ)(hrow:∀g',base≤g'→¬zaj τ x g'→Al.FVO (τ.setF g' .dead) row f)(A:zf σ τ)(hb:σ.nf≤base)(hl:(l.length+1)*bsz≤2^47)
  (hK:∀v' τ',zlR base x τ' v' (l++[f])→RwS base x b so τ'→τ'.objs=τ.objs→τ'.no=τ.no→zf σ τ'→K v' τ'):zcb el bsz 5 v [row] τ K:=by
 have hbl:=hR.base_le
 have hnu:¬zaj τ x τ.nf:=fun u=>by have:=(hR.lt u).1;omega
 have hc:=(znH (hrow τ.nf hbl hnu)).1
 have An:=A.nf
 rcases h with ⟨rfl,rfl⟩|⟨g,rows,rfl,h1,h2,h3,h4,h5⟩
 ·have hnu2:¬zaj τ.newF x τ.nf:=fun u=>hnu u
  have:=hK (.sl (.fam τ.nf false) 5 [row]) τ.newF (.inr ⟨τ.nf,[row],rfl,hbl,by simp,by simp,hnu2,.cons (FVO.keepC (x:=x) (hrow τ.nf hbl hnu) ⟨yah _,by simp,fun _ _ _=>rfl,fun f' hf'=>by
   have:¬f'=τ.nf:=by simp at hf';omega
   simp[this]⟩) .nil⟩) hR.newF (by simp) (by simp) A.newF
  simp at hl
  simp
  first|exact this|exact⟨by omega,this⟩
 ·have hR':=(hR.endF h1 h4).newF
  have hnu2:¬zaj (τ.setF g .dead).newF x τ.nf:=fun u=>hnu u
  have hlen:rows.length=l.length:=h5.length
  have KD:zbr x (τ.setF g .dead) (((τ.setF g .dead).newF).setF τ.nf .dead):=⟨yah _,by simp,fun _ _ _=>rfl,fun f' hf'=>by
   have:¬f'=τ.nf:=by simp at hf';omega
   simp[this]⟩
  have:=hK (.sl (.fam τ.nf false) 5 (rows++[row])) (τ.setF g .dead).newF (.inr ⟨τ.nf,rows++[row],rfl,hbl,by simp,by simp,hnu2,(Al.all2_mono h5 fun _ _ q=>FVO.keepC q KD).append (.cons (FVO.keepC (hrow g h1 h4) KD) .nil)⟩) hR' (by simp) (by simp) ⟨A.no,by simp;omega,A.obj,fun f' hf'=>by
   have e1:¬f'=τ.nf:=by omega
   have e2:¬f'=g:=by omega
   simp[e1,e2]
   exact A.fam f' hf'⟩
  simp[h3]
  exact⟨by rw[hlen];exact hl,this⟩
structure PsD(σ:AS)(base x:Nat)(b:List UInt8)(so:Res Ts)(fv:AV)(l:List F)(mem mn:Int)(τ:AS):Prop where
 rs:RwS base x b so τ
 ad:zf σ τ
 x0:σ.no+2≤x
 b0:σ.nf≤base
 ml:x+1<τ.no
 mo:τ.objs (x+1)=some [fv,.int .i64 mem,.int .i64 mn]
 ro:τ.objs σ.no=some [.nilsl,.int .i64 0,.int .i64 0]
 fs:zlR base x τ fv l
theorem zbr.adds0{x:Nat}{σ τ τ':AS}(K:zbr x τ τ')(A:zf σ τ)(hx:σ.no≤x):zf σ τ':=⟨yai A.no K.no,yai A.nf K.nf,fun o ho=>by
 have:=A.no
 rw[K.obj o (by omega) (by omega),A.obj o ho],fun f hf=>by
 have:=A.nf
 rw[K.fam f (by omega),A.fam f hf]⟩
theorem PsD.keep{σ base x b so so' fv l mem mn τ τ'}(h:PsD σ base x b so fv l mem mn τ)(hW:RwS base x b so' τ')(K:zbr x τ τ')(hu:∀f,f<τ.nf→zaj τ' x f→zaj τ x f):PsD σ base x b so' fv l mem mn τ':=by
 have x0:=h.x0
 have ml:=h.ml
 have An:=h.ad.no
 exact⟨hW,K.adds0 h.ad (by omega),h.x0,h.b0,yag ml K.no,(K.obj _ ml (by omega)).trans h.mo,(K.obj _ (by omega) (by omega)).trans h.ro,h.fs.keep K hu⟩
theorem PsD.keepP{σ base x b so so' fv l mem mn τ τ'}(h:PsD σ base x b so fv l mem mn τ)(hW:RwS base x b so' τ')(K:zE x τ τ'):PsD σ base x b so' fv l mem mn τ':=h.keep hW K.c fun f hf u=>K.r.use f hf u
theorem zlR.setO{base x τ v l o cs}(h:zlR base x τ v l)(hx:¬x=o):zlR base x (τ.setO o cs) v l:=by
 rcases h with h|⟨g,rows,h1,h2,h3,h4,h5,h6⟩
 ·exact .inl h
 ·refine .inr ⟨g,rows,h1,h2,h3,h4,fun⟨cs',v',q1,q2,q3⟩=>h5 ⟨cs',v',by simpa [hx]using q1,q2,q3⟩,Al.all2_mono h6 fun _ _ q=>FVO.keepC (x:=o) q ⟨yah _,yah _,fun p _ hp=>by simp[hp],fun _ _=>rfl⟩⟩
theorem PsD.setM{σ base x b so fv l mem mn mem' mn' τ}(h:PsD σ base x b so fv l mem mn τ):PsD σ base x b so fv l mem' mn' (τ.setO (x+1) [fv,.int .i64 mem',.int .i64 mn']):=by
 have x0:=h.x0
 exact⟨h.rs.other (by omega),h.ad.setO (by omega),h.x0,h.b0,h.ml,by simp,by simp[show ¬σ.no=x+1 by omega,h.ro],h.fs.setO (by omega)⟩
theorem zs4{s t r:List UInt8}(h:zcV s=some (t,r)):s.all zc1=false:=by
 cases q:s.all zc1 with
 | false=>rfl
 | true =>
  have:s.dropWhile zc1=[]:=by
   rw[zbG]
   exact q
  unfold zcV at h
  rw[this]at h
  cases h
section
variable {G : Env} {σ : AS} {R : Out → AS → Prop}
theorem zj6{so:Res Ts}{ts:List (List UInt8)}{α:Type}{g:Ts→Res α}:(so.bind fun s=>(zu ts s).bind g)=(so.bind (zu ts)).bind g:=by cases so<;>rfl
theorem zw3{base x b so fv l mem τ}{a:Nat→AV}(h:PsD σ base x b so fv l mem 0 τ)(a0:a 0=.str b)(a2:a 2=.ptr σ.no 0)(a4:a 4=.ptr x 0)(a8:a 8=.ptr (x+1) 0)
  (hn:∀e,so.bind (zhX l mem)=.error e→∀σ',zf σ σ'→R (.ret (.tuple [zZ,.int .i64 e])) σ')
  (hs:∀m s',so.bind (zhX l mem)=.ok (m,s')→∀mv σ',Al.MO σ' mv m→zf σ σ'→R (.ret (.tuple [mv,.int .i64 0])) σ'):avc yb5 G 85 zhl (zcJ yb5 [.cell 2 28,.tmp 3] R) a τ:=by
 simp[zhl,a4]
 refine zk0 (ts:=[zL,zbx,zgi,zL,zbD]) h.rs (.inl ⟨.stat true,rfl,trivial⟩) (by decide) (by decide) fun τ1 hR1 K1=>?_
 have h1:=h.keepP hR1 K1
 simp[a4]
 refine zh2 hR1 fun n so2 τ2 g2 _ _ hR2 K2=>?_
 have h2:=h1.keepP hR2 K2
 have mo2:=h2.mo
 have f1:=h2.fs.one
 simp[a4,a8,mo2,f1,splice]
 have h3:=h2.setM (mem':=mem) (mn':=yb3 .i64 (n-3))
 generalize τ2.setO (x+1) [fv,.int .i64 mem,.int .i64 (yb3 .i64 (n-3))]=τ3 at *
 refine zk0 (ts:=[zi,zi,zi]) h3.rs (.inl ⟨.stat true,rfl,trivial⟩) (by decide) (by decide) fun τ4 hR4 K4=>?_
 have h4:=h3.keepP hR4 K4
 have hmod:so.bind (zhX l mem)=(so2.bind (zu [zi,zi,zi])).bind fun s=>if s.b.all zc1=true then .ok (({ funcs:=l,memory:=mem,main:=yb3 .i64 (n-3) }:M),s)else .error 2:=by
  have e1:so.bind (zhX l mem)=(so.bind (zu [zL,zbx,zgi,zL,zbD])).bind fun s=>(zB s).bind fun mn=>(zu [zi,zi,zi] mn.2).bind fun s=>if s.b.all zc1=true then .ok (({ funcs:=l,memory:=mem,main:=yb3 .i64 (mn.1-3) }:M),s)else .error 2:=by
   rw[←zj6]
   rfl
  rw[e1]
  generalize so.bind (zu [zL,zbx,zgi,zL,zbD])=so1 at *
  unfold zb4 at g2
  cases so1 with
  | error e =>
   cases so2 with
   | error e'=>cases g2;rfl
   | ok s=>cases g2
  | ok s1 =>
   have g2':zB s1=so2.map fun s=>(n,s):=g2
   simp only[Except.bind]
   rw[g2']
   cases so2<;>rfl
 generalize so2.bind (zu [zi,zi,zi])=so3 at *
 simp[a4]
 refine zkZ hR4 fun t n' hn' hc=>?_
 obtain⟨at4,lv4,ls4,ho4,l4,_⟩:=hR4.opn
 have mo4:=h4.mo
 have ro4:=h4.ro
 have hx4:=hR4.hx
 have x0:=h4.x0
 have hxs:¬x=σ.no:=by omega
 have hxs1:¬x+1=σ.no:=by omega
 -- something was wrong
 have bad:∀e τ',so.bind (zhX l mem)=.error e→zE x τ4 τ'→R (.ret (.tuple [zZ,.int .i64 e])) (τ'.setO σ.no [.nilsl,.int .i64 0,.int .i64 0]):=fun e τ' q K=>hn e q _ ((K.c.adds0 h4.ad (by omega)).setO (yah _))
 cases so3 with
 | error e =>
  have hne:=hR4.ne
  simp only[zcc]at ho4
  by_cases ht:t=[]
  ·by_cases hlt:n'<b.length
   ·have hlti:(n':Int)<(b.length:Int):=by omega
    simp[a0,a2,a4,a8,ht,hlt,hlti]
    refine zah (c:=2) (by decide) hR4 fun τ5 hR5 K5=>?_
    obtain⟨at5,lv5,ls5,ho5,l5,_⟩:=hR5.opn
    simp only[zbK,zcc]at ho5
    have ro5:=(K5.obj σ.no (by omega) (by omega)).trans ro4
    simp[a0,a2,a4,a8,ho5,l5,hne,ro5,splice,hxs,hxs1]
    exact bad e τ5 (by rw[hmod];rfl) K5
   ·have hlti:¬(n':Int)<(b.length:Int):=by omega
    simp[a0,a2,a4,a8,ht,hlt,hlti,ho4,l4,hne,ro4,splice,hxs,hxs1]
    exact bad e τ4 (by rw[hmod];rfl) (.refl ho4)
  ·simp[a0,a2,a4,a8,ht]
   refine zah (c:=2) (by decide) hR4 fun τ5 hR5 K5=>?_
   obtain⟨at5,lv5,ls5,ho5,l5,_⟩:=hR5.opn
   simp only[zbK,zcc]at ho5
   have ro5:=(K5.obj σ.no (by omega) (by omega)).trans ro4
   simp[a0,a2,a4,a8,ho5,l5,hne,ro5,splice,hxs,hxs1]
   exact bad e τ5 (by rw[hmod];rfl) K5
 | ok s =>
  simp only[zcc]at ho4
  replace hmod:so.bind (zhX l mem)=if s.b.all zc1=true then .ok (({ funcs:=l,memory:=mem,main:=yb3 .i64 (n-3) }:M),s)else .error 2:=hmod
  rcases hc s rfl with ⟨q1,q2⟩|⟨rfl,q1,q2⟩
  ·have hno:=zs4 q1
   rw[hno]at hmod
   simp[a0,a2,a4,a8,q2]
   refine zah (c:=2) (by decide) hR4 fun τ5 hR5 K5=>?_
   obtain⟨at5,lv5,ls5,ho5,l5,_⟩:=hR5.opn
   simp only[zbK,zcc]at ho5
   have ro5:=(K5.obj σ.no (by omega) (by omega)).trans ro4
   simp[a0,a2,a4,a8,ho5,l5,ro5,splice,hxs,hxs1]
   exact bad 2 τ5 (by rw[hmod];rfl) K5
  ·by_cases hlt:n'<b.length
   ·have hlti:(n':Int)<(b.length:Int):=by omega
    have hno:=q2.1 hlt
    rw[hno]at hmod
    simp[a0,a2,a4,a8,hlt,hlti]
    refine zah (c:=2) (by decide) hR4 fun τ5 hR5 K5=>?_
    obtain⟨at5,lv5,ls5,ho5,l5,_⟩:=hR5.opn
    simp only[zbK,zcc]at ho5
    have ro5:=(K5.obj σ.no (by omega) (by omega)).trans ro4
    simp[a0,a2,a4,a8,ho5,l5,ro5,splice,hxs,hxs1]
    exact bad 2 τ5 (by rw[hmod];rfl) K5
   ·have hlti:¬(n':Int)<(b.length:Int):=by omega
    have hyes:s.b.all zc1=true:=by
     cases q:s.b.all zc1 with
     | true=>rfl
     | false=>exact absurd (q2.2 q) hlt
    rw[hyes]at hmod
    have f4:=h4.fs.one
    simp[a0,a2,a4,a8,hlt,hlti,ho4,l4,mo4,ro4,f4,splice,hxs,hxs1]
    refine hs _ s (by rw[hmod];rfl) _ _ ⟨fv,rfl,?_⟩ (h4.ad.setO (yah _))
    exact(h4.fs.setO (by omega)).fs
end
def zca(mem:Int)(k:Nat)(l:List F)(s:Ts):Res (M × Ts):=(zA 24 k l s).bind fun fs=>zhX fs.1 mem fs.2
def PlD(σ:AS)(base x:Nat)(b:List UInt8)(mem:Int)(so0:Res Ts)(a:Nat→AV)(τ:AS):Prop:=∃(k:Nat) (l:List F) (so:Res Ts) (fv:AV),(so0.bind fun s=>zca mem (s.b.length+1) [] s)=so.bind (zca mem k l)∧(∀s,so=.ok s→s.b.length<k∧l.length+s.b.length≤2^14)∧l.length≤2^14∧PsD σ base x b so fv l mem 0 τ∧a 0=.str b∧a 2=.ptr σ.no 0∧a 4=.ptr x 0∧a 8=.ptr (x+1) 0
section
variable {G : Env} {σ : AS} {R : Out → AS → Prop}
theorem zj7{base x b so0 mem}(hn:∀e,(so0.bind fun s=>zca mem (s.b.length+1) [] s)=.error e→∀σ',zf σ σ'→R (.ret (.tuple [zZ,.int .i64 e])) σ')
  (hs:∀m s',(so0.bind fun s=>zca mem (s.b.length+1) [] s)=.ok (m,s')→∀mv σ',Al.MO σ' mv m→zf σ σ'→R (.ret (.tuple [mv,.int .i64 0])) σ') {a:Nat→AV} {τ:AS} (hI:PlD σ base x b mem so0 a τ) :
  avc yb5 G 85 zjF (zaO (fun a' σ'=>PlD σ base x b mem so0 a' σ'∧MBw x a' σ'<MBw x a τ) (zak 2 (zaO (avc yb5 G 85 zhl (zcJ yb5 [.cell 2 28,.tmp 3] R)) (zcJ yb5 [.cell 2 28,.tmp 3] R)))) a τ:=by
 obtain⟨k,l,so,fv,he,hk,hlb,hP,a0,a2,a4,a8⟩:=hI
 simp[zjF,a4]
 refine zpV (w:=zbD) hP.rs (by decide) (fun q τ1 hW1 K1=>?_) (fun s s1 e q τ1 hW1 K1=>?_)
 ·have hP1:=hP.keepP hW1 K1
  have he2:so.bind (zca mem k l)=so.bind (zhX l mem):=by
   cases so with
   | error e=>rfl
   | ok s =>
    obtain⟨k1,k2⟩:=hk s rfl
    obtain⟨k,rfl⟩:∃j,k=j+1:=⟨k-1,by omega⟩
    show zca mem (k+1) l s=zhX l mem s
    unfold zca
    rw[zA,q s rfl]
    rfl
  rw[he,he2]at hn hs
  simp
  exact zw3 hP1 (by simp[a0]) (by simp[a2]) (by simp[a4]) (by simp[a8]) hn hs
 ·subst e
  obtain⟨k1,k2⟩:=hk s rfl
  obtain⟨k,rfl⟩:∃j,k=j+1:=⟨k-1,by omega⟩
  have hP1:=hP.keepP hW1 K1
  have hlt:=zjW q
  have hmb:=(zew hP.rs a)
  have he3:(so0.bind fun s=>zca mem (s.b.length+1) [] s)=(zC 24 s1).bind fun p=>zca mem k (l++[p.1]) p.2:=by
   rw[he]
   show zca mem (k+1) l s=_
   unfold zca
   rw[zA,q]
   simp only
   cases zC 24 s1<;>rfl
  have mo1:=hP1.mo
  have f1:=hP1.fs.one
  simp[a4,a8,mo1,f1]
  refine zj5 hW1 fun f v so2 τ2 g hrow hR2 K2 hu2=>?_
  have hP2:=hP1.keep hR2 K2 hu2
  have mo2:=hP2.mo
  have hbl:=hR2.base_le
  have hnu:¬zaj τ2 x τ2.nf:=fun u=>by have:=(hR2.lt u).1;omega
  have hv:=hrow τ2.nf hbl hnu
  obtain⟨pv,lv,tv,rfl,i1,i2,i3⟩:=hv
  have p1:=i1.one
  have l1:=i2.one
  have t1:=i3.one
  have g':zC 24 s1=so2.map fun s=>(f,s):=g
  simp[mo2,f1,p1,l1,t1,a8]
  refine znI hP2.fs hR2 hrow hP2.ad hP2.b0 (by omega) fun v' τ' O' hR' e1 e2 A'=>?_
  have g1:=O'.one
  have x0:=hP.x0
  have ml2:=hP2.ml
  have mo3:τ'.objs (x+1)=some [fv,.int .i64 mem,.int .i64 0]:=by rw[e1];exact mo2
  have hP3:PsD σ base x b so2 v' (l++[f]) mem 0 (τ'.setO (x+1) [v',.int .i64 mem,.int .i64 0]):=⟨hR'.other (by omega),A'.setO (by omega),x0,hP2.b0,by simp[e2];omega,by simp,by simp[show ¬σ.no=x+1 by omega,e1,hP2.ro],O'.setO (by omega)⟩
  simp[mo3,splice,g1,a8]
  have hsz:∀s2,so2=.ok s2→s2.b.length≤s1.b.length:=fun s2 e=>by
   subst e
   exact(zcD g').2
  refine⟨⟨k,l++[f],so2,v',?_,fun s2 e=>?_,by simp;omega,hP3,by simp[a0],by simp[a2],by simp[a4],by simp[a8]⟩,?_⟩
  ·rw[he3,g']
   cases so2<;>rfl
  ·have:=hsz s2 e
   exact⟨by omega,by simp;omega⟩
  ·cases so2 with
   | error e=>rw[zj0 hP3.rs,hmb.1];omega
   | ok s2 =>
    have:=hsz s2 rfl
    rw[(zew hP3.rs _).1,hmb.1]
    omega
theorem zp7(h00:0<σ.nf∧σ.F 0=.alive){b:List UInt8}(hl:b.length≤2^14)
  (hn:∀e,zaK 24 b=.error e→∀σ',zf σ σ'→R (.ret (.tuple [zZ,.int .i64 e])) σ')
  (hs:∀m,zaK 24 b=.ok m→∀mv σ',Al.MO σ' mv m→zf σ σ'→R (.ret (.tuple [mv,.int .i64 0])) σ'):zzQ G 21 [.str b] σ R:=by
 refine zrV rfl ?_
 have hpe:zaK 24 b=(zbp 24 ⟨b,[]⟩).map (·.1):=rfl
 have hn':∀e,zbp 24 ⟨b,[]⟩=.error e→∀σ',zf σ σ'→R (.ret (.tuple [zZ,.int .i64 e])) σ':=fun e q=>hn e (by rw[hpe,q];rfl)
 have hs':∀m s',zbp 24 ⟨b,[]⟩=.ok (m,s')→∀mv σ',Al.MO σ' mv m→zf σ σ'→R (.ret (.tuple [mv,.int .i64 0])) σ':=fun m s' q=>hs m (by rw[hpe,q];rfl)
 clear hn hs hpe
 simp[zBF,splice]
 refine zK (HeI σ b) (MBw (σ.no+1)) ⟨0,by omega,by simp,by simp,by simp,.inl ⟨rfl,by simp⟩,(zf.refl σ).newO.newO,by simp,?_,by simp⟩ fun a τ hI=>?_
 ·simp[zje,zaI,zdJ]
 obtain⟨i,hi,a0,a2,a4,hG,A,ro,ho,hno⟩:=hI
 have g1:=hG.one
 by_cases hlt:i<47
 ·obtain⟨hst,hp⟩:=zjf ⟨i,hlt⟩
  simp only at hst hp
  have hpi:zdJ.getD i 0≤185:=by
   cases i with
   | zero=>decide
   | succ i=>exact(zjf ⟨i,by omega⟩).2
  simp[zjE,a4]
  refine znw ho (by simp) (by rw[zbL];omega) (by rw[zbL];omega) (fun t at' q q1 q2=>?_) (fun q=>by rw[hst]at q;cases q)
  rw[hst]at q
  simp only[yaR.injEq,Prod.mk.injEq]at q
  obtain⟨rfl,q3⟩:=q
  have q4:at'=zdJ.getD (i+1) 0:=by
   have:=congrArg yb8 q3
   rw[ycq,ycq]at this
   rw[zbL]at this q2
   omega
  subst q4
  have hne:zaX.getD i []≠[]:=(zau hst).2
  have htk:zaX.take (i+1)=zaX.take i++[zaX.getD i []]:=by
   rw[yca (by rw[zfZ];exact hlt)]
   congr 2
   simp[ycX,yau (show i<zaX.length by rw[zfZ];exact hlt)]
  generalize zaX.getD i []=t at *
  generalize hP:zdJ.getD (i+1) 0=P at *
  simp[hne,ho,splice,a4,g1]
  refine zp6 (σ:=σ) (t:=t) (l:=zaX.take i) hG (A.setO (by omega)) (by simp;omega) fun v' τ' hG' A' e1 e2=>?_
  have hn0:¬σ.no=σ.no+1:=by omega
  have ho':τ'.objs (σ.no+1)=some [.str zje,.int .i64 ((P:Nat):Int),.int .i64 0,.nilsl]:=by rw[e1];simp[zje,zaI]
  simp
  refine⟨⟨i+1,hlt,by simp[a0],by simp[a2],by simp[a4],by rw[htk];simpa using hG',A',by rw[e1];simp[hn0,ro],by rw[hP];exact ho',by rw[e2];simpa using hno⟩,?_⟩
  simp only[MBw,ho,ho']
  simp only[ybe]
  have c1:=zau hst
  have c2:=ybm.2 c1.2
  have c3:=c1.1
  rw[ycq,ycq,zbL]at c3
  omega
 ·have ei:i=47:=by omega
  subst ei
  simp[zjE,a4]
  refine znw ho (by simp) (by rw[zbL];decide) (by rw[zbL];omega) (fun t at' q q1 q2=>by rw[znG]at q;cases q) (fun q n hn1 hn2=>?_)
  have htk:zaX.take 47=zaX:=ycu (by rw[zfZ];omega)
  rw[htk]at hG
  obtain⟨g,hv,gg1,gg2,gg3⟩:∃g,a 5=.sl (.fam g false) 1 (zaX.map yce)∧σ.nf≤g∧g<τ.nf∧τ.F g=.alive:=by
   rcases hG with ⟨h,_⟩|h
   ·cases h
   ·exact h
  have An:=A.no
  have Af:=A.nf
  have hz:0<τ.nf∧τ.F 0=.alive:=⟨by omega,(A.fam 0 h00.1).trans h00.2⟩
  have hno':¬τ.no+1=τ.no:=by omega
  have hP0:PsD σ τ.nf τ.no b (.ok ⟨b,[]⟩) .nilsl [] 0 0 ((τ.newO [.str b,.int .i64 0,.int .i64 0,.nilsl]).newO [.nilsl,.int .i64 0,.int .i64 0]) :=
   ⟨⟨0,0,.nilsl,[],⟨by simp;omega,⟨hz.1,by simp⟩,by simpa using hz.2,by omega,hl,.inl ⟨rfl,rfl⟩,by simp⟩,rfl,rfl,rfl⟩,A.newO.newO,by omega,Af,by simp,by simp,by simp[show ¬σ.no=τ.no+1 by omega,show ¬σ.no=τ.no by omega,ro],.inl ⟨rfl,rfl⟩⟩
  have hLQ:LQ τ.no ((τ.newO [.str b,.int .i64 0,.int .i64 0,.nilsl]).newO [.nilsl,.int .i64 0,.int .i64 0]) (.sl (.fam g false) 1 (zaX.map yce)) zaX:=.inl ⟨_,rfl,by simpa using gg2,by simpa using gg3⟩
  simp[zmu,a0,a2,hv,splice]
  generalize (τ.newO [.str b,.int .i64 0,.int .i64 0,.nilsl]).newO [.nilsl,.int .i64 0,.int .i64 0]=τ1 at *
  generalize τ.nf=base at *
  generalize τ.no=x at *
  refine zk0 (ts:=zaX) hP0.rs hLQ (by decide) zp5 fun τ2 hR2 K2=>?_
  have hP2:=hP0.keepP hR2 K2
  simp
  refine zh2 hR2 fun mem so3 τ3 g3 _ _ hR3 K3=>?_
  have hP3:=hP2.keepP hR3 K3
  have mo3:=hP3.mo
  simp[mo3,splice]
  have hP4:=hP3.setM (mem':=mem) (mn':=0)
  generalize τ3.setO (x+1) [.nilsl,.int .i64 mem,.int .i64 0]=τ4 at *
  refine zk0 (ts:=[zi,zi]) hP4.rs (.inl ⟨.stat true,rfl,trivial⟩) (by decide) (by decide) fun τ5 hR5 K5=>?_
  have hP5:=hP4.keepP hR5 K5
  have hmod:zbp 24 ⟨b,[]⟩=(so3.bind (zu [zi,zi])).bind fun s=>zca mem (s.b.length+1) [] s:=by
   rw[zd5]
   unfold zb4 at g3
   change (zu zaX ⟨b,[]⟩).bind zB=_ at g3
   cases hw:zu zaX ⟨b,[]⟩with
   | error e =>
    rw[hw]at g3
    cases so3 with
    | error e'=>cases g3;rfl
    | ok s=>cases g3
   | ok s1 =>
    rw[hw]at g3
    have g3':zB s1=so3.map fun s=>(mem,s):=g3
    simp only[Except.bind]
    rw[g3']
    cases so3<;>rfl
  rw[hmod]at hs'
  simp only[hmod]at hn'
  have hlen5:∀s,so3.bind (zu [zi,zi])=.ok s→s.b.length≤2^14:=fun s e=>by
   rw[e]at hR5
   have:=hR5.len
   omega
  generalize so3.bind (zu [zi,zi])=so5 at *
  simp
  refine zK (PlD σ base x b mem so5) (MBw x) ⟨(match so5 with|.ok s=>s.b.length+1|.error _=>0),[],so5,.nilsl,?_,fun s e=>?_,by simp,hP5,by simp[a0],by simp[a2],by simp,by simp⟩ fun a τ hI=>zj7 hn' hs' hI
  ·cases so5<;>rfl
  ·subst e
   have:=hlen5 s rfl
   exact⟨by simp,by simp;omega⟩
end
def msT(s:Ts):Nat:=zhQ s.ls+s.ls.length+s.b.length
theorem zk6{s s':Ts}{t:List UInt8}(h:zY s=.ok (t,s')):msT s'+1≤msT s:=by
 obtain⟨h1,h2,h3⟩:=za3 h
 have:=ybm.2 h2
 unfold msT
 rw[h3]
 omega
theorem zp8{t:List UInt8}{s s':Ts}{w:W}(h:zaP t s=.ok (w,s')):msT s'≤msT s:=by
 unfold zaP at h
 split at h
 ·obtain⟨p,h1,h2⟩:=map_some h
  cases h2
  unfold zB at h1
  obtain⟨q,h3,h4⟩:=bind_some h1
  obtain⟨n,_,h5⟩:=map_some h4
  cases h5
  exact Nat.le_of_succ_le (zk6 h3)
 ·split at h
  ·cases h;exact yah _
  ·cases h
theorem znJ{rec:ztX}(hr:∀d o s r s',rec d o s=.ok (r,s')→msT s'≤msT s){t:List UInt8}{d:Nat}{s s':Ts}{w:W}(h:zan rec t d s=.ok (w,s')):msT s'≤msT s:=by
 unfold zan at h
 split at h
 ·exact zp8 h
 ·unfold zR at h
  split at h
  ·cases h
  ·obtain⟨p,h1,h2⟩:=bind_some h
   have l1:=hr _ _ _ _ _ h1
   split at h2
   ·split at h2
    ·obtain⟨q,h3,h4⟩:=map_some h2
     cases h4
     exact yai (hr _ _ _ _ _ h3) l1
    ·cases h2;exact l1
   ·cases h2;exact l1
theorem zh4:∀(k d:Nat) (o:Bool) (l:List W) (s:Ts) (r:Int × List UInt8) (s':Ts),zp k d o l s=.ok (r,s')→msT s'≤msT s+l.length
 | 0,_,_,_,_,_,_,h=>by cases h
 | k+1,d,o,l,s,r,s',h=>by
  rw[zp]at h
  obtain⟨p,h1,h2⟩:=bind_some h
  have q:=zk6 h1
  split at h2
  ·cases h2
   unfold msT at *
   rw[zly]
   simp only[yab,yac,ybl]
   omega
  ·obtain⟨q2,h3,h4⟩:=bind_some h2
   have a:=znJ (fun d o s r s' q=>by simpa using zh4 k d o [] s r s' q) h3
   have b:=zh4 k d o _ _ _ _ h4
   simp only[yab,yac,ybl]at b
   omega
theorem zf0:∀(k:Nat) (l:List Int) (s:Ts) (r:List Int) (s':Ts),zam k l s=.ok (r,s')→r.length+s'.b.length≤l.length+s.b.length
 | 0,_,_,_,_,h=>by cases h
 | k+1,l,s,r,s',h=>by
  rw[zam]at h
  obtain⟨p,h1,h2⟩:=bind_some h
  obtain⟨q1,q2,_⟩:=za3 h1
  have:=ybm.2 q2
  split at h2
  ·have:=zf0 k _ _ _ _ h2
   simp only[yab,yac,ybl]at this
   omega
  ·split at h2
   ·have:=zf0 k _ _ _ _ h2
    simp only[yab,yac,ybl]at this
    omega
   ·split at h2
    ·cases h2;omega
    ·cases h2
theorem zk7{w:List UInt8}{s s':Ts}{l:List Int}(h:zaQ w s=.ok (l,s')):l.length+s'.b.length≤s.b.length:=by
 unfold zaQ at h
 split at h
 ·rename_i s1 e
  have:=zf0 _ _ _ _ _ h
  have:=zhY e
  simp only[ybl]at *
  omega
 ·cases h;simp
structure zp9(n:Nat)(f:F):Prop where
 params:f.params.length≤n
 locals:f.locals.length≤n
 lists:f.lists.length≤n
 rows:∀l∈f.lists,l.length≤n
theorem zjg{mx:Nat}{s s':Ts}{f:F}(h:zC mx s=.ok (f,s')):zp9 s.b.length f:=by
 unfold zC at h
 obtain⟨⟨t,s1⟩,h0,h⟩:=bind_some h
 have l0:=(zb2 h0).1
 simp only at h l0
 split at h
 ·obtain⟨⟨ps,s2⟩,h2,h⟩:=bind_some h
  obtain⟨⟨ty,s3⟩,h3,h⟩:=bind_some h
  obtain⟨⟨ls,s4⟩,h4,h⟩:=bind_some h
  obtain⟨⟨⟨n,e⟩,s5⟩,h5,h⟩:=map_some h
  simp only[Prod.mk.injEq]at h
  obtain⟨rfl,rfl⟩:=h
  have a2:=zk7 h2
  have a3:=znd h3
  have a4:=zk7 h4
  have a5:=zh4 _ _ _ _ _ _ _ h5
  simp only[msT,zhQ,ycL,List.sum_nil,ybl]at a2 a3 a4 a5
  exact⟨by simp only;omega,by simp only;omega,by simp only;omega,fun l hl=>by
   have:=zjb hl
   simp only[zhQ]at this
   omega⟩
 ·cases h
theorem zdK{mx:Nat}{N:Nat}:∀(k:Nat) (acc:List F) (s:Ts) (fs:List F) (s':Ts),zA mx k acc s=.ok (fs,s')→s.b.length≤N→(∀f∈acc,zp9 N f)→fs.length+s'.b.length≤acc.length+s.b.length∧∀f∈fs,zp9 N f
 | 0,acc,s,fs,s',h,_,_=>by cases h
 | k+1,acc,s,fs,s',h,hN,hacc=>by
  rw[zA]at h
  split at h
  ·cases h
   exact⟨yah _,hacc⟩
  ·rename_i s1 e
   have l1:=zhY e
   have l2:s1.b.length+1≤s.b.length:=zjW e
   obtain⟨⟨f,s2⟩,h1,h2⟩:=bind_some h
   have q:=zjg h1
   have q2:=(zcD h1).2
   obtain⟨r1,r2⟩:=zdK (N:=N) k _ _ fs s' h2 (by simp only at *;omega) fun g hg=>by
    rcases ybh.1 hg with hg|hg
    ·exact hacc g hg
    ·simp at hg;subst hg
     obtain⟨a,b,c,d⟩:=q
     exact⟨by omega,by omega,by omega,fun l hl=>by have:=d l hl;omega⟩
   simp only[yab,yac,ybl]at r1 q2 ⊢
   exact⟨by omega,r2⟩
theorem zf1:∀(ts:List (List UInt8)) {s s':Ts},zu ts s=.ok s'→s'.b.length≤s.b.length
 | [],s,s',h=>by cases h;exact yah _
 | t::ts,s,s',h=>by
  rw[zu]at h
  obtain⟨p,h1,h2⟩:=bind_some h
  split at h2
  ·exact yai (zf1 ts h2) (zb2 h1).1
  ·cases h2
theorem znK{mx:Nat}{b:List UInt8}{m:M}(h:zaK mx b=.ok m):m.funcs.length≤b.length∧∀f∈m.funcs,zp9 b.length f:=by
 unfold zaK at h
 obtain⟨⟨m',s0⟩,h0,e0⟩:=map_some h
 simp only at e0
 subst e0
 unfold zbp at h0
 obtain⟨s1,g1,h⟩:=bind_some h0
 obtain⟨⟨mem,s2⟩,g2,h⟩:=bind_some h
 obtain⟨s3,g3,h⟩:=bind_some h
 obtain⟨⟨fs,s4⟩,hf,h⟩:=bind_some h
 obtain⟨s5,_,h⟩:=bind_some h
 obtain⟨⟨mn,s6⟩,hn,h⟩:=bind_some h
 obtain⟨s7,_,h⟩:=bind_some h
 have w1:=zf1 _ g1
 have w3:=zf1 _ g3
 have w2:s2.b.length≤s1.b.length:=by
  unfold zB at g2
  obtain⟨q,h3,h4⟩:=bind_some g2
  obtain⟨n,_,h5⟩:=map_some h4
  cases h5
  exact(zb2 h3).1
 split at h
 ·cases h
  simp only at w1 w2 w3
  obtain⟨r1,r2⟩:=zdK (N:=b.length) _ _ _ _ _ hf (by omega) (fun f hf=>by cases hf)
  simp only[ybl]at r1
  exact⟨by simp only;omega,r2⟩
 ·cases h
section
variable {G : Env} {σ : AS} {R : Out → AS → Prop}
theorem znL(V:za9 G)(hG:∀k,StillI (G.g k))(hy:∀l,¬G.has l)(h:R (.ret (.bool true)) σ):zzQ G 12 [] σ R :=
 zsy (vs:=[]) (Q:=fun x=>x=.bool true) hG hy (fun v hv=>by cases hv) (zsU V ⟨by decide,rfl⟩ fun _ _=>⟨_,rfl,.bool _,rfl⟩) fun x hx=>by rw[hx];exact h
end
end Go.Proofs.YtohfclafhegadaaGreatDoor
