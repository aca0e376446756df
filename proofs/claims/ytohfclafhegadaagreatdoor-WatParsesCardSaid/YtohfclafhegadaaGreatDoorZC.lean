/- Parts of the proof of the row WatParses: contracts of functions, each under the conditions that its theorem names. -/
import Derived.Test.YtohfclafhegadaaGreatDoorZB
import Derived.Test.YtohfclafhegadaaGreatDoorZA
set_option linter.unusedSimpArgs false
set_option linter.unusedVariables false
set_option maxRecDepth 100000
open List renaming map_cons→yaL,map_nil→ycL
open Go.Abs.AV renaming nilsl→ycO
namespace Go.Proofs.YtohfclafhegadaaGreatDoor
open Go Go.Abs
theorem znM:0<AS.bare.nf∧AS.bare.F 0=.alive:=⟨by decide,rfl⟩
section
variable {G : Env} {σ : AS} {R : Out → AS → Prop}
def zw4(b:List UInt8)(xs:List AV):Prop:=(∃e,zaK 24 b=.error e∧xs=[zZ,.int .i64 e])∨∃m mv,zaK 24 b=.ok m∧xs=[mv,.int .i64 0]∧MV (clm mv) m
theorem znN{F:Nat→FSt}:Cb F zZ:=.agg _ fun c hc=>by
 simp at hc
 rcases hc with rfl|rfl
 ·exact .nilsl
 ·exact .int _ _
theorem zk8:clm zZ=zZ:=by simp[zZ]
theorem znO(VT:za9 G)(hG:∀k,StillI (G.g k))(hy:∀l,¬G.has l){b:List UInt8}(hl:b.length≤2^14)
  (hn:∀e,zaK 24 b=.error e→R (.ret (.tuple [zZ,.int .i64 e])) σ) (hs:∀m mv,zaK 24 b=.ok m→MV mv m→R (.ret (.tuple [mv,.int .i64 0])) σ):zzQ G 19 [.str b] σ R:=by
 refine znt (Q:=zw4 b) hG hy (fun v hv=>by simp at hv;subst hv;exact .str b) (zfR VT znM trivial (by omega) (fun e he σ1 A1=>?_) (fun m hm mv σ1 hmv A1=>?_)) fun xs hq=>?_
 ·exact⟨_,rfl,fun v hv=>by simp at hv;rcases hv with rfl|rfl;exact znN;exact .int _ _,.inl ⟨e,he,rfl⟩⟩
 ·have h01:0<σ1.nf∧σ1.F 0=.alive:=⟨by have:=A1.nf;have:=znM.1;omega,(A1.fam 0 znM.1).trans znM.2⟩
  obtain⟨hcb,hmv2⟩:=zqR (Al.m_e h01 hmv)
  exact⟨_,rfl,fun v hv=>by simp at hv;rcases hv with rfl|rfl;exact hcb;exact .int _ _,.inr ⟨m,mv,hm,rfl,hmv2⟩⟩
 ·rcases hq with ⟨e,he,rfl⟩|⟨m,mv,hm,rfl,hmv⟩
  ·simp only[yaL,ycL,zk8,zfE]
   exact hn e he
  ·simp only[yaL,ycL,zfE]
   exact hs m _ hm hmv
theorem znP(hG:∀k,StillI (G.g k))(hy:∀l,¬G.has l){b:List UInt8}(hl:b.length≤2^14)
  (hn:∀e,zaK 24 b=.error e→R (.ret (.tuple [zZ,.int .i64 e])) σ) (hs:∀m mv,zaK 24 b=.ok m→MV mv m→R (.ret (.tuple [mv,.int .i64 0])) σ):zzQ G 21 [.str b] σ R:=by
 refine znt (Q:=zw4 b) hG hy (fun v hv=>by simp at hv;subst hv;exact .str b) (zp7 znM hl (fun e he σ1 A1=>?_) (fun m hm mv σ1 hmv A1=>?_)) fun xs hq=>?_
 ·exact⟨_,rfl,fun v hv=>by simp at hv;rcases hv with rfl|rfl;exact znN;exact .int _ _,.inl ⟨e,he,rfl⟩⟩
 ·obtain⟨hcb,hmv2⟩:=zqR hmv
  exact⟨_,rfl,fun v hv=>by simp at hv;rcases hv with rfl|rfl;exact hcb;exact .int _ _,.inr ⟨m,mv,hm,rfl,hmv2⟩⟩
 ·rcases hq with ⟨e,he,rfl⟩|⟨m,mv,hm,rfl,hmv⟩
  ·simp only[yaL,ycL,zk8,zfE]
   exact hn e he
  ·simp only[yaL,ycL,zfE]
   exact hs m _ hm hmv
theorem zj8(VT:za9 G)(hG:∀k,StillI (G.g k))(hy:∀l,¬G.has l)(h00:0<σ.nf∧σ.F 0=.alive){s:List UInt8}(h:∀σ',R (.ret (.bool true)) σ'):zzQ G 5 [.str s] σ R:=by
 refine zu6 rfl ?_
 by_cases hbig:16384<s.length
 ·have hbi:(16384:Int)<(s.length:Int):=by omega
  simp[pc5,hbig,hbi]
  refine znL VT hG hy ?_
  simp
  exact h _
 ·have hbi:¬(16384:Int)<(s.length:Int):=by omega
  have hsl:s.length≤2^14:=by omega
  simp[pc5,hbig,hbi]
  refine zfR VT h00 trivial (by omega) (fun e he σ1 A1=>?_) (fun m hmo mv σ1 hmv A1=>?_)
  ·have h01:0<σ1.nf∧σ1.F 0=.alive:=⟨by have:=A1.nf;omega,(A1.fam 0 h00.1).trans h00.2⟩
   have zME:∀τ,Al.ME τ σ.nf zZ ⟨[],0,0⟩:=fun τ=>⟨.nilsl,rfl,.inl ⟨rfl,rfl⟩⟩
   have zMO:∀τ,Al.MO τ zZ ⟨[],0,0⟩:=fun τ=>⟨.nilsl,rfl,.inl ⟨rfl,rfl⟩⟩
   simp[zZ,splice]
   refine znO VT hG hy hsl (fun e2 he2=>?_) (fun m2 mv2 hm2=>by rw[he]at hm2;cases hm2)
   rw[he]at he2;cases he2
   simp[zZ,splice]
   refine znP hG hy hsl (fun e3 he3=>?_) (fun m3 mv3 hm3=>by rw[he]at hm3;cases hm3)
   rw[he]at he3;cases he3
   simp[zZ,splice]
   have hfl:(⟨[],0,0⟩:M).funcs.length≤2^40:=by simp
   have hsz:∀f∈(⟨[],0,0⟩:M).funcs,Al.SzE f:=by simp
   have hm2:MV (.agg [.nilsl,.int .i64 0,.int .i64 0]) ⟨[],0,0⟩:=⟨.nilsl,rfl,.inl ⟨rfl,rfl⟩⟩
   have hm3:=hm2
   have n01:¬σ1.no=σ1.no+1:=by omega
   have n02:¬σ1.no=σ1.no+1+1:=by omega
   have n12:¬σ1.no+1=σ1.no+1+1:=by omega
   have A3:zf σ1 ((((((σ1.newO [ycO,.int .i64 0,.int .i64 0]).setO σ1.no [.nilsl,.int .i64 0,.int .i64 0]).newO [ycO,.int .i64 0,.int .i64 0]).setO (σ1.no+1) [.nilsl,.int .i64 0,.int .i64 0]).newO [ycO,.int .i64 0,.int .i64 0]).setO (σ1.no+1+1) [.nilsl,.int .i64 0,.int .i64 0]):=((((((zf.refl σ1).newO.setO (Nat.le_refl _)).newO).setO (by omega)).newO).setO (by omega))
   have o1:((((((σ1.newO [ycO,.int .i64 0,.int .i64 0]).setO σ1.no [.nilsl,.int .i64 0,.int .i64 0]).newO [ycO,.int .i64 0,.int .i64 0]).setO (σ1.no+1) [.nilsl,.int .i64 0,.int .i64 0]).newO [ycO,.int .i64 0,.int .i64 0]).setO (σ1.no+1+1) [.nilsl,.int .i64 0,.int .i64 0]).objs σ1.no=some [.nilsl,.int .i64 0,.int .i64 0]:=by simp[n01,n02]
   have o2:((((((σ1.newO [ycO,.int .i64 0,.int .i64 0]).setO σ1.no [.nilsl,.int .i64 0,.int .i64 0]).newO [ycO,.int .i64 0,.int .i64 0]).setO (σ1.no+1) [.nilsl,.int .i64 0,.int .i64 0]).newO [ycO,.int .i64 0,.int .i64 0]).setO (σ1.no+1+1) [.nilsl,.int .i64 0,.int .i64 0]).objs (σ1.no+1)=some [.nilsl,.int .i64 0,.int .i64 0]:=by simp[n12]
   have o3:((((((σ1.newO [ycO,.int .i64 0,.int .i64 0]).setO σ1.no [.nilsl,.int .i64 0,.int .i64 0]).newO [ycO,.int .i64 0,.int .i64 0]).setO (σ1.no+1) [.nilsl,.int .i64 0,.int .i64 0]).newO [ycO,.int .i64 0,.int .i64 0]).setO (σ1.no+1+1) [.nilsl,.int .i64 0,.int .i64 0]).objs (σ1.no+1+1)=some [.nilsl,.int .i64 0,.int .i64 0]:=by simp
   have nτ:((((((σ1.newO [ycO,.int .i64 0,.int .i64 0]).setO σ1.no [.nilsl,.int .i64 0,.int .i64 0]).newO [ycO,.int .i64 0,.int .i64 0]).setO (σ1.no+1) [.nilsl,.int .i64 0,.int .i64 0]).newO [ycO,.int .i64 0,.int .i64 0]).setO (σ1.no+1+1) [.nilsl,.int .i64 0,.int .i64 0]).no=σ1.no+3:=by simp
   generalize ((((((σ1.newO [ycO,.int .i64 0,.int .i64 0]).setO σ1.no [.nilsl,.int .i64 0,.int .i64 0]).newO [ycO,.int .i64 0,.int .i64 0]).setO (σ1.no+1) [.nilsl,.int .i64 0,.int .i64 0]).newO [ycO,.int .i64 0,.int .i64 0]).setO (σ1.no+1+1) [.nilsl,.int .i64 0,.int .i64 0])=τ at *
   have h0τ:0<τ.nf∧τ.F 0=.alive:=⟨by have:=A3.nf;omega,(A3.fam 0 h01.1).trans h01.2⟩
   have hME:Al.ME τ σ.nf (.agg [.nilsl,.int .i64 0,.int .i64 0]) ⟨[],0,0⟩:=zME τ
   have hMO1:Al.MO τ (.agg [.nilsl,.int .i64 0,.int .i64 0]) ⟨[],0,0⟩:=Al.m_e h0τ hME
   refine Al.eqM_calls hMO1 (Al.m_o hm3) hfl hsz fun τ2 A2=>?_
   have p1:=(A2.obj σ1.no (by omega)).trans o1
   have p2:=(A2.obj (σ1.no+1) (by omega)).trans o2
   have p3:=(A2.obj (σ1.no+1+1) (by omega)).trans o3
   have hME2:=zpJ hME A2.nf fun f hf=>A2.fam f hf
   have h02:0<τ2.nf∧τ2.F 0≠.dead:=⟨by have:=A2.nf;omega,by rw[A2.fam 0 h0τ.1,h0τ.2];simp⟩
   have n2:=A2.no
   simp[p1,p2,p3]
   refine Al.spoilM_calls hME2 h00.1 (by simp) (fun f hf=>(hsz f hf).params) (fun f hf=>(hsz f hf).locals) (fun f hf=>(hsz f hf).lists) (fun f hf r hr=>by have:=(hsz f hf).rows r hr;omega) h02 fun τ3 S3=>?_
   have r2:=(S3.obj (σ1.no+1) (by omega)).trans p2
   have r3:=(S3.obj (σ1.no+1+1) (by omega)).trans p3
   simp[r2,r3]
   refine Al.eqM_calls (Al.m_o hm2) (Al.m_o hm3) hfl hsz fun τ4 A4=>?_
   simp
   refine znL VT hG hy ?_
   simp
   exact h _
  ·have h01:0<σ1.nf∧σ1.F 0=.alive:=⟨by have:=A1.nf;omega,(A1.fam 0 h00.1).trans h00.2⟩
   have hmv':=hmv
   obtain⟨fv,rfl,hof⟩:=hmv'
   have fv1:=zhZ hof
   obtain⟨toks,t1,hpf,hmem,hmain⟩:=zm0 hmo
   obtain⟨n1,n2⟩:=znK hmo
   have hfl:m.funcs.length≤2^30:=by omega
   have hsz:∀f∈m.funcs,Al.SzE f:=fun f hf=>by
    obtain⟨a,b,c,d⟩:=n2 f hf
    exact⟨by omega,by omega,by omega,fun r hr=>by have:=d r hr;omega⟩
   simp[fv1,splice]
   refine znO VT hG hy hsl (fun e2 he2=>by rw[hmo]at he2;cases he2) (fun m2 mv2 hmo2 hm2=>?_)
   rw[hmo]at hmo2;cases hmo2
   have hm2':=hm2
   obtain⟨gv,rfl,hgs⟩:=hm2'
   have gv1:=hgs.one
   simp[gv1,splice]
   refine znP hG hy hsl (fun e3 he3=>by rw[hmo]at he3;cases he3) (fun m3 mv3 hmo3 hm3=>?_)
   rw[hmo]at hmo3;cases hmo3
   have hm3':=hm3
   obtain⟨kv,rfl,hks⟩:=hm3'
   have kv1:=hks.one
   simp[fv1,gv1,kv1,splice,show ¬σ1.no=σ1.no+1+1 by omega,show ¬σ1.no=σ1.no+1 by omega]
   have n01:¬σ1.no=σ1.no+1:=by omega
   have n02:¬σ1.no=σ1.no+1+1:=by omega
   have n12:¬σ1.no+1=σ1.no+1+1:=by omega
   have A3:zf σ1 ((((((σ1.newO [ycO,.int .i64 0,.int .i64 0]).setO σ1.no [fv,.int .i64 m.memory,.int .i64 m.main]).newO [ycO,.int .i64 0,.int .i64 0]).setO (σ1.no+1) [gv,.int .i64 m.memory,.int .i64 m.main]).newO [ycO,.int .i64 0,.int .i64 0]).setO (σ1.no+1+1) [kv,.int .i64 m.memory,.int .i64 m.main]):=((((((zf.refl σ1).newO.setO (Nat.le_refl _)).newO).setO (by omega)).newO).setO (by omega))
   have o1:((((((σ1.newO [ycO,.int .i64 0,.int .i64 0]).setO σ1.no [fv,.int .i64 m.memory,.int .i64 m.main]).newO [ycO,.int .i64 0,.int .i64 0]).setO (σ1.no+1) [gv,.int .i64 m.memory,.int .i64 m.main]).newO [ycO,.int .i64 0,.int .i64 0]).setO (σ1.no+1+1) [kv,.int .i64 m.memory,.int .i64 m.main]).objs σ1.no=some [fv,.int .i64 m.memory,.int .i64 m.main]:=by simp[n01,n02]
   have o2:((((((σ1.newO [ycO,.int .i64 0,.int .i64 0]).setO σ1.no [fv,.int .i64 m.memory,.int .i64 m.main]).newO [ycO,.int .i64 0,.int .i64 0]).setO (σ1.no+1) [gv,.int .i64 m.memory,.int .i64 m.main]).newO [ycO,.int .i64 0,.int .i64 0]).setO (σ1.no+1+1) [kv,.int .i64 m.memory,.int .i64 m.main]).objs (σ1.no+1)=some [gv,.int .i64 m.memory,.int .i64 m.main]:=by simp[n12]
   have o3:((((((σ1.newO [ycO,.int .i64 0,.int .i64 0]).setO σ1.no [fv,.int .i64 m.memory,.int .i64 m.main]).newO [ycO,.int .i64 0,.int .i64 0]).setO (σ1.no+1) [gv,.int .i64 m.memory,.int .i64 m.main]).newO [ycO,.int .i64 0,.int .i64 0]).setO (σ1.no+1+1) [kv,.int .i64 m.memory,.int .i64 m.main]).objs (σ1.no+1+1)=some [kv,.int .i64 m.memory,.int .i64 m.main]:=by simp
   have nτ:((((((σ1.newO [ycO,.int .i64 0,.int .i64 0]).setO σ1.no [fv,.int .i64 m.memory,.int .i64 m.main]).newO [ycO,.int .i64 0,.int .i64 0]).setO (σ1.no+1) [gv,.int .i64 m.memory,.int .i64 m.main]).newO [ycO,.int .i64 0,.int .i64 0]).setO (σ1.no+1+1) [kv,.int .i64 m.memory,.int .i64 m.main]).no=σ1.no+3:=by simp
   generalize ((((((σ1.newO [ycO,.int .i64 0,.int .i64 0]).setO σ1.no [fv,.int .i64 m.memory,.int .i64 m.main]).newO [ycO,.int .i64 0,.int .i64 0]).setO (σ1.no+1) [gv,.int .i64 m.memory,.int .i64 m.main]).newO [ycO,.int .i64 0,.int .i64 0]).setO (σ1.no+1+1) [kv,.int .i64 m.memory,.int .i64 m.main])=τ at *
   have h0τ:0<τ.nf∧τ.F 0=.alive:=⟨by have:=A3.nf;omega,(A3.fam 0 h01.1).trans h01.2⟩
   have hME:Al.ME τ σ.nf (.agg [fv,.int .i64 m.memory,.int .i64 m.main]) m:=zpJ hmv A3.nf fun f hf=>A3.fam f hf
   have hMO1:Al.MO τ (.agg [fv,.int .i64 m.memory,.int .i64 m.main]) m:=Al.m_e h0τ hME
   refine Al.eqM_calls hMO1 (Al.m_o hm3) (by omega) hsz fun τ2 A2=>?_
   have p1:=(A2.obj σ1.no (by omega)).trans o1
   have p2:=(A2.obj (σ1.no+1) (by omega)).trans o2
   have p3:=(A2.obj (σ1.no+1+1) (by omega)).trans o3
   have hME2:=zpJ hME A2.nf fun f hf=>A2.fam f hf
   have h02:0<τ2.nf∧τ2.F 0≠.dead:=⟨by have:=A2.nf;omega,by rw[A2.fam 0 h0τ.1,h0τ.2];simp⟩
   have n2:=A2.no
   simp[p1,p2,p3,fv1,gv1,kv1]
   refine Al.spoilM_calls hME2 h00.1 (by omega) (fun f hf=>(hsz f hf).params) (fun f hf=>(hsz f hf).locals) (fun f hf=>(hsz f hf).lists) (fun f hf r hr=>by have:=(hsz f hf).rows r hr;omega) h02 fun τ3 S3=>?_
   have r2:=(S3.obj (σ1.no+1) (by omega)).trans p2
   have r3:=(S3.obj (σ1.no+1+1) (by omega)).trans p3
   simp[r2,r3,fv1,gv1,kv1]
   refine Al.eqM_calls (Al.m_o hm2) (Al.m_o hm3) (by omega) hsz fun τ4 A4=>?_
   simp
   refine znL VT hG hy ?_
   simp
   exact h _
end
end Go.Proofs.YtohfclafhegadaaGreatDoor
