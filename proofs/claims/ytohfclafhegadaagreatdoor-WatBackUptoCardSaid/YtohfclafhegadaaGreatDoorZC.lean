/- Parts of the proof of the row WatBackUpto: contracts of functions, each under the conditions that its theorem names. -/
import Derived.Test.YtohfclafhegadaaGreatDoorZB
import Derived.Test.YtohfclafhegadaaGreatDoorZA
import Derived.Test.YtohfclafhegadaaGreatDoorRows
import Derived.Test.YtohfclafhegadaaGreatDoorAbsB
set_option linter.unusedSimpArgs false
set_option linter.unusedVariables false
set_option maxRecDepth 100000
open List renaming mem_cons→ybC,length_cons→yac,getElem?_eq_getElem→yau,mem_map_of_mem→yaW,getElem_mem→yaw,take_succ_eq_append_getElem→ycl,take_length→ycm,take_of_length_le→ycN,replicate→yaj,length_pos_iff→ybm,getLast?_eq_some_getLast→ydh,append_assoc→ycF,getD_eq_getElem?_getD→ycf,all_eq_true→yaM,length_nil→ybl,reverse_nil→ydj,reverse_cons→ydk,nil_append→ycE,mem_of_getElem?→ycs,length_take→ybf,mem_flatMap→ycv,cons→ydl,take→ycM,map_take→ydm,length_append→yab,length_singleton→ydp,mem_append→ybh,replicate_succ→ycy,getElem?_eq_some_iff→yaq,map_set→ydr,flatMap_cons→yaa,count_append→yds,count_singleton→ydt,getElem_of_mem→ya9,getElem?_append_left→yat,getElem?_append_right→yaI,getElem?_cons_zero→yc4,prefix_append→ycH,prefix_refl→ydu,getElem?_eq_none_iff→ydv,getElem?_eq_none→yb2,map_cons→yaL
open Nat renaming le_trans→yai,le_refl→yah,pow_le_pow_right→ydo
open Option renaming some→yaR
open Int renaming le_refl→ydi,eq_ofNat_of_zero_le→ydn,toNat_natCast→ybe,tmod_lt_of_pos→ydw
open Go.Proofs.Tryz renaming prog→yb9,underlying3→yc9,underlying44→ydb,underlying57→ydc,underlying28→ydd
open Go.IntKind renaming min→yda,max→yan,signed→yao,bits→yap,wrap→yb4,u64→yde,i64→yam,i32→ydf,u8→ydg
open Go.Abs.AV renaming int→yco,str→ycn,slm→ydq,nilsl→ycu
namespace Go.Proofs.YtohfclafhegadaaGreatDoor
open Go Go.Abs Go.RowKit Go.ChangeShapes Go.WideShapes Go.ChangeAt
def Bk{H:Type}(d:DataW H):Prop:=Rows.uptoBulk d≤1048576
theorem zkB{H:Type}{d:DataW H}{l:List (DataW H)}(h:d∈l):Rows.uptoBulk d≤Rows.uptoBulkAll l:=by
 induction l with
 | nil=>cases h
 | cons x r ih =>
  simp only[Rows.uptoBulkAll]
  rcases ybC.1 h with rfl|e
  ·omega
  ·have:=ih e;omega
theorem Bk.slice{H:Type}{ds rs:List (DataW H)}(h:Bk (.slice ds rs)):∀d∈ds,Bk d:=fun d hd=>by
 have:=zkB hd
 unfold Bk at *
 simp only[Rows.uptoBulk]at h
 omega
theorem Bk.agg{H:Type}{ds:List (DataW H)}(h:Bk (.agg ds)):∀d∈ds,Bk d:=fun d hd=>by
 have:=zkB hd
 unfold Bk at *
 simp only[Rows.uptoBulk]at h
 omega
theorem Bk.str{H:Type}{s:List UInt8}(h:Bk (.lit (.string s):DataW H)):s.length≤2^20:=by
 unfold Bk at h
 simp only[Rows.uptoBulk]at h
 omega
theorem zoy{H:Type}:∀{l:List (DataW H)},l.length≤Rows.uptoBulkAll l
 | []=>by simp[Rows.uptoBulkAll]
 | d::r=>by
  have:=zoy (l:=r)
  have h1:1≤Rows.uptoBulk d:=by cases d<;>(try rename_i x;cases x)<;>simp[Rows.uptoBulk]
  simp only[Rows.uptoBulkAll,yac]
  omega
theorem Bk.len{H:Type}{ds rs:List (DataW H)}(h:Bk (.slice ds rs)):ds.length≤2^20:=by
 have:=zoy (l:=ds)
 unfold Bk at h
 simp only[Rows.uptoBulk]at h
 omega
theorem zeh{H T:Type}{enc:TypeId × Value→H}{w:World}{fuel:Nat}{t e:TypeId}{cs:List Value}{x:DataW H × List MemPlace}{sz:Nat}(Rel:AV→T→Prop)
  (ht:yb9.underlying t=some (.slice e)) (hc:yb9.cellsOf e=sz) (hsz:0<sz) (hb:0<yb9.bytesOf e)
  (ih:∀n cs' d q,DataW.trod enc yb9 w 0 (fun _=>true) true n e cs'=some (d,q)→zkN e d→Bk d→∃v o,Rel v o∧zb1 w v cs')
  (h:DataW.trod enc yb9 w 0 (fun _=>true) true fuel t cs=some x) (hw:zkN t x.1) (hk:Bk x.1) :
  ∃(v:AV) (os:List T),zb1 w v cs∧((os=[]∧v=.nilsl)∨∃vs,v=.sl (.stat false) sz vs∧All2 Rel vs os)∧os.length≤2^20:=by
 obtain⟨v,os,h1,h2,h3,h4⟩:=zpr Rel Bk ht hc hsz hb ih h hw fun ds rs e=>Bk.slice (e▸hk)
 rcases h2 with h2|h2
 ·exact⟨v,os,h1,.inl h2,by rw[h2.1];simp⟩
 ·refine⟨v,os,h1,.inr h2,?_⟩
  rcases DataW.trod_slice ht h with ⟨rfl,rfl⟩|⟨a,len,cap,elems,rest,n,rfl,rfl,rfl,_⟩
  ·obtain⟨vs,rfl,_⟩:=h2
   exact absurd h1.2 fun q=>by
    have:=q 0 (by simp[AV.cells]) (by simp)
    cases this
  ·exact yai (h4 _ _ rfl) hk.len
def zJi(v:AV)(n:Int):Prop:=v=.int .i64 n∧-(2^63)≤n∧n≤2^63-1
theorem zyi{H:Type}{enc:TypeId × Value→H}{w:World}{n:Nat}{cs:List Value}{x:DataW H × List MemPlace}(h:DataW.trod enc yb9 w 0 (fun _=>true) true n 3 cs=some x):∃v o,zJi v o∧zb1 w v cs:=by
 obtain⟨k,rfl,_,hw⟩:=DataW.trod_int yc9 h
 simp[Lit.wf,yda,yan,yao,yap]at hw
 exact⟨.int .i64 k,k,⟨rfl,by omega,by omega⟩,.one (.int ..) rfl⟩
theorem All2.ints{vs:List AV}{l:List Int}(h:All2 zJi vs l):vs=l.map (.int .i64):=by
 induction h with
 | nil=>rfl
 | cons h r ih=>rw[h.1,ih];rfl
def zJj(v:AV)(l:List Int):Prop:=zZ v l∧l.length≤2^20
theorem zkC{H:Type}{enc:TypeId × Value→H}{w:World}{n:Nat}{cs:List Value}{x:DataW H × List MemPlace}(h:DataW.trod enc yb9 w 0 (fun _=>true) true n 44 cs=some x)(hw:zkN 44 x.1)(hk:Bk x.1):∃v o,zJj v o∧zb1 w v cs:=by
 obtain⟨v,os,h1,h2,h3⟩:=zeh (sz:=1) zJi ydb (by kernel_rfl) (by omega) (of_decide_eq_true (by kernel_rfl)) (fun n cs' d q h _ _=>zyi h) h hw hk
 refine⟨v,os,⟨?_,h3⟩,h1⟩
 rcases h2 with h2|⟨vs,rfl,h4⟩
 ·exact .inl h2
 ·exact .inr ⟨false,by rw[h4.ints]⟩
def WR(v:AV)(w:W):Prop:=v=w.av∧RgW w
theorem zda{H:Type}{enc:TypeId × Value→H}{w:World}{n:Nat}{c:Value}{x:DataW H × List MemPlace}(h:DataW.trod enc yb9 w 0 (fun _=>true) true n 3 [c]=some x):∃k:Int,c=.int .i64 k∧-(2^63)≤k∧k<2^63:=by
 obtain⟨k,h1,_,hw⟩:=DataW.trod_int yc9 h
 simp[Lit.wf,yda,yan,yao,yap]at hw
 exact⟨k,by simpa using h1,by omega,by omega⟩
theorem zwc{H:Type}{enc:TypeId × Value→H}{w:World}{n:Nat}{c:Value}{x:DataW H × List MemPlace}(h:DataW.trod enc yb9 w 0 (fun _=>true) true n 9 [c]=some x):∃s:ByteArray,c=.string s∧x.1=.lit (.string s.data.toList):=by
 obtain⟨s,h1,h2,_⟩:=DataW.trod_string Tryz.underlying9 h
 exact⟨s,by simpa using h1,by rw[h2]⟩
theorem zJk{H:Type}{enc:TypeId × Value→H}{w:World}{n:Nat}{cs:List Value}{x:DataW H × List MemPlace}(h:DataW.trod enc yb9 w 0 (fun _=>true) true n 53 cs=some x):∃v o,WR v o∧zb1 w v cs:=by
 obtain⟨xs,n,rfl,hx,hlen,hxl,hf⟩:=DataW.trod_struct Tryz.underlying53 h
 have hxl':xs.length=6:=hxl
 have hlen':cs.length=6:=hlen.trans (by kernel_rfl)
 match cs,hlen' with
 | [a,b,c,d,e,f],_ =>
  have c9:yb9.cellsOf 9=1:=by kernel_rfl
  have c3:yb9.cellsOf 3=1:=by kernel_rfl
  have f0:DataW.trod enc yb9 w 0 (fun _=>true) true n 3 [a]=xs[0]?:=by
   have h:DataW.trod enc yb9 w 0 (fun _=>true) true n 3 ((([a,b,c,d,e,f]:List Value).drop 0).take (yb9.cellsOf 3))=xs[0]?:=hf 0 _ rfl
   rw[c3]at h;exact h
  have f1:DataW.trod enc yb9 w 0 (fun _=>true) true n 3 [b]=xs[1]?:=by
   have h:DataW.trod enc yb9 w 0 (fun _=>true) true n 3 ((([a,b,c,d,e,f]:List Value).drop 1).take (yb9.cellsOf 3))=xs[1]?:=hf 1 _ rfl
   rw[c3]at h;exact h
  have f2:DataW.trod enc yb9 w 0 (fun _=>true) true n 3 [c]=xs[2]?:=by
   have h:DataW.trod enc yb9 w 0 (fun _=>true) true n 3 ((([a,b,c,d,e,f]:List Value).drop 2).take (yb9.cellsOf 3))=xs[2]?:=hf 2 _ rfl
   rw[c3]at h;exact h
  have f3:DataW.trod enc yb9 w 0 (fun _=>true) true n 3 [d]=xs[3]?:=by
   have h:DataW.trod enc yb9 w 0 (fun _=>true) true n 3 ((([a,b,c,d,e,f]:List Value).drop 3).take (yb9.cellsOf 3))=xs[3]?:=hf 3 _ rfl
   rw[c3]at h;exact h
  have f4:DataW.trod enc yb9 w 0 (fun _=>true) true n 3 [e]=xs[4]?:=by
   have h:DataW.trod enc yb9 w 0 (fun _=>true) true n 3 ((([a,b,c,d,e,f]:List Value).drop 4).take (yb9.cellsOf 3))=xs[4]?:=hf 4 _ rfl
   rw[c3]at h;exact h
  have f5:DataW.trod enc yb9 w 0 (fun _=>true) true n 9 [f]=xs[5]?:=by
   have h:DataW.trod enc yb9 w 0 (fun _=>true) true n 9 ((([a,b,c,d,e,f]:List Value).drop 5).take (yb9.cellsOf 9))=xs[5]?:=hf 5 _ rfl
   rw[c9]at h;exact h
  rw[yau (by omega)]at f0 f1 f2 f3 f4 f5
  obtain⟨k0,rfl,_⟩:=zda f0
  obtain⟨k1,rfl,_⟩:=zda f1
  obtain⟨k2,rfl,hn⟩:=zda f2
  obtain⟨k3,rfl,_⟩:=zda f3
  obtain⟨k4,rfl,_⟩:=zda f4
  obtain⟨s,rfl,_⟩:=zwc f5
  refine⟨_,⟨k0,k1,k2,k3,k4,s.data.toList⟩,⟨rfl,hn⟩,rfl,fun j h1 h2=>?_⟩
  have:j<6:=h2
  match j,this with
  | 0,_=>exact .int ..
  | 1,_=>exact .int ..
  | 2,_=>exact .int ..
  | 3,_=>exact .int ..
  | 4,_=>exact .int ..
  | 5,_=>exact .str s
theorem All2.ws{vs:List AV}{l:List W}(h:All2 WR vs l):vs=l.map W.av∧∀w∈l,RgW w:=by
 induction h with
 | nil=>simp
 | cons h r ih=>refine⟨by rw[h.1,ih.1];rfl,fun w hw=>?_⟩;rcases ybC.1 hw with rfl|hw;exact h.2;exact ih.2 w hw
theorem All2.mono{α β:Type}{R S:α→β→Prop}{xs ys}(h:All2 R xs ys)(hs:∀x y,R x y→S x y):All2 S xs ys:=by
 induction h with
 | nil=>exact .nil
 | cons h r ih=>exact .cons (hs _ _ h) ih
theorem All2.right{α β:Type}{R:α→β→Prop}{P:β→Prop}{xs ys}(h:All2 R xs ys)(hs:∀x y,R x y→P y):∀y∈ys,P y:=by
 induction h with
 | nil=>simp
 | cons h r ih=>intro y hy;rcases ybC.1 hy with rfl|hy;exact hs _ _ h;exact ih y hy
def zKJ(v:AV)(l:List W):Prop:=zo4 v l∧l.length≤2^20∧∀w∈l,RgW w
theorem zyj{H:Type}{enc:TypeId × Value→H}{w:World}{n:Nat}{cs:List Value}{x:DataW H × List MemPlace}(h:DataW.trod enc yb9 w 0 (fun _=>true) true n 54 cs=some x)(hw:zkN 54 x.1)(hk:Bk x.1):∃v o,zKJ v o∧zb1 w v cs:=by
 obtain⟨v,os,h1,h2,h3⟩:=zeh (sz:=6) WR Tryz.underlying54 (by kernel_rfl) (by omega) (of_decide_eq_true (by kernel_rfl)) (fun n cs' d q h _ _=>zJk h) h hw hk
 rcases h2 with ⟨rfl,rfl⟩|⟨vs,rfl,h4⟩
 ·exact⟨_,[],⟨.inl ⟨rfl,rfl⟩,h3,by simp⟩,h1⟩
 ·obtain⟨e,hn⟩:=h4.ws
  exact⟨_,os,⟨.inr ⟨false,by rw[e]⟩,h3,hn⟩,h1⟩
def zE1(v:AV)(l:To):Prop:=zcs v l∧l.length≤2^20∧(∀r∈l,r.length≤2^20)∧∀r∈l,∀w∈r,RgW w
theorem zrt{H:Type}{enc:TypeId × Value→H}{w:World}{n:Nat}{cs:List Value}{x:DataW H × List MemPlace}(h:DataW.trod enc yb9 w 0 (fun _=>true) true n 55 cs=some x)(hw:zkN 55 x.1)(hk:Bk x.1):∃v o,zE1 v o∧zb1 w v cs:=by
 obtain⟨v,os,h1,h2,h3⟩:=zeh (sz:=1) zKJ Tryz.underlying55 (by kernel_rfl) (by omega) (of_decide_eq_true (by kernel_rfl)) (fun n cs' d q h hw hk=>zyj h hw hk) h hw hk
 rcases h2 with ⟨rfl,rfl⟩|⟨vs,rfl,h4⟩
 ·exact⟨_,[],⟨.inl ⟨rfl,rfl⟩,h3,by simp,by simp⟩,h1⟩
 ·exact⟨_,os,⟨.inr ⟨false,vs,rfl,h4.mono fun _ _ h=>h.1⟩,h3,h4.right fun _ _ h=>h.2.1,h4.right fun _ _ h=>h.2.2⟩,h1⟩
def FR(v:AV)(f:F):Prop:=FV v f∧zyh f∧RgL f.lists
theorem zJl{H:Type}{enc:TypeId × Value→H}{w:World}{n:Nat}{cs:List Value}{x:DataW H × List MemPlace}(h:DataW.trod enc yb9 w 0 (fun _=>true) true n 57 cs=some x)(hw:zkN 57 x.1)(hb:Bk x.1):∃v o,FR v o∧zb1 w v cs:=by
 obtain⟨xs,n,rfl,hx,hlen,hxl,hf⟩:=DataW.trod_struct ydc h
 have hxl':xs.length=5:=hxl
 have hlen':cs.length=5:=hlen.trans (by kernel_rfl)
 unfold zkN at hw
 rw[hx]at hw hb
 unfold DataW.weights at hw
 rw[ydc]at hw
 simp only at hw
 have hwt:=zl6 hw
 match cs,hlen' with
 | [a,b,c,d,e],_ =>
  have c9:yb9.cellsOf 9=1:=by kernel_rfl
  have c3:yb9.cellsOf 3=1:=by kernel_rfl
  have c44:yb9.cellsOf 44=1:=by kernel_rfl
  have c55:yb9.cellsOf 55=1:=by kernel_rfl
  have f0:DataW.trod enc yb9 w 0 (fun _=>true) true n 9 [a]=xs[0]?:=by
   have h:DataW.trod enc yb9 w 0 (fun _=>true) true n 9 ((([a,b,c,d,e]:List Value).drop 0).take (yb9.cellsOf 9))=xs[0]?:=hf 0 _ rfl
   rw[c9]at h;exact h
  have f1:DataW.trod enc yb9 w 0 (fun _=>true) true n 44 [b]=xs[1]?:=by
   have h:DataW.trod enc yb9 w 0 (fun _=>true) true n 44 ((([a,b,c,d,e]:List Value).drop 1).take (yb9.cellsOf 44))=xs[1]?:=hf 1 _ rfl
   rw[c44]at h;exact h
  have f2:DataW.trod enc yb9 w 0 (fun _=>true) true n 44 [c]=xs[2]?:=by
   have h:DataW.trod enc yb9 w 0 (fun _=>true) true n 44 ((([a,b,c,d,e]:List Value).drop 2).take (yb9.cellsOf 44))=xs[2]?:=hf 2 _ rfl
   rw[c44]at h;exact h
  have f3:DataW.trod enc yb9 w 0 (fun _=>true) true n 3 [d]=xs[3]?:=by
   have h:DataW.trod enc yb9 w 0 (fun _=>true) true n 3 ((([a,b,c,d,e]:List Value).drop 3).take (yb9.cellsOf 3))=xs[3]?:=hf 3 _ rfl
   rw[c3]at h;exact h
  have f4:DataW.trod enc yb9 w 0 (fun _=>true) true n 55 [e]=xs[4]?:=by
   have h:DataW.trod enc yb9 w 0 (fun _=>true) true n 55 ((([a,b,c,d,e]:List Value).drop 4).take (yb9.cellsOf 55))=xs[4]?:=hf 4 _ rfl
   rw[c55]at h;exact h
  rw[yau (by omega)]at f0 f1 f2 f3 f4
  obtain⟨s,rfl,hs⟩:=zwc f0
  have hsl:s.data.toList.length≤2^20:=Bk.str (H:=H) (hs▸hb.agg _ (yaW (yaw (show 0<xs.length by omega))))
  obtain⟨k,rfl,_⟩:=zda f3
  obtain⟨pv,ps,⟨hp,hpl⟩,hp'⟩:=zkC f1 (hwt 1 44 _ rfl (by simp[yau (show 1<xs.length by omega)])) (hb.agg _ (yaW (yaw (show 1<xs.length by omega))))
  obtain⟨lv,ls,⟨hl,hll⟩,hl'⟩:=zkC f2 (hwt 2 44 _ rfl (by simp[yau (show 2<xs.length by omega)])) (hb.agg _ (yaW (yaw (show 2<xs.length by omega))))
  obtain⟨tv,ts,⟨ht,htl,htr,htn⟩,ht'⟩:=zrt f4 (hwt 4 55 _ rfl (by simp[yau (show 4<xs.length by omega)])) (hb.agg _ (yaW (yaw (show 4<xs.length by omega))))
  refine⟨_,⟨s.data.toList,ps,ls,k,ts⟩,⟨⟨pv,lv,tv,rfl,hp,hl,ht⟩,⟨hpl,hll,htl,htr,Nat.lt_of_le_of_lt hsl (by decide),fun l h w hw=>by have:=(htn l h w hw).2;omega⟩,htn⟩,rfl,fun j h1 h2=>?_⟩
  have:j<5:=h2
  match j,this with
  | 0,_=>exact .str s
  | 1,_=>exact hp'.tO hp.one.2.2
  | 2,_=>exact hl'.tO hl.one.2.2
  | 3,_=>exact .int ..
  | 4,_=>exact ht'.tO ht.one.2.2
theorem zJm{H:Type}{enc:TypeId × Value→H}{w:World}{n:Nat}{cs:List Value}{x:DataW H × List MemPlace}(h:DataW.trod enc yb9 w 0 (fun _=>true) true n 28 cs=some x)(hw:zkN 28 x.1)(hb:Bk x.1):∃v m,MV v m∧m.funcs.length≤2^20∧(∀f∈m.funcs,zyh f)∧(∀f∈m.funcs,RgL f.lists)∧zb1 w v cs:=by
 obtain⟨xs,n,rfl,hx,hlen,hxl,hf⟩:=DataW.trod_struct ydd h
 have hxl':xs.length=3:=hxl
 have hlen':cs.length=3:=hlen.trans (by kernel_rfl)
 unfold zkN at hw
 rw[hx]at hw hb
 unfold DataW.weights at hw
 rw[ydd]at hw
 simp only at hw
 have hwt:=zl6 hw
 match cs,hlen' with
 | [a,b,c],_ =>
  have c26:yb9.cellsOf 26=1:=by kernel_rfl
  have c3:yb9.cellsOf 3=1:=by kernel_rfl
  have f0:DataW.trod enc yb9 w 0 (fun _=>true) true n 26 [a]=xs[0]?:=by
   have h:DataW.trod enc yb9 w 0 (fun _=>true) true n 26 ((([a,b,c]:List Value).drop 0).take (yb9.cellsOf 26))=xs[0]?:=hf 0 _ rfl
   rw[c26]at h;exact h
  have f1:DataW.trod enc yb9 w 0 (fun _=>true) true n 3 [b]=xs[1]?:=by
   have h:DataW.trod enc yb9 w 0 (fun _=>true) true n 3 ((([a,b,c]:List Value).drop 1).take (yb9.cellsOf 3))=xs[1]?:=hf 1 _ rfl
   rw[c3]at h;exact h
  have f2:DataW.trod enc yb9 w 0 (fun _=>true) true n 3 [c]=xs[2]?:=by
   have h:DataW.trod enc yb9 w 0 (fun _=>true) true n 3 ((([a,b,c]:List Value).drop 2).take (yb9.cellsOf 3))=xs[2]?:=hf 2 _ rfl
   rw[c3]at h;exact h
  rw[yau (by omega)]at f0 f1 f2
  obtain⟨k1,rfl,_⟩:=zda f1
  obtain⟨k2,rfl,_⟩:=zda f2
  obtain⟨fv,fs,h1,h2,h3⟩:=zeh (sz:=5) FR Tryz.underlying26 (by kernel_rfl) (by omega) (of_decide_eq_true (by kernel_rfl)) (fun n cs' d q h hw hb=>zJl h hw hb) f0 (hwt 0 26 _ rfl (by simp[yau (show 0<xs.length by omega)])) (hb.agg _ (yaW (yaw (show 0<xs.length by omega))))
  have hfv:FsV fv fs∧∀f∈fs,∃v,FR v f:=by
   rcases h2 with ⟨rfl,rfl⟩|⟨vs,rfl,h4⟩
   ·exact⟨.inl ⟨rfl,rfl⟩,by simp⟩
   ·exact⟨.inr ⟨false,vs,rfl,h4.mono fun _ _ h=>h.1⟩,h4.right fun v _ h=>⟨v,h⟩⟩
  obtain⟨hfv,hall⟩:=hfv
  refine⟨_,⟨fs,k1,k2⟩,⟨fv,rfl,hfv⟩,h3,fun f hf=>?_,fun f hf=>?_,rfl,fun j h4 h5=>?_⟩
  ·obtain⟨v,h⟩:=hall f hf;exact h.2.1
  ·obtain⟨v,h⟩:=hall f hf;exact h.2.2
  have:j<3:=h5
  match j,this with
  | 0,_=>exact h1.tO hfv.one.2.2
  | 1,_=>exact .int ..
  | 2,_=>exact .int ..
theorem zJn{H:Type}{enc:TypeId × Value→H}{W:World}{v:Value}{d:DataW H}{p:List MemPlace}{base:Nat}(hval:Value.okWide yb9 W .any base 28 v)(h:DataW.Trod enc yb9 W 0 (fun _=>true) true 28 v d p)
  (hw:zkN 28 d) (hb:Bk d):∃mv m,MV mv m∧m.funcs.length≤2^20∧(∀f∈m.funcs,zyh f)∧(∀f∈m.funcs,RgL f.lists)∧VR (Mp.all W) AS.zero.F W mv v:=by
 obtain⟨cs,rfl,hsz⟩:=okWide_struct ydd hval
 obtain⟨fuel,hf⟩:=h
 obtain⟨mv,m,h1,h2,h3,h4,h5⟩:=zJm hf hw hb
 obtain⟨fv,rfl,hfs⟩:=h1
 refine⟨_,m,⟨fv,rfl,hfs⟩,h2,h3,h4,.agg _ _ ?_ fun j h h'=>?_⟩
 ·have:=h5.1
  simp[AV.cells,Value.cells]at this ⊢
  omega
 ·exact h5.2 j h (by simpa [Value.cells]using h')
theorem zuV{H:Type}{enc:TypeId × Value→H}{W:World}{v:Value}{d:DataW H}{p:List MemPlace}{base:Nat}(hval:Value.okWide yb9 W .any base 44 v)(h:DataW.Trod enc yb9 W 0 (fun _=>true) true 44 v d p)
  (hw:zkN 44 d) (hb:Bk d):∃iv input,zZ iv input∧VR (Mp.all W) AS.zero.F W iv v:=by
 obtain⟨a,len,cap,rfl⟩:=okWide_slice ydb hval
 obtain⟨fuel,hf⟩:=h
 obtain⟨iv,input,⟨h1,h2⟩,h4⟩:=zkC (cs:=[.slice a len cap]) hf hw hb
 exact⟨iv,input,h1,h4.tO h1.one.2.2⟩
theorem zuW{H:Type}{enc:TypeId × Value→H}{w:World}{n:Int}{d:DataW H}{p:List MemPlace}(h:DataW.Trod enc yb9 w 0 (fun _=>true) true 3 (.int .i64 n) d p):-(2^63)≤n∧n<2^63:=by
 obtain⟨fuel,hf⟩:=h
 obtain⟨k,e,h1,h2⟩:=zda (c:=.int .i64 n) hf
 simp only[Value.int.injEq,true_and]at e
 subst e
 exact⟨h1,h2⟩
def zgD(M:Mp):Mp:={ M with role:=fun B=>match M.role B with
  | some (.fam _)=>some .stat
  | r=>r }
def zuX:Nat→FSt:=fun _=>.dead
def zl8(σ:AS):AS:={ σ with F:=zuX }
theorem zru{M:Mp}{B f:Nat}(h:M.role B=some (.fam f)):(zgD M).role B=some .stat:=by simp[zgD,h]
theorem zeW{M:Mp}{B:Nat}{r:Role}(h:M.role B=some r)(hr:∀f,r≠.fam f):(zgD M).role B=some r:=by
 cases r with
 | fam f=>exact absurd rfl (hr f)
 | st m=>simp[zgD,h]
 | obj=>simp[zgD,h]
theorem zkD{M:Mp}{F:Nat→FSt}{w:World}:Ext M F w (zgD M) zuX w where
 io:=.refl _
 no:=yah _
 nf:=yah _
 obj _ _:=rfl
 dead _ _ _:=rfl
 spoil _ _ _:=by simp[zuX]
 size:=yah _
 shape _ _ _ _ h:=.same h rfl
 stat B m h:=⟨zeW h (fun f q=>by cases q),.inl rfl⟩
 free B _ h:=⟨by simp[zgD,h],rfl⟩
 famr _ _ _ _ h:=absurd rfl h
 famc _ _ _ _ _:=rfl
end Go.Proofs.YtohfclafhegadaaGreatDoor
namespace Go.Abs
open Go Go.Abs Go.RowKit Go.ChangeShapes Go.WideShapes Go.ChangeAt
open Go.Proofs.YtohfclafhegadaaGreatDoor
theorem Sim.kill{M:Mp}{σ:AS}{w:World}(S:Sim M σ w):Sim (zgD M) (zl8 σ) w where
 no:=S.no
 nf:=S.nf
 role B r h:=by
  cases hq:M.role B with
  | none=>simp[zgD,hq]at h
  | some r'=>exact S.role B r' hq
 obj o cs h:=by
  obtain⟨h1,h2,h3⟩:=S.obj o cs h
  refine⟨h1,zeW h2 (fun f q=>by cases q),fun j hj=>?_⟩
  obtain⟨c,a,b,d⟩:=h3 j hj
  exact⟨c,a,b,d.mono zkD⟩
 inj:=S.inj
end Go.Abs
namespace Go.Proofs.YtohfclafhegadaaGreatDoor
open Go Go.Abs Go.RowKit Go.ChangeShapes Go.WideShapes Go.ChangeAt
end Go.Proofs.YtohfclafhegadaaGreatDoor
namespace Go.Abs
open Go Go.Abs Go.RowKit Go.ChangeShapes Go.WideShapes Go.ChangeAt
open Go.Proofs.YtohfclafhegadaaGreatDoor
theorem VR.kill{M:Mp}{F:Nat→FSt}{w:World}{v:AV}{c:Value}(h:VR M F w v c)(hs:Cb F v):VR (zgD M) zuX w (Go.Proofs.YtohfclafhegadaaGreatDoor.clm v) c :=
 h.clmTo (fun _ m h=>zeW h (fun f q=>by cases q)) (fun _ f h=>⟨false,zru h⟩) hs
end Go.Abs
namespace Go.Proofs.YtohfclafhegadaaGreatDoor
open Go Go.Abs Go.RowKit Go.ChangeShapes Go.WideShapes Go.ChangeAt
theorem zE2{P:Program}{G:Env}{f:FuncId}{args:List AV}{σ:AS}{R:Out→AS→Prop}
  (h:ACalls P G f args σ fun o σ'=>R o σ'∨(∃v,o=.ret v∧Cb σ'.F v∧R (.ret (clm v)) (zl8 σ'))∨∃vs,o=.ret (.tuple vs)∧(∀v∈vs,Cb σ'.F v)∧R (.ret (.tuple (vs.map clm))) (zl8 σ')):ACalls P G f args σ R:=by
 intro M w cargs S g c
 refine(h M w cargs S g c).mono fun e w' ⟨o,σ',M',hR,h2,h3,h4⟩=>?_
 rcases hR with hR|⟨v,ho,hv,hR⟩|⟨vs,ho,hv,hR⟩
 ·exact⟨o,σ',M',hR,h2,h3,h4⟩
 ·subst ho
  refine⟨_,_,zgD M',hR,?_,h3.kill,h4.trans zkD⟩
  cases e<;>simp only[zbV]at h2 ⊢
  exact h2.kill hv
 ·subst ho
  refine⟨_,_,zgD M',hR,?_,h3.kill,h4.trans zkD⟩
  cases e<;>simp only[zbV]at h2 ⊢
  generalize hq:AV.tuple vs=t at h2
  cases h2 with
  | tuple ws A hA va =>
   cases hq
   refine .tuple _ _ (by simpa using hA) fun j h h'=>?_
   rw[List.getElem_map]
   exact(va j (by simpa using h) h').kill (hv _ (yaw _))
  | _=>cases hq
def SJ(va vb:AV)(p q:List Int)(σ:AS)(a:Nat→AV)(τ:AS):Prop:=∃i:Nat,i≤p.length∧a 0=va∧a 1=vb∧a 5=.int .i64 (i:Int)∧τ=σ∧p.take i=q.take i
theorem ziD{G:Env}{σ:AS}{R:Out→AS→Prop}{va vb:AV}{p q:List Int}(ha:zZ va p)(hb:zZ vb q)(hl:p.length≤2^40)(h:R (.ret (.bool (decide (p=q)))) σ):zzQ G 79 [va,vb] σ R:=by
 refine zqv rfl ?_
 have hal:=ha.len
 have hbl:=hb.len
 by_cases he:p.length=q.length
 ·have he':(p.length:Int)=(q.length:Int):=by omega
  simp[zF6,hal,hbl,he]
  refine zas (SJ va vb p q σ) (MU 5 (p.length+1)) ⟨0,by omega,by simp,by simp,by simp,rfl,by simp⟩ fun a τ hI=>?_
  obtain⟨i,hi,a0,a1,a5,rfl,ht⟩:=hI
  by_cases hlt:i<p.length
  ·have hlq:i<q.length:=by omega
   obtain⟨b1,hx1⟩:=ha.at hlt
   obtain⟨b2,hx2⟩:=hb.at hlq
   have w5:yb4 .i64 ((i:Int)+1)=((i+1:Nat):Int):=by rw[zc]<;>omega
   by_cases hv:p[i]=q[i]
   ·simp[zfM,a0,a1,a5,hal,hlt,hx1,hx2,hv,w5]
    refine⟨⟨i+1,by omega,by simp[a0],by simp[a1],by simp,rfl,?_⟩,?_⟩
    ·rw[ycl hlt,ycl hlq,ht,hv]
    ·simp only[MU,a5];simp;omega
   ·have hne:p≠q:=by rintro rfl;exact hv rfl
    rw[decide_eq_false hne]at h
    simp[zfM,a0,a1,a5,hal,hlt,hx1,hx2,hv]
    exact h
  ·have e:i=p.length:=by omega
   subst e
   rw[ycm,ycN (by omega)]at ht
   rw[decide_eq_true ht]at h
   simp[zfM,zmQ,a0,a1,a5,hal]
   exact h
 ·have hne:p≠q:=by rintro rfl;exact he rfl
  rw[decide_eq_false hne]at h
  have he':¬(p.length:Int)=(q.length:Int):=by omega
  simp[zF6,hal,hbl,he']
  exact h
end Go.Proofs.YtohfclafhegadaaGreatDoor
namespace Go.Proofs.YtohfclafhegadaaGreatDoor
open Go Go.Abs
structure zao where
 input:List Int
 steps:Int
 memory:List UInt8
 out:List Int
 calls:Int
structure Fr where
 fn:F
 locals:List Int
 stack:List Int
 result:Int
inductive Ev(α:Type) where
 | ok (a:α) (x:zao) (r:Fr)
 | over (status code:Int) (x:zao)
 | bad
def Fr.push(r:Fr)(v:Int):Fr:={ r with stack:=r.stack++[v] }
def zbK{α:Type}(r:Fr)(k:Int→Fr→Ev α):Ev α:=match r.stack.getLast? with
 | none=>.bad
 | some v=>k v { r with stack:=r.stack.dropLast }
def zeX(k:IntKind)(op:List UInt8)(a b:Int):Int × Int :=
 if b=0 then(0,1)
 else if op=[37]∧b=-1 then(0,0)
 else if op=[37]then(a.tmod b,0)
 else if b=-1∧a≠0∧k.wrap (-a)=a then(0,2)
 else(k.wrap (a.tdiv b),0)
def zr8(b:Bool):Int:=if b then 1 else 0
def zrv(k:IntKind)(op:List UInt8)(a b:Int)(width:Int):Int :=
 let n:=zbl .u64 (· &&& ·) (yde.wrap b) (yde.wrap (width-1))
 if op=[43]then k.wrap (a+b)
 else if op=[45]then k.wrap (a-b)
 else if op=[42]then k.wrap (a*b)
 else if op=[38]then zbl k (· &&& ·) a b
 else if op=[124]then zbl k (· ||| ·) a b
 else if op=[94]then zbl k (· ^^^ ·) a b
 else if op=[60,60]then k.wrap (a*2^(min n.toNat k.bits))
 else if op=[62,62]then a.fdiv (2^(min n.toNat k.bits))
 else if op=[61,61]then zr8 (decide (a=b))
 else if op=[33,61]then zr8 (!decide (a=b))
 else if op=[60]then zr8 (decide (a<b))
 else if op=[60,61]then zr8 (decide (a≤b))
 else if op=[62]then zr8 (decide (b<a))
 else if op=[62,61]then zr8 (decide (b≤a))
 else 0
def zuY(k:IntKind)(op:List UInt8)(a b:Int)(width:Int):Int × Int :=
 if op=[47]∨op=[37]then zeX k op a b else(zrv k op a b width,0)
def zAD(t:Int)(op:List UInt8)(a b:Int):Int × Int :=
 if t=1 then(yam.wrap (zuY .i32 op (ydf.wrap a) (ydf.wrap b) 32).1,(zuY .i32 op (ydf.wrap a) (ydf.wrap b) 32).2)
 else if t=2 then zuY .i64 op a b 64
 else(0,0)
def zdU:List UInt8→Int
 | []=>0
 | c::l=>(c.toNat:Int)+256*zdU l
def zyk(l:List UInt8):Int:=if zdU l<2^(8*l.length-1)then zdU l else zdU l-2^(8*l.length)
def zrw(v:Int)(i:Nat):UInt8:=UInt8.ofNat (ydg.wrap (v.fdiv (2^(8*i)))).toNat
def zh5{α:Type}(x:zao)(at_ n:Int)(k:List UInt8→Ev α):Ev α :=
 if n<1∨8<n then .bad else if at_<0∨(x.memory.length:Int)-n<at_ then .over 2 3 x else k ((x.memory.drop at_.toNat).take n.toNat)
def zcR(mem:List UInt8)(at_:Nat)(v:Int)(n:Nat):List UInt8:=mem.take at_++(List.range n).map (zrw v)++mem.drop (at_+n)
abbrev zey:=zao→Fr→Int→Int→Ev Int
def zbQ(rec:zey)(x:zao)(g:F)(args:List Int)(r:Fr):Ev Int :=
 if 32≤x.calls then .over 2 4 x
 else match rec { x with calls:=x.calls+1 } ⟨g,args++yaj g.locals.length 0,[],0⟩ ((g.lists.length:Int)-1) 0 with
  | .bad=>.bad
  | .over s c x=>.over s c x
  | .ok o x f=>if o=-1∧g.type≠0 then zbK f fun v f'=>.ok v { x with calls:=x.calls-1 } r else .ok f.result { x with calls:=x.calls-1 } r
def zaa(fs:List F)(rec:zey)(x:zao)(r:Fr)(n:Int):Ev Unit :=
 if n=0 then match x.input with
  | []=>.ok () x (r.push 0)
  | v::l=>.ok () { x with input:=l } (r.push v)
 else if n=1 then zbK r fun v r=>.ok () { x with out:=x.out++[v] } r
 else if n=2 then zbK r fun v r=>.over 2 v x
 else if n<3 then .bad
 else match fs[(n-3).toNat]? with
  | none=>.bad
  | some g =>
   if r.stack.length<g.params.length then .bad
   else match zbQ rec x g (r.stack.drop (r.stack.length-g.params.length)) { r with stack:=r.stack.take (r.stack.length-g.params.length) }with
    | .bad=>.bad
    | .over s c x=>.over s c x
    | .ok v x r=>.ok () x (if g.type≠0 then r.push v else r)
def zab(fs:List F)(rec:zey)(w:W)(x:zao)(r:Fr):Ev Unit :=
 if w.op=1 then .ok () x (r.push w.n)
 else if w.op=2 then(if w.n<0 then .bad else match r.locals[w.n.toNat]? with
  | none=>.bad
  | some v=>.ok () x (r.push v))
 else if w.op=3 then(if w.n<0∨(r.locals.length:Int)≤w.n then .bad else zbK r fun v r=>.ok () x { r with locals:=r.locals.set w.n.toNat v })
 else if w.op=4 then zbK r fun b r=>zbK r fun a r =>
  if(zAD w.ty (zbf signs w.name) a b).2≠0 then .over 2 (zAD w.ty (zbf signs w.name) a b).2 x else .ok () x (r.push (zAD w.ty (zbf signs w.name) a b).1)
 else if w.op=5 then zbK r fun v r=>.ok () x (r.push (if v=0 then 1 else 0))
 else if w.op=6 then zbK r fun v r=>.ok () x (r.push (ydf.wrap v))
 else if w.op=8 then zbK r fun a r=>zh5 x a w.n fun l=>.ok () x (r.push (zyk l))
 else if w.op=9 then zbK r fun v r=>zbK r fun a r=>zh5 x a w.n fun l=>.ok () { x with memory:=zcR x.memory a.toNat v l.length } r
 else if w.op=10 then zaa fs rec x r w.n
 else if w.op=17 then .over 2 5 x
 else if w.op=18 then zbK r fun v r=>.ok () x r
 else .ok () x r
def zcl(rec:zey)(isLoop:Bool)(at_ deep:Int):Nat→zao→Fr→Ev Int
 | 0,_,_=>.bad
 | j+1,x,r=>match rec x r at_ deep with
  | .bad=>.bad
  | .over s c x=>.over s c x
  | .ok o x r=>if o=0∧isLoop=true then zcl rec isLoop at_ deep j x r else .ok (if 0<o then o-1 else -1) x r
def zaz(rec:zey)(k:Nat)(w:W)(deep:Int)(x:zao)(r:Fr):Ev Int :=
 let go (at_:Int) (r:Fr):=if at_<0 then Ev.ok (-1) x r else zcl rec (decide (w.op=12)) at_ deep k x r
 if w.op=13 then zbK r fun c r=>go (if c=0 then w.other else w.body) r else go w.body r
def zgE(w:W)(deep:Int)(x:zao)(r:Fr):Ev Int :=
 let go (n:Int) (r:Fr):=if n=deep∧r.fn.type≠0 then zbK r fun v r=>Ev.ok n x { r with result:=v }else .ok n x r
 if w.op=16 then go deep r
 else if w.op=15 then zbK r fun c r=>if c=0 then .ok (-1) x r else go w.n r
 else go w.n r
def zbR(fs:List F)(rec:zey)(k:Nat)(deep:Int)(w:W)(x:zao)(r:Fr):Ev Int :=
 if w.op=11∨w.op=12∨w.op=13 then zaz rec k w (deep+1) x r
 else if w.op=14∨w.op=15∨w.op=16 then zgE w deep x r
 else match zab fs rec w x r with
  | .bad=>.bad
  | .over s c x=>.over s c x
  | .ok _ x r=>.ok (-1) x r
def zam(fs:List F)(rec:zey)(k:Nat)(deep:Int)(height:Nat):List W→zao→Fr→Ev Int
 | [],x,r=>.ok (-1) x r
 | w::ws,x,r=>if x.steps<1 then .over 3 0 x else
  match zbR fs rec k deep w { x with steps:=x.steps-1 } r with
  | .bad=>.bad
  | .over s c x=>.over s c x
  | .ok o x r=>if o=-1 then zam fs rec k deep height ws x r else if r.stack.length<height then .bad else .ok o x { r with stack:=r.stack.take height }
def zkE(fs:List F):Nat→zey
 | 0,_,_,_,_=>.bad
 | k+1,x,r,at_,deep=>if at_<0 then .bad else match r.fn.lists[at_.toNat]? with
  | none=>.bad
  | some ws=>zam fs (zkE fs k) k deep r.stack.length ws x r
def zpJ(m:M)(input:List Int)(steps:Int)(k:Nat):Option (List Int × Int × Int) :=
 if m.main<0 then none else match m.funcs[m.main.toNat]? with
 | none=>none
 | some g=>match zbQ (zkE m.funcs k) ⟨input,steps,yaj m.memory.toNat 0,[],0⟩ g [] ⟨g,[],[],0⟩with
  | .bad=>none
  | .over s c x=>some (x.out,s,c)
  | .ok v x _=>some (x.out,1,v)
theorem zac:∀{ts:List Int} {s s':St},zW ts s=.ok s'→s.any=false→s'.any=false∧s'.stack.length+ts.length=s.stack.length
 | [],s,s',h,ha=>by simp[zW]at h;subst h;exact⟨ha,by simp⟩
 | t::ts,s,s',h,ha=>by
  rw[zW]at h
  split at h
  ·cases hd:zdm s with
   | error e=>rw[hd]at h;cases h
   | ok s1 =>
    rw[hd]at h
    unfold zdm at hd
    split at hd
    ·rw[ha]at hd;cases hd
    ·rename_i hne
     cases hd
     obtain⟨a1,a2⟩:=zac h ha
     simp only[List.length_dropLast]at a2
     exact⟨a1,by simp only[yac];omega⟩
  ·cases h
theorem zrx{s s':St}(h:zdm s=.ok s')(ha:s.any=false):s'.any=false∧s'.stack.length+1=s.stack.length:=by
 unfold zdm at h
 split at h
 ·rw[ha]at h;cases h
 ·cases h;exact⟨ha,by simp;omega⟩
theorem zdV(s:St)(t:Int):(zc3 s t).any=s.any∧(zc3 s t).stack.length=s.stack.length+(if t=0 then 0 else 1):=by
 unfold zc3;split<;>simp
theorem zbF{r:Res St}{t:Int}{s':St}(h:zeO r t=.ok s'):∃s,r=.ok s∧s'=zc3 s t:=by
 cases r with
 | error e=>cases h
 | ok s=>exact⟨s,rfl,by cases h;rfl⟩
theorem zcu{ty:Int}{s s':St}(h:zx ty s=.ok s')(ha:s.any=false):s'.any=false∧s'.stack.length+(if ty=0 then 0 else 1)=s.stack.length:=by
 unfold zx at h
 by_cases h0:ty=0
 ·rw[if_pos h0]at h ⊢;cases h;exact⟨ha,rfl⟩
 ·rw[if_neg h0]at h ⊢;have:=zac h ha;simpa using this
theorem zeY{α:Type}{r:Fr}{k:Int→Fr→Ev α}(h:0<r.stack.length):∃v st,st.length+1=r.stack.length∧zbK r k=k v { r with stack:=st }:=by
 unfold zbK
 have hne:r.stack≠[]:=ybm.1 h
 rw[ydh hne]
 exact⟨_,_,by simp;omega,rfl⟩
structure zyl(fs:List F)(r:Fr):Prop where
 mem:r.fn∈fs
 loc:r.locals.length=(r.fn.params++r.fn.locals).length
structure Beh(d:Int)(x x':zao):Prop where
 steps:x'.steps≤x.steps
 low:min x.steps 0≤x'.steps
 out:∃l,x'.out=x.out++l∧(l.length:Int)≤x.steps-x'.steps+d
theorem Beh.refl(x):Beh 0 x x:=⟨ydi _,by omega,[],by simp,by simp⟩
theorem Beh.trans{d e a b c}(h:Beh d a b)(k:Beh e b c):Beh (d+e) a c:=by
 obtain⟨h1,h4,l,h2,h3⟩:=h
 obtain⟨k1,k4,m,k2,k3⟩:=k
 exact⟨by omega,by omega,l++m,by rw[k2,h2,ycF],by simp;omega⟩
theorem Beh.trans0{d a b c}(h:Beh 0 a b)(k:Beh d b c):Beh d a c:=by have:=h.trans k;simpa using this
theorem Beh.weak{d e x x'}(h:Beh d x x')(hd:d≤e):Beh e x x':=⟨h.steps,h.low,let ⟨l,a,b⟩:=h.out;⟨l,a,by omega⟩⟩
theorem Beh.step{x x':zao}(h:Beh 1 { x with steps:=x.steps-1 } x')(hx:1≤x.steps):Beh 0 x x'∧x'.steps<x.steps:=by
 obtain⟨h1,h4,l,h2,h3⟩:=h
 simp only at h1 h2 h3 h4
 exact⟨⟨by omega,by omega,l,h2,by omega⟩,by omega⟩
def zh6(s c:Int):Prop:=s=2∨(s=3∧c=0)
def zK6(x:zao)(r:Fr)(deep:Int):Ev Int→Prop
 | .bad=>False
 | .over s c x'=>Beh 0 x x'∧zh6 s c
 | .ok o x' r'=>Beh 0 x x'∧r'.fn=r.fn∧r'.locals.length=r.locals.length∧(o=-1→r'.stack.length=r.stack.length+(if deep=0∧r.fn.type≠0 then 1 else 0)) ∧
   (o≠-1→0≤o∧o≤deep∧r'.stack.length=r.stack.length∧x'.steps<x.steps∧0<x.steps)
def znp(fs:List F)(rec:zey)(n:Nat):Prop:=∀(x:zao) (r:Fr) (at_ deep:Int) (K:Nat),zyl fs r→x.steps.toNat<n→0≤deep→0≤at_→at_<(r.fn.lists.length:Int) →
 zQ fs (r.fn.params++r.fn.locals) r.fn.type r.fn.lists K at_ deep=.ok ()→zK6 x r deep (rec x r at_ deep)
def zE3(d:Int)(x:zao)(r:Fr)(h:Nat)(s':St)(deep:Int):Ev Int→Prop
 | .bad=>False
 | .over s c x'=>Beh d x x'∧zh6 s c
 | .ok o x' r'=>Beh d x x'∧r'.fn=r.fn∧r'.locals.length=r.locals.length∧(o=-1→s'.any=false∧r'.stack.length=h+s'.stack.length)∧(o≠-1→0≤o∧o≤deep∧h≤r'.stack.length)
def zHz(x:zao)(r:Fr)(h:Nat)(s':St):Ev Unit→Prop
 | .bad=>False
 | .over s c x'=>Beh 1 x x'∧zh6 s c
 | .ok _ x' r'=>Beh 1 x x'∧r'.fn=r.fn∧r'.locals.length=r.locals.length∧s'.any=false∧r'.stack.length=h+s'.stack.length
theorem ziE{fs:List F}{f:F}(h:zn fs f=.ok ()):∃K,zQ fs (f.params++f.locals) f.type f.lists K ((f.lists.length:Int)-1) 0=.ok ():=by
 unfold zn at h
 split at h
 ·cases h
 ·split at h
  ·cases h
  ·exact⟨_,h⟩
section
variable {fs : List F} {rec : zey} {n : Nat} (hv : ∀ f ∈ fs,zn fs f = .ok ())
include hv
theorem zji(hs:znp fs rec n){x:zao}(hx:x.steps.toNat<n){g:F}(hg:g∈fs){args:List Int}(ha:args.length=g.params.length)(r:Fr):
  match zbQ rec x g args r with
  | .bad=>False
  | .over s c x'=>Beh 0 x x'∧zh6 s c
  | .ok _ x' r'=>Beh 0 x x'∧r'=r:=by
 unfold zbQ
 by_cases hc:32≤x.calls
 ·rw[if_pos hc];exact⟨.refl _,.inl rfl⟩
 ·rw[if_neg hc]
  obtain⟨K,hK⟩:=ziE (hv g hg)
  have hl:=(zcg (zak (hv g hg))).1
  have:=hs { x with calls:=x.calls+1 } ⟨g,args++yaj g.locals.length 0,[],0⟩ ((g.lists.length:Int)-1) 0 K ⟨hg,by simp[ha]⟩ hx (by omega) (by omega) (by simp only;omega) hK
  revert this
  cases rec { x with calls:=x.calls+1 } ⟨g,args++yaj g.locals.length 0,[],0⟩ ((g.lists.length:Int)-1) 0 with
  | bad=>intro h;exact h
  | over s c x'=>intro h;exact⟨⟨h.1.steps,h.1.low,h.1.out⟩,h.2⟩
  | ok o x' f =>
   intro ⟨h1,h2,h3,h4,h5⟩
   simp only at h4 ⊢
   by_cases ho:o=-1∧g.type≠0
   ·rw[if_pos ho]
    have:=h4 ho.1
    rw[if_pos ⟨trivial,ho.2⟩]at this
    obtain⟨v,st,_,e⟩:=zeY (r:=f) (k:=fun v f'=>Ev.ok v { x' with calls:=x'.calls-1 } r) (by simp at this;omega)
    rw[e]
    exact⟨⟨h1.steps,h1.low,h1.out⟩,rfl⟩
   ·rw[if_neg ho]
    exact⟨⟨h1.steps,h1.low,h1.out⟩,rfl⟩
theorem plain_sound(hs:znp fs rec n){x:zao}(hx:x.steps.toNat<n){r:Fr}(hr:zyl fs r){w:W}{s s':St}{h:Nat}(ha:s.any=false)(hst:r.stack.length=h+s.stack.length){deep:Int}
  (hform:zR w=true) (hrg:zI fs (r.fn.params++r.fn.locals) deep w=true) (hnum:(r.fn.params++r.fn.locals).all zT=true) (hp:zbI fs (r.fn.params++r.fn.locals) w s=.ok s') (hop:w.op≤10∨w.op=18):zHz x r h s' (zab fs rec w x r):=by
 have b0:Beh 1 x x:=(Beh.refl x).weak (by omega)
 have nz:∀{t:Int},zT t=true→t≠0:=by
  intro t ht q;subst q;simp[zT]at ht
 have push:∀{x':zao} {r1:Fr} {s1:St} {t v:Int},Beh 1 x x'→r1.fn=r.fn→r1.locals.length=r.locals.length→s1.any=false→r1.stack.length=h+s1.stack.length→t≠0→zHz x r h (zc3 s1 t) (.ok () x' (r1.push v)):=by
  intro x' r1 s1 t v b e1 e2 a l ht
  have g:=zdV s1 t
  refine⟨b,e1,e2,g.1.trans a,?_⟩
  rw[g.2,if_neg ht]
  simp[Fr.push,l];omega
 have pop:∀{r1:Fr} {s1 s2:St} {k:Int→Fr→Ev Unit},r1.fn=r.fn→r1.locals.length=r.locals.length→r1.stack.length=h+(s1.stack.length+1)→(∀v (r2:Fr),r2.fn=r.fn→r2.locals.length=r.locals.length→r2.stack.length=h+s1.stack.length→zHz x r h s2 (k v r2))→zHz x r h s2 (zbK r1 k):=by
  intro r1 s1 s2 k e1 e2 l hk
  obtain⟨v,st,hl,e⟩:=zeY (r:=r1) (k:=k) (by omega)
  rw[e]
  exact hk v _ e1 e2 (by simp only;omega)
 unfold zbI at hp
 unfold zab
 by_cases h1:w.op=1
 ·rw[if_pos h1]at hp ⊢
  cases hp
  exact push b0 rfl rfl ha hst (nz (by simpa [zR,h1]using hform))
 rw[if_neg h1]at hp ⊢
 by_cases h2:w.op=2
 ·rw[if_pos h2]at hp ⊢
  cases hp
  have hr2:0≤w.n∧w.n<(((r.fn.params++r.fn.locals).length:Nat):Int):=by simpa [zI,h1,h2]using hrg
  rw[if_neg (by omega)]
  have hlt:w.n.toNat<r.locals.length:=by rw[hr.loc];omega
  rw[yau hlt]
  refine push b0 rfl rfl ha hst (nz ?_)
  unfold zhA
  have hlt2:w.n.toNat<(r.fn.params++r.fn.locals).length:=by omega
  rw[ycf,yau hlt2]
  exact yaM.1 hnum _ (yaw hlt2)
 rw[if_neg h2]at hp ⊢
 by_cases h3:w.op=3
 ·rw[if_pos h3]at hp ⊢
  have hr2:0≤w.n∧w.n<(((r.fn.params++r.fn.locals).length:Nat):Int):=by simpa [zI,h1,h2,h3]using hrg
  rw[if_neg (by rw[hr.loc];omega)]
  obtain⟨a1,l1⟩:=zac hp ha
  simp only[yac,ybl]at l1
  exact pop (s1:=s') rfl rfl (by omega) fun v r2 e1 e2 l=>⟨b0,e1,by simpa using e2,a1,l⟩
 rw[if_neg h3]at hp ⊢
 by_cases h4:w.op=4
 ·rw[if_pos h4]at hp ⊢
  obtain⟨s1,e1,rfl⟩:=zbF hp
  obtain⟨a1,l1⟩:=zac e1 ha
  simp only[yac,ybl]at l1
  have hty:w.ty≠0:=nz (by
   simp[zR,h4]at hform
   exact hform.1)
  have hcmp:(if zEh w.name=true then(1:Int)else w.ty)≠0:=by split<;>omega
  clear hp
  generalize (if zEh w.name=true then(1:Int)else w.ty)=tt at hcmp ⊢
  refine pop (s1:=⟨0::s1.stack,false⟩) rfl rfl (by simp only[yac];omega) fun b r2 e2 e3 l2=>?_
  refine pop (s1:=s1) e2 e3 (by simpa using l2) fun a r3 e4 e5 l3=>?_
  split
  ·exact⟨b0,.inl rfl⟩
  ·exact push b0 e4 e5 a1 l3 hcmp
 rw[if_neg h4]at hp ⊢
 by_cases h5:w.op=5
 ·rw[if_pos h5]at hp ⊢
  obtain⟨s1,e1,rfl⟩:=zbF hp
  obtain⟨a1,l1⟩:=zac e1 ha
  simp only[yac,ybl]at l1
  exact pop (s1:=s1) rfl rfl (by omega) fun v r2 e1 e2 l=>push b0 e1 e2 a1 l (by omega)
 rw[if_neg h5]at hp ⊢
 by_cases h6:w.op=6
 ·rw[if_pos h6]at hp ⊢
  obtain⟨s1,e1,rfl⟩:=zbF hp
  obtain⟨a1,l1⟩:=zac e1 ha
  simp only[yac,ybl]at l1
  exact pop (s1:=s1) rfl rfl (by omega) fun v r2 e1 e2 l=>push b0 e1 e2 a1 l (by omega)
 rw[if_neg h6]at hp ⊢
 by_cases h7:w.op=7
 ·rw[if_pos h7]at hp
  obtain⟨s1,e1,rfl⟩:=zbF hp
  obtain⟨a1,l1⟩:=zac e1 ha
  simp only[yac,ybl]at l1
  rw[if_neg (by omega),if_neg (by omega),if_neg (by omega),if_neg (by omega),if_neg (by omega)]
  have g:=zdV s1 2
  exact⟨b0,rfl,rfl,g.1.trans a1,by rw[g.2,if_neg (by omega)];omega⟩
 rw[if_neg h7]at hp
 by_cases h8:w.op=8
 ·rw[if_pos h8]at hp ⊢
  obtain⟨s1,e1,rfl⟩:=zbF hp
  obtain⟨a1,l1⟩:=zac e1 ha
  simp only[yac,ybl]at l1
  have hty:w.ty≠0:=by
   intro q
   simp[zR,h1,h4,h5,h8,zfe,q]at hform
  have hn:¬(w.n<1∨8<w.n):=by simp[zR,h1,h4,h5,h8,zfe]at hform;omega
  refine pop (s1:=s1) rfl rfl (by omega) fun a r2 e1 e2 l=>?_
  unfold zh5
  rw[if_neg hn]
  split
  ·exact⟨b0,.inl rfl⟩
  ·exact push b0 e1 e2 a1 l hty
 rw[if_neg h8]at hp ⊢
 by_cases h9:w.op=9
 ·rw[if_pos h9]at hp ⊢
  obtain⟨a1,l1⟩:=zac hp ha
  simp only[yac,ybl]at l1
  refine pop (s1:=⟨0::s'.stack,false⟩) rfl rfl (by simp only[yac];omega) fun v r2 e2 e3 l2=>?_
  have hn:¬(w.n<1∨8<w.n):=by simp[zR,h1,h4,h5,h9,zfe]at hform;omega
  refine pop (s1:=s') e2 e3 (by simpa using l2) fun a r3 e4 e5 l3=>?_
  unfold zh5
  rw[if_neg hn]
  split
  ·exact⟨b0,.inl rfl⟩
  ·exact⟨⟨b0.steps,b0.low,b0.out⟩,e4,e5,a1,l3⟩
 rw[if_neg h9]at hp ⊢
 by_cases h10:w.op=10
 ·rw[if_pos h10]at hp ⊢
  have hh:(zaT fs w.n).isSome=true:=by simpa [zI,h1,h2,h3,h10]using hrg
  unfold zaa
  unfold zaT at hp hh
  by_cases n0:w.n=0
  ·rw[if_pos n0]at hp ⊢
   simp only[ydj]at hp
   obtain⟨s1,e1,rfl⟩:=zbF hp
   cases e1
   cases x.input with
   | nil=>exact push b0 rfl rfl ha hst (by omega)
   | cons v l=>exact push ⟨b0.steps,b0.low,b0.out⟩ rfl rfl ha hst (by omega)
  rw[if_neg n0]at hp hh ⊢
  by_cases n1:w.n=1
  ·rw[if_pos n1]at hp ⊢
   simp only[ydk,ydj,ycE]at hp
   obtain⟨s1,e1,e9⟩:=zbF hp
   have e9:s'=zc3 s1 0:=e9
   obtain⟨a1,l1⟩:=zac e1 ha
   simp only[yac,ybl]at l1
   refine pop (s1:=s1) rfl rfl (by omega) fun v r2 e1 e2 l=>?_
   have g:=zdV s1 0
   exact⟨⟨ydi _,by simp only;omega,[v],rfl,by simp⟩,e1,e2,by rw[e9];exact g.1.trans a1,by rw[e9,g.2,if_pos rfl];omega⟩
  rw[if_neg n1]at hp hh ⊢
  by_cases n2:w.n=2
  ·rw[if_pos n2]at hp ⊢
   simp only[ydk,ydj,ycE]at hp
   obtain⟨s1,e1,e9⟩:=zbF hp
   obtain⟨a1,l1⟩:=zac e1 ha
   simp only[yac,ybl]at l1
   exact pop (s1:=s1) rfl rfl (by omega) fun v r2 e1 e2 l=>⟨b0,.inl rfl⟩
  rw[if_neg n2]at hp hh ⊢
  by_cases n3:w.n<0
  ·rw[if_pos n3]at hh;cases hh
  rw[if_neg n3]at hp hh
  rw[if_neg (by omega)]
  cases hg:fs[(w.n-3).toNat]? with
  | none=>rw[hg]at hh;cases hh
  | some g =>
   rw[hg]at hp
   simp only[Option.map_some]at hp ⊢
   obtain⟨s1,e1,rfl⟩:=zbF hp
   obtain⟨a1,l1⟩:=zac e1 ha
   rw[List.length_reverse]at l1
   rw[if_neg (by omega)]
   have key:=zji hv hs hx (ycs hg) (args:=r.stack.drop (r.stack.length-g.params.length)) (by simp;omega) { r with stack:=r.stack.take (r.stack.length-g.params.length) }
   revert key
   cases zbQ rec x g (r.stack.drop (r.stack.length-g.params.length)) { r with stack:=r.stack.take (r.stack.length-g.params.length) }with
   | bad=>exact fun h=>h
   | over s c x'=>exact fun h=>⟨h.1.weak (by omega),h.2⟩
   | ok v x' r' =>
    intro ⟨k1,k2⟩
    subst k2
    simp only
    by_cases hz:g.type=0
    ·rw[if_neg (by simpa using hz)]
     have gl:=zdV s1 g.type
     exact⟨k1.weak (by omega),rfl,rfl,gl.1.trans a1,by rw[gl.2,if_pos hz];simp;omega⟩
    ·rw[if_pos hz]
     exact push (k1.weak (by omega)) rfl rfl a1 (by simp;omega) hz
 rw[if_neg h10]at hp ⊢
 have h18:w.op=18:=by
  rcases hop with q|q
  ·exfalso
   simp[zR,h1,h4,h5,h8,h9]at hform
   omega
  ·exact q
 rw[if_pos h18]at hp
 rw[if_neg (by omega),if_pos h18]
 obtain⟨a1,l1⟩:=zrx hp ha
 exact pop (s1:=s') rfl rfl (by omega) fun v r2 e1 e2 l=>⟨b0,e1,e2,a1,l⟩
end
section
variable {fs : List F} {rec : zey} {n : Nat}
theorem zh7(hs:znp fs rec n){r0:Fr}{K:Nat}{at_ deep:Int}(hd:0<deep)(h0:0≤at_)(h1:at_<(r0.fn.lists.length:Int))(hl:zQ fs (r0.fn.params++r0.fn.locals) r0.fn.type r0.fn.lists K at_ deep=.ok ())(isLoop:Bool):
  ∀(j:Nat) (x:zao) (r:Fr),zyl fs r→r.fn=r0.fn→x.steps.toNat<n→x.steps.toNat<j →
  match zcl rec isLoop at_ deep j x r with
  | .bad=>False
  | .over s c x'=>Beh 0 x x'∧zh6 s c
  | .ok o x' r'=>Beh 0 x x'∧r'.fn=r.fn∧r'.locals.length=r.locals.length∧r'.stack.length=r.stack.length∧(o=-1∨(0≤o∧o+1≤deep))
 | 0,x,r,_,_,_,hj=>by omega
 | j+1,x,r,hr,hf,hx,hj=>by
  rw[zcl]
  have key:=hs x r at_ deep K hr hx (by omega) h0 (by rw[hf];exact h1) (by rw[hf];exact hl)
  revert key
  cases rec x r at_ deep with
  | bad=>exact fun h=>h
  | over s c x'=>exact fun h=>h
  | ok o x' r' =>
   intro ⟨k1,k2,k3,k4,k5⟩
   simp only
   have hst:r'.stack.length=r.stack.length:=by
    by_cases ho:o=-1
    ·have:=k4 ho;rw[if_neg (by omega)]at this;omega
    ·exact(k5 ho).2.2.1
   by_cases hc:o=0∧isLoop=true
   ·rw[if_pos hc]
    have hlt:=(k5 (by omega)).2.2.2.1
    have hpos:=(k5 (by omega)).2.2.2.2
    have hb:=k1.steps
    have key:=zh7 hs hd h0 h1 hl isLoop j x' r' ⟨by rw[k2];exact hr.mem,by rw[k3,k2];exact hr.loc⟩ (k2.trans hf) (by omega) (by omega)
    revert key
    cases zcl rec isLoop at_ deep j x' r' with
    | bad=>exact fun h=>h
    | over s c x2=>exact fun h=>⟨k1.trans0 h.1,h.2⟩
    | ok o2 x2 r2=>exact fun h=>⟨k1.trans0 h.1,h.2.1.trans k2,h.2.2.1.trans k3,h.2.2.2.1.trans hst,h.2.2.2.2⟩
   ·rw[if_neg hc]
    refine⟨k1,k2,k3,hst,?_⟩
    by_cases ho:0<o
    ·rw[if_pos ho]
     have:=k5 (by omega)
     exact .inr ⟨by omega,by omega⟩
    ·rw[if_neg ho];exact .inl rfl
theorem zdW(hs:znp fs rec n){k:Nat}{x:zao}(hx:x.steps.toNat<n)(hxk:x.steps.toNat<k){r:Fr}(hr:zyl fs r){w:W}{h:Nat}{s1:St}{deep:Int}(hd:0≤deep)(ha:s1.any=false)(hst:r.stack.length=h+s1.stack.length+(if w.op=13 then 1 else 0))
  (hb:∃K,0≤w.body∧w.body<(r.fn.lists.length:Int)∧zQ fs (r.fn.params++r.fn.locals) r.fn.type r.fn.lists K w.body (deep+1)=.ok ())
  (ho:w.op=13→0≤w.other→∃K,w.other<(r.fn.lists.length:Int)∧zQ fs (r.fn.params++r.fn.locals) r.fn.type r.fn.lists K w.other (deep+1)=.ok ()) :
  zE3 0 x r h s1 deep (zaz rec k w (deep+1) x r):=by
 have go:∀(at_:Int) (r1:Fr),zyl fs r1→r1.fn=r.fn→r1.locals.length=r.locals.length→r1.stack.length=h+s1.stack.length→(0≤at_→∃K,at_<(r.fn.lists.length:Int)∧zQ fs (r.fn.params++r.fn.locals) r.fn.type r.fn.lists K at_ (deep+1)=.ok ()) →
   zE3 0 x r h s1 deep (if at_<0 then Ev.ok (-1) x r1 else zcl rec (decide (w.op=12)) at_ (deep+1) k x r1):=by
  intro at_ r1 hr1 e1 e2 e3 hK
  by_cases h0:at_<0
  ·rw[if_pos h0]
   exact⟨.refl _,e1,e2,fun _=>⟨ha,e3⟩,fun q=>absurd rfl q⟩
  ·rw[if_neg h0]
   obtain⟨K,q1,q2⟩:=hK (by omega)
   have key:=zh7 hs (r0:=r) (by omega) (by omega) q1 q2 (decide (w.op=12)) k x r1 hr1 e1 hx hxk
   revert key
   cases zcl rec (decide (w.op=12)) at_ (deep+1) k x r1 with
   | bad=>exact fun h=>h
   | over s c x2=>exact fun h=>h
   | ok o x2 r2 =>
    intro ⟨k1,k2,k3,k4,k5⟩
    refine⟨k1,k2.trans e1,k3.trans e2,fun _=>⟨ha,by omega⟩,fun q=>?_⟩
    rcases k5 with k5|k5
    ·exact absurd k5 q
    ·exact⟨k5.1,by omega,by omega⟩
 unfold zaz
 simp only
 obtain⟨K,b0,b1,b2⟩:=hb
 by_cases h13:w.op=13
 ·rw[if_pos h13]at hst ⊢
  obtain⟨v,st,hl,e⟩:=zeY (r:=r) (k:=fun c r=>if(if c=0 then w.other else w.body)<0 then Ev.ok (-1) x r else zcl rec (decide (w.op=12)) (if c=0 then w.other else w.body) (deep+1) k x r) (by omega)
  rw[e]
  refine go _ _ ⟨hr.mem,hr.loc⟩ rfl rfl (by simp only;omega) fun q=>?_
  by_cases hv0:v=0
  ·rw[if_pos hv0]at q ⊢;exact ho h13 q
  ·rw[if_neg hv0]at q ⊢;exact⟨K,b1,b2⟩
 ·rw[if_neg h13]at hst ⊢
  exact go _ _ hr rfl rfl (by omega) fun _=>⟨K,b1,b2⟩
end
section
variable {fs : List F} {rec : zey} {n : Nat} (hv : ∀ f ∈ fs,zn fs f = .ok ())
include hv
theorem zpt(hs:znp fs rec n){k:Nat}{x:zao}(hx:x.steps.toNat<n)(hxk:x.steps.toNat<k){r:Fr}(hr:zyl fs r){w:W}{h:Nat}{s s':St}{deep:Int}{K:Nat}(hd:0≤deep)(ha:s.any=false)(hst:r.stack.length=h+s.stack.length)
  (hin:∀m∈zl w,0≤m∧m<(r.fn.lists.length:Int))
  (hi:zL fs (r.fn.params++r.fn.locals) r.fn.type deep (zQ fs (r.fn.params++r.fn.locals) r.fn.type r.fn.lists K) w s=.ok s'):zE3 1 x r h s' deep (zbR fs rec k deep w x r):=by
 have hnum:(r.fn.params++r.fn.locals).all zT=true:=by
  have:=hv _ hr.mem
  unfold zn at this
  split at this
  ·cases this
  ·rename_i q
   simp only[Bool.and_eq_true,Bool.not_eq_false]at q
   exact q.1.1
 have b0:Beh 1 x x:=(Beh.refl x).weak (by omega)
 unfold zL at hi
 by_cases hf:zR w=false
 ·rw[if_pos hf]at hi;cases hi
 rw[if_neg hf]at hi
 by_cases hg:zI fs (r.fn.params++r.fn.locals) deep w=false
 ·rw[if_pos hg]at hi;cases hi
 rw[if_neg hg]at hi
 have up:∀{e:Ev Int},zE3 0 x r h s' deep e→zE3 1 x r h s' deep e:=by
  intro e he
  cases e with
  | bad=>exact he
  | over s c x'=>exact⟨he.1.weak (by omega),he.2⟩
  | ok o x' r'=>exact⟨he.1.weak (by omega),he.2⟩
 unfold zbR
 by_cases h11:w.op=11∨w.op=12
 ·rw[if_pos h11]at hi
  rw[if_pos (by omega)]
  have hn:zl w=[w.body]:=by unfold zl;rw[if_pos (by omega)]
  rw[hn]at hin
  have hb:=hin w.body (by simp)
  cases hl:zQ fs (r.fn.params++r.fn.locals) r.fn.type r.fn.lists K w.body (deep+1)with
  | error e=>rw[hl]at hi;cases hi
  | ok u =>
   rw[hl]at hi
   cases hi
   exact up (zdW hs hx hxk hr hd ha (by rw[if_neg (by omega)];omega) ⟨K,hb.1,hb.2,hl⟩ (fun q=>by omega))
 rw[if_neg h11]at hi
 by_cases h13:w.op=13
 ·rw[if_pos h13]at hi
  rw[if_pos (by omega)]
  cases ht:zW [1] s with
  | error e=>rw[ht]at hi;cases hi
  | ok s1 =>
   rw[ht]at hi
   simp only at hi
   obtain⟨a1,l1⟩:=zac ht ha
   simp only[yac,ybl]at l1
   cases hl:zQ fs (r.fn.params++r.fn.locals) r.fn.type r.fn.lists K w.body (deep+1)with
   | error e=>rw[hl]at hi;cases hi
   | ok u =>
    rw[hl]at hi
    simp only at hi
    have hb:0≤w.body∧w.body<(r.fn.lists.length:Int):=hin w.body (by
     unfold zl
     by_cases ho:w.other<0
     ·rw[if_pos (by omega)];simp
     ·rw[if_neg (by omega),if_pos h13];simp)
    by_cases ho:0≤w.other
    ·rw[if_pos ho]at hi
     cases hl2:zQ fs (r.fn.params++r.fn.locals) r.fn.type r.fn.lists K w.other (deep+1)with
     | error e=>rw[hl2]at hi;cases hi
     | ok u2 =>
      rw[hl2]at hi
      cases hi
      have hb2:=hin w.other (by unfold zl;rw[if_neg (by omega),if_pos h13];simp)
      exact up (zdW hs hx hxk hr hd a1 (by rw[if_pos h13];omega) ⟨K,hb.1,hb.2,hl⟩ (fun _ _=>⟨K,hb2.2,hl2⟩))
    ·rw[if_neg ho]at hi
     cases hi
     exact up (zdW hs hx hxk hr hd a1 (by rw[if_pos h13];omega) ⟨K,hb.1,hb.2,hl⟩ (fun _ q=>absurd q ho))
 rw[if_neg h13]at hi
 have ret:∀{s2:St} {r1:Fr} {q:Int},zx r.fn.type s=.ok s2∨True→True:=fun _=>trivial
 by_cases h15:w.op=15
 ·rw[if_pos h15]at hi
  rw[if_neg (by omega),if_pos (by omega)]
  have hrg:0≤w.n∧w.n≤deep:=by
   have q:zI fs (r.fn.params++r.fn.locals) deep w=true:=by simpa using hg
   simpa [zI,h15]using q
  cases ht:zW [1] s with
  | error e=>rw[ht]at hi;cases hi
  | ok s1 =>
   rw[ht]at hi
   simp only at hi
   obtain⟨a1,l1⟩:=zac ht ha
   simp only[yac,ybl]at l1
   unfold zgE
   simp only
   rw[if_neg (by omega),if_pos h15]
   obtain⟨v,st,hl,e⟩:=zeY (r:=r) (k:=fun c r=>if c=0 then Ev.ok (-1) x r else if w.n=deep∧r.fn.type≠0 then zbK r fun v r=>Ev.ok w.n x { r with result:=v }else .ok w.n x r) (by omega)
   rw[e]
   have hs':s'.any=false∧s'.stack.length=s1.stack.length∧(w.n=deep→r.fn.type≠0→0<s1.stack.length):=by
    by_cases hq:w.n=deep
    ·rw[if_pos hq]at hi
     obtain⟨s2,e2,rfl⟩:=zbF hi
     obtain⟨a2,l2⟩:=zcu e2 a1
     have g:=zdV s2 r.fn.type
     refine⟨g.1.trans a2,by rw[g.2];omega,fun _ hz=>by rw[if_neg hz]at l2;omega⟩
    ·rw[if_neg hq]at hi
     cases hi
     exact⟨a1,rfl,fun q=>absurd q hq⟩
   by_cases hv0:v=0
   ·rw[if_pos hv0]
    exact⟨b0,rfl,rfl,fun _=>⟨hs'.1,by simp only;omega⟩,fun q=>absurd rfl q⟩
   ·rw[if_neg hv0]
    by_cases hq:w.n=deep∧r.fn.type≠0
    ·rw[if_pos hq]
     have:=hs'.2.2 hq.1 hq.2
     obtain⟨v2,st2,hl2,e2⟩:=zeY (r:={ r with stack:=st }) (k:=fun v r=>Ev.ok w.n x { r with result:=v }) (by simp only;omega)
     simp only at e2 hl2
     rw[e2]
     exact⟨b0,rfl,rfl,fun q=>by omega,fun _=>⟨hrg.1,hrg.2,by simp only;omega⟩⟩
    ·rw[if_neg hq]
     exact⟨b0,rfl,rfl,fun q=>by omega,fun _=>⟨hrg.1,hrg.2,by simp only;omega⟩⟩
 rw[if_neg h15]at hi
 by_cases h14:w.op=14
 ·rw[if_pos h14]at hi
  rw[if_neg (by omega),if_pos (by omega)]
  have hrg:0≤w.n∧w.n≤deep:=by
   have q:zI fs (r.fn.params++r.fn.locals) deep w=true:=by simpa using hg
   simpa [zI,h14]using q
  unfold zgE
  simp only
  rw[if_neg (by omega),if_neg h15]
  by_cases hq:w.n=deep∧r.fn.type≠0
  ·rw[if_pos hq]
   rw[if_pos hq.1]at hi
   cases ht:zx r.fn.type s with
   | error e=>rw[ht]at hi;cases hi
   | ok s2 =>
    obtain⟨a2,l2⟩:=zcu ht ha
    rw[if_neg hq.2]at l2
    obtain⟨v2,st2,hl2,e2⟩:=zeY (r:=r) (k:=fun v r=>Ev.ok w.n x { r with result:=v }) (by omega)
    rw[e2]
    exact⟨b0,rfl,rfl,fun q=>by omega,fun _=>⟨hrg.1,hrg.2,by simp only;omega⟩⟩
  ·rw[if_neg hq]
   exact⟨b0,rfl,rfl,fun q=>by omega,fun _=>⟨hrg.1,hrg.2,by omega⟩⟩
 rw[if_neg h14]at hi
 by_cases h16:w.op=16
 ·rw[if_pos h16]at hi
  rw[if_neg (by omega),if_pos (by omega)]
  unfold zgE
  simp only
  rw[if_pos h16]
  cases ht:zx r.fn.type s with
  | error e=>rw[ht]at hi;cases hi
  | ok s2 =>
   obtain⟨a2,l2⟩:=zcu ht ha
   by_cases hq:r.fn.type≠0
   ·rw[if_pos ⟨trivial,hq⟩]
    rw[if_neg hq]at l2
    obtain⟨v2,st2,hl2,e2⟩:=zeY (r:=r) (k:=fun v r=>Ev.ok deep x { r with result:=v }) (by omega)
    rw[e2]
    exact⟨b0,rfl,rfl,fun q=>by omega,fun _=>⟨hd,ydi _,by simp only;omega⟩⟩
   ·rw[if_neg (fun q=>hq q.2)]
    exact⟨b0,rfl,rfl,fun q=>by omega,fun _=>⟨hd,ydi _,by omega⟩⟩
 rw[if_neg h16]at hi
 rw[if_neg (by omega),if_neg (by omega)]
 by_cases h17:w.op=17
 ·have e:zab fs rec w x r=.over 2 5 x:=by
   unfold zab
   simp[h17]
  rw[e]
  exact⟨b0,.inl rfl⟩
 rw[if_neg h17]at hi
 have hf':zR w=true:=by simpa using hf
 have hop:w.op≤10∨w.op=18:=by
  by_cases q:w.op≤10
  ·exact .inl q
  ·right
   have:1≤w.op∧w.op≤18:=by
    unfold zR at hf'
    rw[if_neg (by omega),if_neg (by omega),if_neg (by omega)]at hf'
    simpa using hf'
   omega
 have key:=plain_sound hv hs hx hr ha hst hf' (by simpa using hg) hnum hi hop
 revert key
 cases zab fs rec w x r with
 | bad=>exact fun h=>h
 | over s c x'=>exact fun h=>h
 | ok u x' r'=>exact fun h=>⟨h.1,h.2.1,h.2.2.1,fun _=>⟨h.2.2.2.1,h.2.2.2.2⟩,fun q=>absurd rfl q⟩
theorem zgq(hs:znp fs rec n){k:Nat}{h:Nat}{deep:Int}{K:Nat}(hd:0≤deep){f:F}:∀(ws:List W),(∀w∈ws,∀m∈zl w,0≤m∧m<(f.lists.length:Int))→∀(x:zao) (r:Fr) (s s':St),zyl fs r→r.fn=f→x.steps.toNat<n+1→x.steps.toNat<k+1→s.any=false→r.stack.length=h+s.stack.length →
  zE fs (f.params++f.locals) f.type deep (zQ fs (f.params++f.locals) f.type f.lists K) ws s=.ok s' →
  match zam fs rec k deep h ws x r with
  | .bad=>False
  | .over st c x'=>Beh 0 x x'∧zh6 st c
  | .ok o x' r'=>Beh 0 x x'∧r'.fn=r.fn∧r'.locals.length=r.locals.length∧(o=-1→s'.any=false∧r'.stack.length=h+s'.stack.length)∧(o≠-1→0≤o∧o≤deep∧r'.stack.length=h∧x'.steps<x.steps∧0<x.steps)
 | [],_,x,r,s,s',hr,hf,_,_,ha,hst,hi=>by
  simp only[zE]at hi
  cases hi
  exact⟨.refl _,rfl,rfl,fun _=>⟨ha,hst⟩,fun q=>absurd rfl q⟩
 | w::ws,hin,x,r,s,s',hr,hf,hx,hxk,ha,hst,hi=>by
  rw[zE]at hi
  cases he:zL fs (f.params++f.locals) f.type deep (zQ fs (f.params++f.locals) f.type f.lists K) w s with
  | error e=>rw[he]at hi;cases hi
  | ok s1 =>
   rw[he]at hi
   simp only at hi
   rw[zam]
   by_cases hs1:x.steps<1
   ·rw[if_pos hs1]
    exact⟨.refl _,.inr ⟨rfl,rfl⟩⟩
   ·rw[if_neg hs1]
    subst hf
    have key:=zpt hv hs (k:=k) (x:={ x with steps:=x.steps-1 }) (by simp only;omega) (by simp only;omega) hr hd ha hst (hin w (by simp)) he
    revert key
    cases zbR fs rec k deep w { x with steps:=x.steps-1 } r with
    | bad=>exact fun h=>h
    | over st c x'=>exact fun h=>⟨(h.1.step (by omega)).1,h.2⟩
    | ok o x' r' =>
     intro ⟨k1,k2,k3,k4,k5⟩
     obtain⟨b,lt⟩:=k1.step (by omega)
     simp only
     by_cases ho:o=-1
     ·rw[if_pos ho]
      obtain⟨a1,l1⟩:=k4 ho
      have key:=zgq hs (k:=k) (h:=h) hd (f:=r.fn) ws (fun w hw=>hin w (by simp[hw])) x' r' s1 s' ⟨by rw[k2];exact hr.mem,by rw[k3,k2];exact hr.loc⟩ k2 (by omega) (by omega) a1 l1 hi
      revert key
      cases zam fs rec k deep h ws x' r' with
      | bad=>exact fun h=>h
      | over st c x2=>exact fun h=>⟨b.trans0 h.1,h.2⟩
      | ok o2 x2 r2 =>
       intro ⟨j1,j2,j3,j4,j5⟩
       exact⟨b.trans0 j1,j2.trans k2,j3.trans k3,j4,fun q=>by
        have:=j5 q
        have h4:=this.2.2.2.1
        exact⟨this.1,this.2.1,this.2.2.1,by omega,by omega⟩⟩
     ·rw[if_neg ho]
      obtain⟨q1,q2,q3⟩:=k5 ho
      rw[if_neg (by omega)]
      exact⟨b,k2,k3,fun q=>absurd q ho,fun _=>⟨q1,q2,by simp only[ybf];omega,lt,by omega⟩⟩
theorem zjj:∀k,znp fs (zkE fs k) k
 | 0=>fun x r at_ deep K _ hx=>by omega
 | k+1=>by
  intro x r at_ deep K hr hx hd h0 h1 hl
  have ih:=zjj k
  rw[zkE,if_neg (by omega)]
  have hlt:at_.toNat<r.fn.lists.length:=by omega
  rw[yau hlt]
  simp only
  cases K with
  | zero=>simp[zQ]at hl
  | succ K =>
   rw[zQ]at hl
   have hrow:r.fn.lists.getD at_.toNat []=r.fn.lists[at_.toNat]:=by rw[ycf,yau hlt];rfl
   rw[hrow]at hl
   cases hi:zE fs (r.fn.params++r.fn.locals) r.fn.type deep (zQ fs (r.fn.params++r.fn.locals) r.fn.type r.fn.lists K) r.fn.lists[at_.toNat] ⟨[],false⟩with
   | error e=>rw[hi]at hl;cases hl
   | ok s' =>
    rw[hi]at hl
    simp only at hl
    have hah:=(zcg (zak (hv _ hr.mem))).2.1
    have key:=zgq hv ih (k:=k) (h:=r.stack.length) hd (f:=r.fn) r.fn.lists[at_.toNat] (fun w hw m hm=>by
     have:=hah at_.toNat _ (yau hlt) m (ycv.2 ⟨w,hw,hm⟩)
     omega) x r ⟨[],false⟩ s' hr rfl (by omega) (by omega) rfl (by simp) hi
    revert key
    cases zam fs (zkE fs k) k deep r.stack.length r.fn.lists[at_.toNat] x r with
    | bad=>exact fun h=>h
    | over st c x'=>exact fun h=>h
    | ok o x' r' =>
     intro ⟨j1,j2,j3,j4,j5⟩
     refine⟨j1,j2,j3,fun ho=>?_,j5⟩
     obtain⟨a1,l1⟩:=j4 ho
     rw[l1]
     unfold zEi at hl
     by_cases hz:deep=0
     ·rw[if_pos hz]at hl
      cases hq:zx r.fn.type s' with
      | error e=>rw[hq]at hl;cases hl
      | ok s2 =>
       rw[hq]at hl
       simp only at hl
       obtain⟨_,l2⟩:=zcu hq a1
       by_cases he:s2.stack.length=0
       ·by_cases ht:r.fn.type=0
        ·rw[if_pos ht]at l2
         rw[if_neg (fun q=>q.2 ht)];omega
        ·rw[if_neg ht]at l2
         rw[if_pos ⟨hz,ht⟩];omega
       ·rw[if_neg he]at hl;cases hl
     ·rw[if_neg hz]at hl
      simp only at hl
      rw[if_neg (fun q=>hz q.1)]
      by_cases he:s'.stack.length=0
      ·omega
      ·rw[if_neg he]at hl;cases hl
end
theorem zjk{m:M}(hc:zaB m=.ok ())(input:List Int)(steps:Int)(k:Nat)(hk:steps.toNat<k):∃(out:List Int) (st code:Int),zpJ m input steps k=some (out,st,code)∧(st=1∨zh6 st code)∧(out.length:Int)≤max steps 0:=by
 have hv:=zbP hc
 have hm:zff m=true:=by
  unfold zaB at hc
  split at hc
  ·cases hc
  ·split at hc
   ·cases hc
   ·split at hc
    ·assumption
    ·cases hc
 unfold zff at hm
 simp only[Bool.and_eq_true,decide_eq_true_eq]at hm
 obtain⟨h0,h1⟩:=hm
 unfold zpJ
 rw[if_neg (by omega)]
 cases hg:m.funcs[m.main.toNat]? with
 | none=>rw[hg]at h1;cases h1
 | some g =>
  rw[hg]at h1
  simp only[Bool.and_eq_true,decide_eq_true_eq]at h1 ⊢
  have key:=zji hv (zjj hv k) (x:=⟨input,steps,yaj m.memory.toNat 0,[],0⟩) hk (ycs hg) (args:=[]) (by simp[h1.2]) ⟨g,[],[],0⟩
  revert key
  cases zbQ (zkE m.funcs k) ⟨input,steps,yaj m.memory.toNat 0,[],0⟩ g [] ⟨g,[],[],0⟩with
  | bad=>exact fun h=>h.elim
  | over s c x =>
   intro ⟨⟨q1,q4,l,q2,q3⟩,ho⟩
   refine⟨_,_,_,rfl,.inr ho,?_⟩
   simp only[ycE]at q2 q1 q3 q4
   rw[q2]
   omega
  | ok v x r =>
   intro ⟨⟨q1,q4,l,q2,q3⟩,_⟩
   refine⟨_,_,_,rfl,.inl rfl,?_⟩
   simp only[ycE]at q2 q1 q3 q4
   rw[q2]
   omega
theorem zcv(f:BitVec 64→BitVec 64→BitVec 64)(a b:Int):0≤zbl .u64 f a b:=by
 unfold zbl
 simp[yb4,yap,yao]
 omega
theorem zbB{G:Env}{σ:AS}{R:Out→AS→Prop}{b:Bool}(h:R (.ret (.int .i32 (zr8 b))) σ):zzQ G 262 [.bool b] σ R:=by
 refine zuc rfl ?_
 unfold zr8 at h
 cases b<;>simp[zCn,splice]at h ⊢<;>exact h
theorem zbC{G:Env}{σ:AS}{R:Out→AS→Prop}{b:Bool}(h:R (.ret (.int .i64 (zr8 b))) σ):zzQ G 263 [.bool b] σ R:=by
 refine zud rfl ?_
 unfold zr8 at h
 cases b<;>simp[zCo,splice]at h ⊢<;>exact h
theorem zez{G:Env}{σ:AS}{R:Out→AS→Prop}{op:List UInt8}{a b:Int}(h:R (.ret (.tuple [.int .i32 (zeX .i32 op a b).1,.int .i64 (zeX .i32 op a b).2])) σ):zzQ G 256 [.str op,.int .i32 a,.int .i32 b] σ R:=by
 refine zt8 rfl ?_
 unfold zeX at h
 by_cases h0:b=0
 ·simp[h0]at h;simp[zlw,splice,h0];exact h
 ·by_cases h1:op=[37]
  ·by_cases h2:b=-1
   ·simp[h0,h1,h2]at h;simp[zlw,splice,h0,h1,h2];exact h
   ·simp[h0,h1,h2]at h;simp[zlw,splice,h0,h1,h2];exact h
  ·by_cases h2:b=-1
   ·by_cases h3:a=0
    ·simp[h0,h1,h2,h3]at h;simp[zlw,splice,h0,h1,h2,h3];exact h
    ·by_cases h4:yb4 .i32 (-a)=a
     ·simp[h0,h1,h2,h3,h4]at h;simp[zlw,splice,h0,h1,h2,h3,h4];exact h
     ·simp[h0,h1,h2,h3,h4]at h;simp[zlw,splice,h0,h1,h2,h3,h4];exact h
   ·simp[h0,h1,h2]at h;simp[zlw,splice,h0,h1,h2];exact h
theorem zeA{G:Env}{σ:AS}{R:Out→AS→Prop}{op:List UInt8}{a b:Int}(h:R (.ret (.tuple [.int .i64 (zeX .i64 op a b).1,.int .i64 (zeX .i64 op a b).2])) σ):zzQ G 258 [.str op,.int .i64 a,.int .i64 b] σ R:=by
 refine zua rfl ?_
 unfold zeX at h
 by_cases h0:b=0
 ·simp[h0]at h;simp[zlx,splice,h0];exact h
 ·by_cases h1:op=[37]
  ·by_cases h2:b=-1
   ·simp[h0,h1,h2]at h;simp[zlx,splice,h0,h1,h2];exact h
   ·simp[h0,h1,h2]at h;simp[zlx,splice,h0,h1,h2];exact h
  ·by_cases h2:b=-1
   ·by_cases h3:a=0
    ·simp[h0,h1,h2,h3]at h;simp[zlx,splice,h0,h1,h2,h3];exact h
    ·by_cases h4:yb4 .i64 (-a)=a
     ·simp[h0,h1,h2,h3,h4]at h;simp[zlx,splice,h0,h1,h2,h3,h4];exact h
     ·simp[h0,h1,h2,h3,h4]at h;simp[zlx,splice,h0,h1,h2,h3,h4];exact h
   ·simp[h0,h1,h2]at h;simp[zlx,splice,h0,h1,h2];exact h
theorem zl9{G:Env}{σ:AS}{R:Out→AS→Prop}{op:List UInt8}{a b:Int}(h:R (.ret (.int .i32 (zrv .i32 op a b 32))) σ):zzQ G 257 [.str op,.int .i32 a,.int .i32 b,.int .i64 32] σ R:=by
 refine zt9 rfl ?_
 unfold zrv at h
 by_cases h1:op=[43]
 ·subst h1;simp at h;simp[zem,splice];exact h
 by_cases h2:op=[45]
 ·subst h2;simp at h;simp[zem,splice];exact h
 by_cases h3:op=[42]
 ·subst h3;simp at h;simp[zem,splice];exact h
 by_cases h4:op=[38]
 ·subst h4;simp at h;simp[zem,splice];exact h
 by_cases h5:op=[124]
 ·subst h5;simp at h;simp[zem,splice];exact h
 by_cases h6:op=[94]
 ·subst h6;simp at h;simp[zem,splice];exact h
 by_cases h7:op=[60,60]
 ·subst h7;simp at h;simp[zem,splice,show yb4 .i64 31=31 by decide];exact⟨zcv _ _ _,h⟩
 by_cases h8:op=[62,62]
 ·subst h8;simp at h;simp[zem,splice,show yb4 .i64 31=31 by decide];exact⟨zcv _ _ _,h⟩
 by_cases h9:op=[61,61]
 ·subst h9;simp at h;simp[zem,splice];refine zbB ?_;simp;exact h
 by_cases h10:op=[33,61]
 ·subst h10;simp at h;simp[zem,splice];refine zbB ?_;simp;exact h
 by_cases h11:op=[60]
 ·subst h11;simp at h;simp[zem,splice];refine zbB ?_;simp;exact h
 by_cases h12:op=[60,61]
 ·subst h12;simp at h;simp[zem,splice];refine zbB ?_;simp;exact h
 by_cases h13:op=[62]
 ·subst h13;simp at h;simp[zem,splice];refine zbB ?_;simp;exact h
 by_cases h14:op=[62,61]
 ·subst h14;simp at h;simp[zem,splice];refine zbB ?_;simp;exact h
 ·simp[h1,h2,h3,h4,h5,h6,h7,h8,h9,h10,h11,h12,h13,h14]at h
  simp[zem,splice,h1,h2,h3,h4,h5,h6,h7,h8,h9,h10,h11,h12,h13,h14]
  exact h
theorem zma{G:Env}{σ:AS}{R:Out→AS→Prop}{op:List UInt8}{a b:Int}(h:R (.ret (.int .i64 (zrv .i64 op a b 64))) σ):zzQ G 259 [.str op,.int .i64 a,.int .i64 b,.int .i64 64] σ R:=by
 refine zub rfl ?_
 unfold zrv at h
 by_cases h1:op=[43]
 ·subst h1;simp at h;simp[zen,splice];exact h
 by_cases h2:op=[45]
 ·subst h2;simp at h;simp[zen,splice];exact h
 by_cases h3:op=[42]
 ·subst h3;simp at h;simp[zen,splice];exact h
 by_cases h4:op=[38]
 ·subst h4;simp at h;simp[zen,splice];exact h
 by_cases h5:op=[124]
 ·subst h5;simp at h;simp[zen,splice];exact h
 by_cases h6:op=[94]
 ·subst h6;simp at h;simp[zen,splice];exact h
 by_cases h7:op=[60,60]
 ·subst h7;simp at h;simp[zen,splice,show yb4 .i64 63=63 by decide];exact⟨zcv _ _ _,h⟩
 by_cases h8:op=[62,62]
 ·subst h8;simp at h;simp[zen,splice,show yb4 .i64 63=63 by decide];exact⟨zcv _ _ _,h⟩
 by_cases h9:op=[61,61]
 ·subst h9;simp at h;simp[zen,splice];refine zbC ?_;simp;exact h
 by_cases h10:op=[33,61]
 ·subst h10;simp at h;simp[zen,splice];refine zbC ?_;simp;exact h
 by_cases h11:op=[60]
 ·subst h11;simp at h;simp[zen,splice];refine zbC ?_;simp;exact h
 by_cases h12:op=[60,61]
 ·subst h12;simp at h;simp[zen,splice];refine zbC ?_;simp;exact h
 by_cases h13:op=[62]
 ·subst h13;simp at h;simp[zen,splice];refine zbC ?_;simp;exact h
 by_cases h14:op=[62,61]
 ·subst h14;simp at h;simp[zen,splice];refine zbC ?_;simp;exact h
 ·simp[h1,h2,h3,h4,h5,h6,h7,h8,h9,h10,h11,h12,h13,h14]at h
  simp[zen,splice,h1,h2,h3,h4,h5,h6,h7,h8,h9,h10,h11,h12,h13,h14]
  exact h
theorem znq{G:Env}{σ:AS}{R:Out→AS→Prop}{op:List UInt8}{a b:Int}(h:R (.ret (.tuple [.int .i64 (yb4 .i64 (zuY .i32 op a b 32).1),.int .i64 (zuY .i32 op a b 32).2])) σ):zzQ G 245 [.str op,.int .i32 a,.int .i32 b,.int .i64 32] σ R:=by
 refine zt1 rfl ?_
 unfold zuY at h
 by_cases h1:op=[47]
 ·subst h1;simp at h
  simp[zt0,splice]
  refine zez ?_
  simp;exact h
 by_cases h2:op=[37]
 ·subst h2;simp at h
  simp[zt0,splice]
  refine zez ?_
  simp;exact h
 ·simp[h1,h2]at h
  simp[zt0,splice,h1,h2]
  refine zl9 ?_
  simp;exact h
theorem znr{G:Env}{σ:AS}{R:Out→AS→Prop}{op:List UInt8}{a b:Int}(h:R (.ret (.tuple [.int .i64 (zuY .i64 op a b 64).1,.int .i64 (zuY .i64 op a b 64).2])) σ):zzQ G 246 [.str op,.int .i64 a,.int .i64 b,.int .i64 64] σ R:=by
 refine zt3 rfl ?_
 unfold zuY at h
 by_cases h1:op=[47]
 ·subst h1;simp at h
  simp[zt2,splice]
  refine zeA ?_
  simp;exact h
 by_cases h2:op=[37]
 ·subst h2;simp at h
  simp[zt2,splice]
  refine zeA ?_
  simp;exact h
 ·simp[h1,h2]at h
  simp[zt2,splice,h1,h2]
  refine zma ?_
  simp;exact h
theorem zry{G:Env}{σ:AS}{R:Out→AS→Prop}{t:Int}{op:List UInt8}{a b:Int}(h:R (.ret (.tuple [.int .i64 (zAD t op a b).1,.int .i64 (zAD t op a b).2])) σ):zzQ G 218 [.int .i64 t,.str op,.int .i64 a,.int .i64 b] σ R:=by
 refine ztO rfl ?_
 unfold zAD at h
 by_cases h1:t=1
 ·subst h1;simp at h
  simp[ztN,splice]
  refine znq ?_
  simp
  exact h
 by_cases h2:t=2
 ·subst h2;simp at h
  simp[ztN,splice]
  refine znr ?_
  simp;exact h
 ·simp[h1,h2]at h
  simp[ztN,splice,h1,h2]
  exact h
def zkF(σ:AS)(v:AV)(l:List Int):Prop:=(l=[]∧v=.nilsl)∨∃g,v=.sl (.fam g false) 1 (l.map (.int .i64))∧g<σ.nf∧σ.F g=.alive
def zV:AV→List Nat
 | .sl (.fam g _) _ _=>[g]
 | _=>[]
theorem zkF.one{σ v l}(h:zkF σ v l):v.known=true∧v.one=true∧v.cells=[v]:=by
 rcases h with ⟨_,rfl⟩|⟨g,rfl,_⟩<;>simp
theorem zkF.len{σ v l}(h:zkF σ v l)(K:AV→Prop):zgF yb9 44 v K=K (.int .i64 (l.length:Int)):=by
 rcases h with ⟨rfl,rfl⟩|⟨g,rfl,_⟩<;>simp
theorem zkF.keep{σ σ' v l}(h:zkF σ v l)(hn:σ.nf≤σ'.nf)(hk:∀g∈zV v,σ'.F g=σ.F g):zkF σ' v l:=by
 rcases h with h|⟨g,rfl,h1,h2⟩
 ·exact .inl h
 ·exact .inr ⟨g,rfl,by omega,by rw[hk g (by simp[zV])];exact h2⟩
theorem zkF.lt{σ v l}(h:zkF σ v l):∀g∈zV v,g<σ.nf:=by
 rcases h with ⟨_,rfl⟩|⟨g,rfl,h1,_⟩<;>simp[zV]
 exact h1
def zym(σ:AS)(L:List Nat)(v:AV)(l:List Int):Prop:=(L=[]∧l=[]∧(v=.nilsl∨∃φ,v=.sl φ 1 []))∨∃lo,L=[lo]∧v=.slm lo 0 1 l.length∧σ.objs lo=some (l.map (.int .i64))
theorem zym.one{σ L v l}(h:zym σ L v l):v.known=true∧v.one=true∧v.cells=[v]:=by
 rcases h with ⟨_,_,rfl|⟨φ,rfl⟩⟩|⟨lo,_,rfl,_⟩<;>simp
theorem zym.keep{σ σ' L v l}(h:zym σ L v l)(hk:∀o∈L,σ'.objs o=σ.objs o):zym σ' L v l:=by
 rcases h with h|⟨lo,rfl,rfl,h⟩
 ·exact .inl h
 ·exact .inr ⟨lo,rfl,rfl,by rw[hk lo (by simp)];exact h⟩
structure XM(fs:List F)(mm mn:Int)(σ0:AS)(xo mo:Nat)(D T:List Nat)(x:zao)(ov:AV)(σ:AS):Prop where
 no:σ0.no≤σ.no
 nf:σ0.nf≤σ.nf
 obj:∀o,o<σ0.no→o≠xo→o≠mo→o∉D→σ.objs o=σ0.objs o
 fam:∀g,g<σ0.nf→g∉T→σ.F g=σ0.F g
 xl:xo<σ0.no
 ml:mo<σ0.no
 xm:xo≠mo
 dl:∀o∈D,o<σ.no∧o≠xo∧o≠mo
 mach:∃fv iv,σ.objs xo=some [fv,.int .i64 mm,.int .i64 mn,iv,.int .i64 x.steps,.slm mo 0 1 x.memory.length,ov,.int .i64 x.calls]∧FsV fv fs∧zZ iv x.input
 own:zkF σ ov x.out
 ownT:∀g∈zV ov,g∈T∨σ0.nf≤g
 mem:σ.objs mo=some (x.memory.map fun b=>.int .u8 b.toNat)
structure XR(σ0:AS)(fo:Nat)(L T:List Nat)(r:Fr)(sv:AV)(σ:AS):Prop where
 fr:∃pv lv tv cv,σ.objs fo=some [.str r.fn.name,pv,lv,.int .i64 r.fn.type,tv,cv,sv,.int .i64 r.result]∧zZ pv r.fn.params∧zZ lv r.fn.locals∧zcs tv r.fn.lists∧zym σ L cv r.locals
 fl:fo∉L
 own:zkF σ sv r.stack
 ownT:∀g∈zV sv,g∈T∨σ0.nf≤g
def XF(fs:List F)(mm mn:Int)(σ0:AS)(xo mo fo:Nat)(L T:List Nat)(x:zao)(r:Fr)(σ:AS):Prop :=
 ∃ov sv,XM fs mm mn σ0 xo mo (fo::L) T x ov σ∧XR σ0 fo L T r sv σ∧∀g∈zV ov,g∉zV sv
def zh8(s c:Int):AV:=.iface 111 (.agg [.int .i64 s,.int .i64 c])
section
variable {G : Env} {fs : List F} {mm mn : Int} {σ0 σ : AS} {xo mo fo : Nat} {L T : List Nat} {x : zao} {r : Fr} {R : Out → AS → Prop}
theorem XF.setFr(h:XF fs mm mn σ0 xo mo fo L T x r σ){pv lv tv cv sv sv':AV}{st':List Int}{res':Int}{σ1:AS}
  (ho:σ.objs fo=some [.str r.fn.name,pv,lv,.int .i64 r.fn.type,tv,cv,sv,.int .i64 r.result]) (e1:σ1.objs=σ.objs) (e2:σ1.no=σ.no) (e3:σ.nf≤σ1.nf) (e4:∀g,g<σ.nf→g∉zV sv→σ1.F g=σ.F g)
  (hs:zkF σ1 sv' st') (hsf:∀g∈zV sv',g∈zV sv∨σ.nf≤g) :
  XF fs mm mn σ0 xo mo fo L T x { r with stack:=st',result:=res' } (σ1.setO fo [.str r.fn.name,pv,lv,.int .i64 r.fn.type,tv,cv,sv',.int .i64 res']):=by
 obtain⟨ov,sv0,hm,hr,hd⟩:=h
 obtain⟨pv0,lv0,tv0,cv0,ho0,hpv,hlv,htv,hcv⟩:=hr.fr
 rw[ho]at ho0
 simp only[yaR.injEq,ydl.injEq]at ho0
 obtain⟨_,rfl,rfl,_,rfl,rfl,rfl,_,_⟩:=ho0
 have hfd:=hm.dl fo (by simp)
 have hltm:=hm.xl
 have hltml:=hm.ml
 have hno:=hm.no
 have hlt:=hm.own.lt
 have key:∀o,o≠fo→(σ1.setO fo [.str r.fn.name,pv,lv,.int .i64 r.fn.type,tv,cv,sv',.int .i64 res']).objs o=σ.objs o:=fun o ho=>by simp[ho,e1]
 have hof:∀g∈zV ov,σ1.F g=σ.F g:=fun g hg=>e4 g (hlt g hg) (hd g hg)
 refine⟨ov,sv',⟨by simp[e2];omega,yai hm.nf e3,fun o h1 h2 h3 h4=>?_,fun g h1 h2=>?_,hm.xl,hm.ml,hm.xm,fun o h1=>?_,?_,?_,hm.ownT,?_⟩,⟨⟨pv,lv,tv,cv,by simp,hpv,hlv,htv,?_⟩,hr.fl,hs,fun g hg=>?_⟩,fun g hg=>?_⟩
 ·rw[key o (fun e=>h4 (by simp[e]))];exact hm.obj o h1 h2 h3 h4
 ·have h3:g∉zV sv:=fun hg=>by rcases hr.ownT g hg with h|h;exact h2 h;omega
  have:=hm.nf
  show σ1.F g=σ0.F g
  rw[e4 g (by omega) h3];exact hm.fam g h1 h2
 ·simpa [e2]using hm.dl o h1
 ·obtain⟨fv,iv,a,b,c⟩:=hm.mach
  exact⟨fv,iv,by rw[key xo (Ne.symm hfd.2.1)];exact a,b,c⟩
 ·exact hm.own.keep (by simpa using e3) (by simpa using hof)
 ·rw[key mo (Ne.symm hfd.2.2)];exact hm.mem
 ·exact hcv.keep fun o ho=>key o fun e=>hr.fl (e▸ho)
 ·rcases hsf g hg with h|h
  ·exact hr.ownT g h
  ·right;have:=hm.nf;omega
 ·intro h'
  rcases hsf g h' with h|h
  ·exact hd g hg h
  ·have:=hlt g hg;omega
theorem zan{v:Int}(h:XF fs mm mn σ0 xo mo fo L T x r σ)(hl:r.stack.length≤2^40)(hR:∀σ',XF fs mm mn σ0 xo mo fo L T x (r.push v) σ'→R (.ret (.tuple [])) σ'):zzQ G 217 [.ptr fo 0,.int .i64 v] σ R:=by
 refine ztM rfl ?_
 obtain⟨ov,sv,hm,hr,hd⟩:=h
 obtain⟨pv,lv,tv,cv,ho,hpv,hlv,htv,hcv⟩:=hr.fr
 have s1:=hr.own.one
 have p1:=hpv.one
 have l1:=hlv.one
 have t1:=htv.one
 have c1:=hcv.one
 have hx:XF fs mm mn σ0 xo mo fo L T x r σ:=⟨ov,sv,hm,hr,hd⟩
 rcases hr.own with ⟨hs,rfl⟩|⟨g,rfl,hg1,hg2⟩
 ·simp[zxy,ho,splice]
  refine hR _ (hx.setFr ho (by simp) (by simp) (by simp) (fun g h1 _=>by simp;intro h;omega) ?_ ?_)
  ·exact .inr ⟨σ.nf,by simp[hs],by simp,by simp⟩
  ·simp[zV]
 ·simp[zxy,ho,splice,hg2]
  refine⟨by omega,hR _ (hx.setFr ho (by simp) (by simp) (by simp) (fun k h1 h2=>?_) ?_ ?_)⟩
  ·have:k≠g:=by simpa [zV]using h2
   simp[this];intro h;omega
  ·exact .inr ⟨σ.nf,by simp,by simp,by simp⟩
  ·simp[zV]
theorem zjl{v:Int}(h:XF fs mm mn σ0 xo mo fo L T x r σ)(hl:r.stack.length≤2^40)(hv:r.stack.getLast?=some v)(hR:∀σ',XF fs mm mn σ0 xo mo fo L T x { r with stack:=r.stack.dropLast } σ'→(∀o,o≠fo→σ'.objs o=σ.objs o)→R (.ret (.int .i64 v)) σ'):zzQ G 147 [.ptr fo 0] σ R:=by
 refine zte rfl ?_
 obtain⟨ov,sv,hm,hr,hd⟩:=h
 obtain⟨pv,lv,tv,cv,ho,hpv,hlv,htv,hcv⟩:=hr.fr
 have s1:=hr.own.one
 have p1:=hpv.one
 have l1:=hlv.one
 have t1:=htv.one
 have c1:=hcv.one
 have hx:XF fs mm mn σ0 xo mo fo L T x r σ:=⟨ov,sv,hm,hr,hd⟩
 rcases hr.own with ⟨hs,rfl⟩|⟨g,rfl,hg1,hg2⟩
 ·rw[hs]at hv;simp at hv
 ·have hne:r.stack≠[]:=by rintro e;rw[e]at hv;simp at hv
  have hpos:0<r.stack.length:=ybm.2 hne
  have w1:yb4 .i64 ((r.stack.length:Int)-1)=((r.stack.length-1:Nat):Int):=by rw[zc]<;>omega
  have hix:(r.stack.map (yco .i64))[r.stack.length-1]?=some (.int .i64 v):=by
   rw[List.getLast?_eq_getElem?]at hv
   simp[hv]
  have e:ycM (r.stack.length-1) (r.stack.map (yco .i64))=r.stack.dropLast.map (yco .i64):=by rw[←ydm,List.dropLast_eq_take]
  simp[zB2,ho,splice,hg2,w1,hix,e]
  exact hR _ (hx.setFr (σ1:=σ) ho rfl rfl (yah _) (fun _ _ _=>rfl) (.inr ⟨g,by simp,hg1,hg2⟩) (fun k hk=>.inl hk)) fun o h=>by simp[h]
theorem zad{v:Int}(h:XF fs mm mn σ0 xo mo fo L T x r σ)(hl:r.stack.length≤2^40)(hv:r.stack.getLast?=some v)(hR:∀σ',XF fs mm mn σ0 xo mo fo L T x { r with stack:=r.stack.dropLast } σ'→R (.ret (.int .i64 v)) σ'):zzQ G 147 [.ptr fo 0] σ R :=
 zjl h hl hv fun σ' hx _=>hR σ' hx
theorem XF.setX(h:XF fs mm mn σ0 xo mo fo L T x r σ){fv iv ov iv' ov':AV}{inp out:List Int}{steps calls:Int}{σ1:AS}
  (ho:σ.objs xo=some [fv,.int .i64 mm,.int .i64 mn,iv,.int .i64 x.steps,.slm mo 0 1 x.memory.length,ov,.int .i64 x.calls]) (e1:σ1.objs=σ.objs) (e2:σ1.no=σ.no) (e3:σ.nf≤σ1.nf) (e4:∀g,g<σ.nf→g∉zV ov→σ1.F g=σ.F g)
  (hi:zZ iv' inp) (hs:zkF σ1 ov' out) (hsf:∀g∈zV ov',g∈zV ov∨σ.nf≤g) :
  XF fs mm mn σ0 xo mo fo L T { x with input:=inp,out:=out,steps:=steps,calls:=calls } r (σ1.setO xo [fv,.int .i64 mm,.int .i64 mn,iv',.int .i64 steps,.slm mo 0 1 x.memory.length,ov',.int .i64 calls]):=by
 obtain⟨ov0,sv,hm,hr,hd⟩:=h
 obtain⟨fv0,iv0,ho0,hfv,hiv⟩:=hm.mach
 rw[ho]at ho0
 simp only[yaR.injEq,ydl.injEq]at ho0
 obtain⟨rfl,_,_,rfl,_,_,rfl,_⟩:=ho0
 have hfd:=hm.dl fo (by simp)
 have hltm:=hm.xl
 have hltml:=hm.ml
 have hno:=hm.no
 have hlt:=hr.own.lt
 have key:∀o,o≠xo→(σ1.setO xo [fv,.int .i64 mm,.int .i64 mn,iv',.int .i64 steps,.slm mo 0 1 x.memory.length,ov',.int .i64 calls]).objs o=σ.objs o:=fun o ho=>by simp[ho,e1]
 have hof:∀g∈zV sv,σ1.F g=σ.F g:=fun g hg=>e4 g (hlt g hg) (fun h=>hd g h hg)
 refine⟨ov',sv,⟨by simp[e2];omega,yai hm.nf e3,fun o h1 h2 h3 h4=>?_,fun g h1 h2=>?_,hm.xl,hm.ml,hm.xm,fun o h1=>?_,?_,hs,fun g hg=>?_,?_⟩,⟨?_,hr.fl,?_,hr.ownT⟩,fun g hg h'=>?_⟩
 ·rw[key o h2];exact hm.obj o h1 h2 h3 h4
 ·have h3:g∉zV ov:=fun hg=>by rcases hm.ownT g hg with h|h;exact h2 h;omega
  have:=hm.nf
  show σ1.F g=σ0.F g
  rw[e4 g (by omega) h3];exact hm.fam g h1 h2
 ·simpa [e2]using hm.dl o h1
 ·exact⟨fv,iv',by simp,hfv,hi⟩
 ·rcases hsf g hg with h|h
  ·exact hm.ownT g h
  ·right;have:=hm.nf;omega
 ·rw[key mo (Ne.symm hm.xm)];exact hm.mem
 ·obtain⟨pv,lv,tv,cv,a,b,c,d,e⟩:=hr.fr
  exact⟨pv,lv,tv,cv,by rw[key fo hfd.2.1];exact a,b,c,d,e.keep fun o ho=>key o (hm.dl o (by simp[ho])).2.1⟩
 ·exact hr.own.keep (by simpa using e3) (by simpa using hof)
 ·rcases hsf g hg with h|h
  ·exact hd g h h'
  ·have:=hlt g h';omega
theorem zcS{t:Int}(h0:t=0→R (.ret (.tuple [])) σ)(h1:t≠0→R (.panic (zh8 2 t)) σ):zzQ G 145 [.int .i64 t] σ R:=by
 refine ztc rfl ?_
 by_cases h:t=0
 ·simp[zxr,splice,h];exact h0 h
 ·simp[zxr,splice,h];exact h1 h
theorem zpu(h:XF fs mm mn σ0 xo mo fo L T x r σ)(hl:x.input.length≤2^40)(hR:∀σ',(match x.input with|[]=>XF fs mm mn σ0 xo mo fo L T x r σ'|_::l=>XF fs mm mn σ0 xo mo fo L T { x with input:=l } r σ')→R (.ret (.int .i64 (x.input.headD 0))) σ'):zzQ G 247 [.ptr xo 0] σ R:=by
 refine zt4 rfl ?_
 have hx:=h
 obtain⟨ov,sv,hm,hr,hd⟩:=h
 obtain⟨fv,iv,ho,hfv,hiv⟩:=hm.mach
 have i1:=hiv.one
 have i2:=hiv.len
 have f1:=hfv.one
 have o1:=hm.own.one
 cases hin:x.input with
 | nil =>
  rw[hin]at hR i2
  simp[zxz,ho,splice,i2]
  exact hR _ hx
 | cons v l =>
  rw[hin]at hR i2 hiv
  rcases hiv with ⟨hh,_⟩|⟨b,rfl⟩
  ·cases hh
  ·have hne:¬((l.length:Int)+1=0):=by omega
   have ht:ycM l.length (l.map (yco .i64))=l.map (yco .i64):=ycN (by simp)
   simp[zxz,ho,splice,hne,ht]
   exact⟨by omega,hR _ (hx.setX (σ1:=σ) ho rfl rfl (yah _) (fun _ _ _=>rfl) (.inr ⟨_,rfl⟩) hm.own fun k hk=>.inl hk)⟩
theorem zjm{at_ n:Int}(h:XF fs mm mn σ0 xo mo fo L T x r σ)(hn:1≤n∧n≤8)(hml:x.memory.length≤2^40)(hR:(at_<0∨(x.memory.length:Int)-n<at_)→R (.panic (zh8 2 3)) σ)
  (hR':¬(at_<0∨(x.memory.length:Int)-n<at_)→R (.ret (.slm mo at_.toNat 1 n.toNat)) σ):zzQ G 222 [.ptr xo 0,.int .i64 at_,.int .i64 n] σ R:=by
 refine ztT rfl ?_
 obtain⟨ov,sv,hm,hr,hd⟩:=h
 obtain⟨fv,iv,ho,hfv,hiv⟩:=hm.mach
 have i1:=hiv.one
 have f1:=hfv.one
 have o1:=hm.own.one
 have w1:yb4 .i64 ((x.memory.length:Int)-n)=(x.memory.length:Int)-n:=by rw[zc]<;>omega
 by_cases h1:at_<0
 ·simp[ztS,ho,splice,h1]
  refine zcS (fun h=>by omega) fun _=>?_
  simp
  exact hR (.inl h1)
 ·by_cases h2:(x.memory.length:Int)-n<at_
  ·simp[ztS,ho,splice,h1,w1,h2]
   refine zcS (fun h=>by omega) fun _=>?_
   simp
   exact hR (.inr h2)
  ·have w2:yb4 .i64 (at_+n)=at_+n:=by rw[zc]<;>omega
   simp[ztS,ho,splice,h1,w1,h2,w2]
   refine⟨by omega,by omega,by omega,by omega,?_⟩
   rw[show(at_+n).toNat-at_.toNat=n.toNat by omega]
   exact hR' (by omega)
end
theorem zkG:∀(l:List UInt8),0≤zdU l∧zdU l<256^l.length
 | []=>by simp[zdU]
 | c::l=>by
  obtain⟨h1,h2⟩:=zkG l
  have hc:=c.toNat_lt
  simp only[zdU,yac]
  rw[Int.pow_succ]
  omega
theorem zjn:∀(l:List UInt8) (c:UInt8),zdU (l++[c])=zdU l+256^l.length*(c.toNat:Int)
 | [],c=>by simp[zdU]
 | d::l,c=>by
  simp only[List.cons_append,zdU,zjn l c,yac]
  rw[Int.pow_succ,Int.mul_add,Int.mul_comm (256^l.length) 256,Int.mul_assoc];omega
theorem zE4{a b k:Nat}(ha:a<2^k):a ||| (b*2^k)=a+b*2^k:=by
 rw[Nat.add_comm,Nat.mul_comm,Nat.or_comm]
 exact(Nat.two_pow_add_eq_or_of_lt ha b).symm
theorem zuZ{a c:Int}{k:Nat}{n:Nat}(h0:0≤a)(ha:a<2^k)(hc:0≤c)(hc2:c<256)(hk:k+8≤64):zbl .u64 (· ||| ·) a (yde.wrap (c*2^k))=a+2^k*c:=by
 obtain⟨a,rfl⟩:=ydn h0
 obtain⟨c,rfl⟩:=ydn hc
 have hp:(2:Nat)^(k+8)≤2^64:=ydo (by omega) hk
 have ha':a<2^k:=by exact_mod_cast ha
 have hb:c*2^k<2^64:=by
  have h1:c*2^k<256*2^k:=Nat.mul_lt_mul_of_pos_right (by omega) (Nat.two_pow_pos k)
  rw[Nat.pow_add]at hp
  omega
 have hak:a<2^64:=by
  have:(2:Nat)^k≤2^64:=ydo (by omega) (by omega)
  omega
 have hab:a+c*2^k<2^64:=by
  rw[Nat.pow_add]at hp
  have h1:c*2^k≤255*2^k:=Nat.mul_le_mul_right _ (by omega)
  omega
 have wn:∀z:Nat,z<2^64→yde.wrap (z:Int)=(z:Int):=fun z hz=>by
  simp[yb4,yap,yao];omega
 have e1:yde.wrap ((c:Int)*2^k)=((c*2^k:Nat):Int):=by
  rw[←wn _ hb];congr 1
 rw[e1]
 unfold zbl
 have e2:∀z:Nat,z<2^64→(BitVec.ofInt yde.bits (z:Int)).toNat=z:=fun z hz=>by
  rw[BitVec.ofInt_natCast,BitVec.toNat_ofNat];exact Nat.mod_eq_of_lt hz
 rw[BitVec.toNat_or,e2 a hak,e2 _ hb,zE4 ha',wn _ hab]
 push_cast
 rw[Int.mul_comm (2^k)]
theorem zpv{z:Int}{n:Nat}(h1:1≤n)(h8:n≤8)(h0:0≤z)(hz:z<256^n):
  (yam.wrap (yde.wrap (z*2^(min (64-8*n) 64)))).fdiv (2^(min (64-8*n) 64))=if z<2^(8*n-1)then z else z-2^(8*n):=by
 have hn:n=1∨n=2∨n=3∨n=4∨n=5∨n=6∨n=7∨n=8:=by omega
 rw[Int.fdiv_eq_ediv_of_nonneg _ (Int.pow_nonneg (by omega))]
 rcases hn with rfl|rfl|rfl|rfl|rfl|rfl|rfl|rfl<;>simp[yb4,yap,yao]at hz ⊢<;>split<;>split<;>omega
def LDI(mo at_ n:Nat)(l:List UInt8)(σ:AS)(a:Nat→AV)(τ:AS):Prop:=∃i:Nat,i≤n∧a 0=.slm mo at_ 1 n∧a 7=.slm mo at_ 1 n∧a 8=.int .i64 (n:Int)∧a 9=.int .i64 (i:Int)∧a 3=.int .u64 (zdU (l.take i))∧τ=σ
theorem zpw{G:Env}{σ:AS}{R:Out→AS→Prop}{mo at_ n:Nat}{mem:List UInt8}(ho:σ.objs mo=some (mem.map fun b=>.int .u8 b.toNat))(h1:1≤n)(h8:n≤8)(hl:at_+n≤mem.length)(hR:R (.ret (.int .i64 (zyk ((mem.drop at_).take n)))) σ):
  zzQ G 221 [.slm mo at_ 1 n] σ R:=by
 refine ztR rfl ?_
 generalize hle:(mem.drop at_).take n=l at *
 have hll:l.length=n:=by rw[←hle];simp;omega
 simp[zCj]
 refine zas (LDI mo at_ n l σ) (MU 9 (n+1)) ⟨0,by omega,by simp,by simp,by simp,by simp,by simp[zdU],rfl⟩ fun a τ hI=>?_
 obtain⟨i,hi,a0,a7,a8,a9,a3,rfl⟩:=hI
 by_cases hlt:i<n
 ·have hil:i<l.length:=by omega
  have hm:mem[at_+i]?=some l[i]:=by
   rw[←yau hil,←hle,List.getElem?_take,List.getElem?_drop,if_pos hlt]
  have hc:=l[i].toNat_lt
  have w1:yb4 .i64 (8*(i:Int))=8*(i:Int):=by rw[zc]<;>omega
  have w2:yb4 .i64 ((i:Int)+1)=((i+1:Nat):Int):=by rw[zc]<;>omega
  have w3:yb4 .u64 (l[i].toNat:Int)=(l[i].toNat:Int):=by simp[yb4,yap,yao];omega
  obtain⟨q1,q2⟩:=zkG (l.take i)
  have hti:(l.take i).length=i:=by simp;omega
  have w4:=zuZ (a:=zdU (l.take i)) (c:=(l[i].toNat:Int)) (k:=8*i) (n:=0) q1 (by rw[hti]at q2;rw[Int.pow_mul];exact q2) (by omega) (by omega) (by omega)
  have w5:zdU (l.take (i+1))=zdU (l.take i)+2^(8*i)*(l[i].toNat:Int):=by
   rw[ycl hil,zjn,hti,Int.pow_mul];rfl
  have w6:min (8*(i:Int)).toNat yde.bits=8*i:=by simp[yap];omega
  simp[zke,a0,a7,a8,a9,a3,hlt,ho,hm,w1,w2,w3,w6]
  refine⟨by omega,⟨i+1,by omega,by simp[a0],by simp[a7],by simp[a8],by simp,?_,rfl⟩,?_⟩
  ·simp[w4,w5]
  ·simp only[MU,a9];simp;omega
 ·have e:i=n:=by omega
  subst e
  rw[ycN (by omega)]at a3
  obtain⟨q1,q2⟩:=zkG l
  have w1:yb4 .i64 (8*(i:Int))=8*(i:Int):=by rw[zc]<;>omega
  have w2:yb4 .i64 (64-8*(i:Int))=((64-8*i:Nat):Int):=by rw[zc]<;>omega
  have w3:=zpv h1 h8 q1 (by rw[hll]at q2;exact q2)
  simp[zke,zn6,a0,a7,a8,a9,a3,w1,w2]
  unfold zyk at hR
  rw[hll,←w3]at hR
  exact hR
structure OkF(f:F):Prop where
 params:f.params.length≤2^38
 locals:f.locals.length≤2^38
 lists:f.lists.length≤2^38
 rows:∀l∈f.lists,l.length≤2^38
 nums:∀l∈f.lists,∀w∈l,w.n≤2^63-1
structure Bd(N:Nat)(x:zao)(r:Fr):Prop where
 n:N≤2^38
 stack:(r.stack.length:Int)+max x.steps 0≤N
 out:(x.out.length:Int)+max x.steps 0≤N
 fn:OkF r.fn
 calls:0≤x.calls∧x.calls≤32
 mem:x.memory.length≤2^38
 inp:x.input.length≤2^38
structure Aft(N:Nat)(x:zao)(r:Fr)(x':zao)(r':Fr):Prop where
 bd:Bd N x' r'
 steps:x'.steps≤x.steps
 calls:x'.calls=x.calls
 fn:r'.fn=r.fn
theorem Aft.trans{N x r x' r' x'' r''}(h:Aft N x r x' r')(k:Aft N x' r' x'' r''):Aft N x r x'' r'':=⟨k.bd,Int.le_trans k.steps h.steps,k.calls.trans h.calls,k.fn.trans h.fn⟩
def RBd(N:Nat)(D:Int)(rec:zey):Prop:=∀x r at_ deep o x' r',Bd N x r→deep≤D→rec x r at_ deep=.ok o x' r'→Aft N x r x' r'∧o≤2^63-1
theorem zaZ{α:Type}{r:Fr}{k:Int→Fr→Ev α}{e:Ev α}(h:zbK r k=e)(hb:e≠.bad):∃v,r.stack.getLast?=some v∧k v { r with stack:=r.stack.dropLast }=e:=by
 unfold zbK at h
 cases hg:r.stack.getLast? with
 | none=>rw[hg]at h;exact absurd h.symm hb
 | some v=>rw[hg]at h;exact⟨v,rfl,h⟩
structure B1(N:Nat)(x:zao)(r:Fr):Prop where
 bd:Bd N x r
 st:(r.stack.length:Int)+max x.steps 0+1≤N
 ou:(x.out.length:Int)+max x.steps 0+1≤N
theorem Bd.one{N x r}(h:Bd N x r)(hs:1≤x.steps):B1 N { x with steps:=x.steps-1 } r:=by
 obtain⟨a,b,c,d,e,f,g⟩:=h
 exact⟨⟨a,by simp only;omega,by simp only;omega,d,e,f,g⟩,by simp only;omega,by simp only;omega⟩
theorem B1.stack{N x r}(h:B1 N x r){st:List Int}{loc:List Int}{res:Int}(hs:st.length≤r.stack.length):B1 N x { r with stack:=st,locals:=loc,result:=res }:=by
 obtain⟨⟨a,b,c,d,e,f,g⟩,k,m⟩:=h
 exact⟨⟨a,by simp only;omega,c,d,e,f,g⟩,by simp only;omega,m⟩
theorem Bd.stackLe{N x r}(h:Bd N x r){st:List Int}{loc:List Int}{res:Int}(hs:st.length≤r.stack.length):Bd N x { r with stack:=st,locals:=loc,result:=res }:=by
 obtain⟨a,b,c,d,e,f,g⟩:=h
 exact⟨a,by simp only;omega,c,d,e,f,g⟩
theorem B1.aft{N x r}(h:B1 N x r){st:List Int}{loc:List Int}{res:Int}(hs:st.length≤r.stack.length+1):Aft N x r x { r with stack:=st,locals:=loc,result:=res }:=by
 obtain⟨⟨a,b,c,d,e,f,g⟩,k,m⟩:=h
 exact⟨⟨a,by simp only;omega,c,d,e,f,g⟩,ydi _,rfl,rfl⟩
theorem Bd.aft{N x r}(h:Bd N x r){st:List Int}{loc:List Int}{res:Int}(hs:st.length≤r.stack.length):Aft N x r x { r with stack:=st,locals:=loc,result:=res }:=by
 obtain⟨a,b,c,d,e,f,g⟩:=h
 exact⟨⟨a,by simp only;omega,c,d,e,f,g⟩,ydi _,rfl,rfl⟩
def zpK(fs:List F):Prop:=∀f∈fs,OkF f
theorem zrz{N:Nat}{D:Int}{rec:zey}{fs:List F}(hr:RBd N D rec)(hf:zpK fs)(hD:0≤D){x:zao}{r:Fr}(hb:Bd N x r){g:F}(hg:g∈fs){args:List Int}{v:Int}{x':zao}{r':Fr}(h:zbQ rec x g args r=.ok v x' r'):
  r'=r∧Aft N x r x' r:=by
 unfold zbQ at h
 split at h
 ·cases h
 rename_i hc
 obtain⟨a,b,c,d,e,f,k⟩:=hb
 have hb':Bd N { x with calls:=x.calls+1 } ⟨g,args++yaj g.locals.length 0,[],0⟩:=⟨a,by simp only[ybl];omega,c,hf g hg,by simp only;omega,f,k⟩
 have fin:∀{x1:zao} {f1:Fr},Aft N { x with calls:=x.calls+1 } ⟨g,args++yaj g.locals.length 0,[],0⟩ x1 f1→Aft N x r { x1 with calls:=x1.calls-1 } r:=fun {x1 f1} ha=>by
  obtain⟨⟨a',b',c',d',e',f',k'⟩,s1,s2,s3⟩:=ha
  simp only at s1 s2
  exact⟨⟨a,by simp only;omega,c',d,by simp only;omega,f',k'⟩,s1,by simp only;omega,rfl⟩
 split at h
 ·cases h
 ·cases h
 ·rename_i o x1 f1 hq
  have ha:=(hr _ _ _ _ _ _ _ hb' hD hq).1
  split at h
  ·obtain⟨v1,_,h⟩:=zaZ h (by simp)
   cases h
   exact⟨rfl,fin ha⟩
  ·cases h
   exact⟨rfl,fin ha⟩
theorem zdb{mem:List UInt8}{at_ n:Nat}{v:Int}(h:at_+n≤mem.length):(zcR mem at_ v n).length=mem.length:=by
 simp[zcR];omega
theorem zP{l:List Int}{v:Int}(hv:l.getLast?=some v):l.dropLast.length+1=l.length:=by
 have:l≠[]:=by rintro rfl;simp at hv
 have:=ybm.2 this
 simp;omega
theorem zpx{N:Nat}{D:Int}{rec:zey}{fs:List F}(hr:RBd N D rec)(hf:zpK fs)(hD:0≤D){n:Int}{x:zao}{r:Fr}(hb:B1 N x r){u:Unit}{x':zao}{r':Fr}(h:zaa fs rec x r n=.ok u x' r'):Aft N x r x' r':=by
 unfold zaa at h
 split at h
 ·split at h
  ·cases h;exact hb.aft (by simp[Fr.push])
  ·rename_i v l hi
   cases h
   obtain⟨a,b,c,d⟩:=hb.aft (st:=r.stack++[v]) (loc:=r.locals) (res:=r.result) (by simp)
   obtain⟨a1,a2,a3,a4,a5,a6,a7⟩:=a
   rw[hi,yac]at a7
   exact⟨⟨a1,a2,a3,a4,a5,a6,by simp only;omega⟩,b,c,d⟩
 split at h
 ·obtain⟨v,hv,h⟩:=zaZ h (by simp)
  have h1:=zP hv
  cases h
  obtain⟨⟨a,b,c,d,e,f,g⟩,k,m⟩:=hb
  refine⟨⟨a,?_,?_,d,e,f,g⟩,ydi _,rfl,rfl⟩
  ·simp only;omega
  ·simp only[yab,ydp];omega
 split at h
 ·obtain⟨v,hv,h⟩:=zaZ h (by simp)
  cases h
 split at h
 ·cases h
 split at h
 ·cases h
 rename_i g hg
 split at h
 ·cases h
 have hgm:g∈fs:=ycs hg
 split at h
 ·cases h
 ·cases h
 ·rename_i v x1 r1 hq
  have hb2:B1 N x { r with stack:=r.stack.take (r.stack.length-g.params.length) }:=hb.stack (by simp)
  obtain⟨rfl,ha⟩:=zrz hr hf hD hb2.bd hgm hq
  cases h
  obtain⟨⟨a,b,c,d,e,f,k⟩,s1,s2,s3⟩:=ha
  have h3:=hb.st
  refine⟨⟨a,?_,c,?_,e,f,k⟩,s1,s2,?_⟩
  ·split<;>simp only[Fr.push,yab,ydp,ybf]at b ⊢<;>omega
  ·split<;>exact d
  ·split<;>rfl
set_option maxHeartbeats 2000000 in
theorem zu0{N:Nat}{D:Int}{rec:zey}{fs:List F}(hr:RBd N D rec)(hf:zpK fs)(hD:0≤D){w:W}{x:zao}{r:Fr}(hb:B1 N x r){u:Unit}{x':zao}{r':Fr}(h:zab fs rec w x r=.ok u x' r'):Aft N x r x' r':=by
 unfold zab at h
 split at h
 ·cases h;exact hb.aft (by simp)
 split at h
 ·split at h
  ·cases h
  ·split at h
   ·cases h
   ·cases h;exact hb.aft (by simp)
 split at h
 ·split at h
  ·cases h
  ·obtain⟨v,hv,h⟩:=zaZ h (by simp)
   cases h;exact hb.aft (by simp;omega)
 split at h
 ·obtain⟨v,hv,h⟩:=zaZ h (by simp)
  obtain⟨v2,hv2,h⟩:=zaZ h (by simp)
  have h1:=zP hv
  have h2:=zP hv2
  simp only at h2
  split at h
  ·cases h
  ·cases h;exact hb.aft (by simp only[Fr.push,yab,ydp];omega)
 split at h
 ·obtain⟨v,hv,h⟩:=zaZ h (by simp)
  have h1:=zP hv
  cases h;exact hb.aft (by simp only[Fr.push,yab,ydp];omega)
 split at h
 ·obtain⟨v,hv,h⟩:=zaZ h (by simp)
  have h1:=zP hv
  cases h;exact hb.aft (by simp only[Fr.push,yab,ydp];omega)
 split at h
 ·obtain⟨v,hv,h⟩:=zaZ h (by simp)
  have h1:=zP hv
  unfold zh5 at h
  split at h
  ·cases h
  split at h
  ·cases h
  ·cases h;exact hb.aft (by simp only[Fr.push,yab,ydp];omega)
 split at h
 ·obtain⟨v,hv,h⟩:=zaZ h (by simp)
  obtain⟨v2,hv2,h⟩:=zaZ h (by simp)
  have h1:=zP hv
  have h2:=zP hv2
  simp only at h2
  unfold zh5 at h
  split at h
  ·cases h
  split at h
  ·cases h
  ·rename_i n1 n2
   cases h
   obtain⟨a,b,c,d⟩:=hb.aft (st:=r.stack.dropLast.dropLast) (loc:=r.locals) (res:=r.result) (by omega)
   obtain⟨a1,a2,a3,a4,a5,a6,a7⟩:=a
   refine⟨⟨a1,a2,a3,a4,a5,?_,a7⟩,b,c,d⟩
   simp only
   rw[zdb]
   ·exact a6
   ·simp;omega
 split at h
 ·exact zpx hr hf hD hb h
 split at h
 ·cases h
 split at h
 ·obtain⟨v,hv,h⟩:=zaZ h (by simp)
  cases h;exact hb.aft (by simp;omega)
 ·cases h;exact hb.aft (by simp)
theorem Bd.refl{N x r}(h:Bd N x r):Aft N x r x r:=⟨h,ydi _,rfl,rfl⟩
theorem zE5{N:Nat}{w:W}(hw:w.n≤2^63-1){deep:Int}(hd:deep≤2^62){x:zao}{r:Fr}(hb:Bd N x r){o:Int}{x':zao}{r':Fr}(h:zgE w deep x r=.ok o x' r'):Aft N x r x' r'∧o≤2^63-1:=by
 have go:∀{n:Int} {r1:Fr},n≤2^63-1→Aft N x r x r1→(if n=deep∧r1.fn.type≠0 then zbK r1 fun v r=>Ev.ok n x { r with result:=v }else .ok n x r1)=.ok o x' r'→Aft N x r x' r'∧o≤2^63-1:=fun {n r1} hn ha h=>by
  split at h
  ·obtain⟨v,hv,h⟩:=zaZ h (by simp)
   have:=zP hv
   cases h
   exact⟨ha.trans (ha.bd.aft (st:=r1.stack.dropLast) (loc:=r1.locals) (res:=v) (by omega)),hn⟩
  ·cases h;exact⟨ha,hn⟩
 unfold zgE at h
 dsimp only at h
 split at h
 ·exact go (by omega) hb.refl h
 split at h
 ·obtain⟨v,hv,h⟩:=zaZ h (by simp)
  have h1:=zP hv
  have ha:Aft N x r x { r with stack:=r.stack.dropLast }:=hb.aft (by omega)
  split at h
  ·cases h;exact⟨ha,by omega⟩
  ·exact go hw ha h
 ·exact go hw hb.refl h
theorem zoz{N:Nat}{D:Int}{rec:zey}(hr:RBd N D rec){isLoop:Bool}{at_ deep:Int}(hd:deep≤D):∀(j:Nat) {x:zao} {r:Fr},Bd N x r→∀{o:Int} {x':zao} {r':Fr},zcl rec isLoop at_ deep j x r=.ok o x' r'→Aft N x r x' r'∧o≤2^63-1
 | 0,x,r,hb,o,x',r',h=>by cases h
 | j+1,x,r,hb,o,x',r',h=>by
  rw[zcl]at h
  split at h
  ·cases h
  ·cases h
  ·rename_i o1 x1 r1 hq
   obtain⟨ha,ho⟩:=hr _ _ _ _ _ _ _ hb hd hq
   split at h
   ·obtain⟨h1,h2⟩:=zoz hr hd j ha.bd h
    exact⟨ha.trans h1,h2⟩
   ·cases h
    exact⟨ha,by split<;>omega⟩
theorem zrA{N:Nat}{D:Int}{rec:zey}(hr:RBd N D rec){k:Nat}{w:W}{deep:Int}(hd:deep≤D){x:zao}{r:Fr}(hb:Bd N x r){o:Int}{x':zao}{r':Fr}(h:zaz rec k w deep x r=.ok o x' r'):Aft N x r x' r'∧o≤2^63-1:=by
 have go:∀{at_:Int} {r1:Fr},Aft N x r x r1→(if at_<0 then Ev.ok (-1) x r1 else zcl rec (decide (w.op=12)) at_ deep k x r1)=.ok o x' r'→Aft N x r x' r'∧o≤2^63-1:=fun {at_ r1} ha h=>by
  split at h
  ·cases h;exact⟨ha,by omega⟩
  ·obtain⟨h1,h2⟩:=zoz hr hd k ha.bd h
   exact⟨ha.trans h1,h2⟩
 unfold zaz at h
 simp only at h
 split at h
 ·obtain⟨v,hv,h⟩:=zaZ h (by simp)
  have h1:=zP hv
  exact go (hb.aft (by omega)) h
 ·exact go hb.refl h
theorem zrB{N:Nat}{D:Int}{rec:zey}{fs:List F}(hr:RBd N D rec)(hf:zpK fs)(hD:0≤D)(hD2:D≤2^62){k:Nat}{w:W}(hw:w.n≤2^63-1){deep:Int}(hd:deep+1≤D){x:zao}{r:Fr}(hb:B1 N x r){o:Int}{x':zao}{r':Fr}(h:zbR fs rec k deep w x r=.ok o x' r'):
  Aft N x r x' r'∧o≤2^63-1:=by
 unfold zbR at h
 split at h
 ·exact zrA hr hd hb.bd h
 split at h
 ·exact zE5 hw (by omega) hb.bd h
 split at h
 ·cases h
 ·cases h
 ·rename_i u x1 r1 hq
  cases h
  exact⟨zu0 hr hf hD hb hq,by omega⟩
theorem zmb{N:Nat}{D:Int}{rec:zey}{fs:List F}(hr:RBd N D rec)(hf:zpK fs)(hD:0≤D)(hD2:D≤2^62){k:Nat}{deep:Int}(hd:deep+1≤D){height:Nat}:∀(ws:List W),(∀w∈ws,w.n≤2^63-1)→∀{x:zao} {r:Fr},Bd N x r→∀{o:Int} {x':zao} {r':Fr},zam fs rec k deep height ws x r=.ok o x' r' →
  Aft N x r x' r'∧o≤2^63-1
 | [],_,x,r,hb,o,x',r',h=>by cases h;exact⟨hb.refl,by omega⟩
 | w::ws,hw,x,r,hb,o,x',r',h=>by
  rw[zam]at h
  split at h
  ·cases h
  rename_i hs
  split at h
  ·cases h
  ·cases h
  ·rename_i o1 x1 r1 hq
   obtain⟨ha,ho⟩:=zrB hr hf hD hD2 (hw w (by simp)) hd (hb.one (by omega)) hq
   have ha':Aft N x r x1 r1:=⟨ha.bd,by have:=ha.steps;simp only at this;omega,ha.calls,ha.fn⟩
   split at h
   ·obtain⟨h1,h2⟩:=zmb hr hf hD hD2 hd ws (fun w h=>hw w (by simp[h])) ha.bd h
    exact⟨ha'.trans h1,h2⟩
   ·split at h
    ·cases h
    ·cases h
     exact⟨ha'.trans (ha.bd.aft (by rw[ybf];omega)),ho⟩
theorem zns{N:Nat}{fs:List F}(hf:zpK fs):∀(k:Nat) (D:Int),0≤D→D+k≤2^62→RBd N D (zkE fs k)
 | 0,D,_,_=>fun x r at_ deep o x' r' _ _ h=>by cases h
 | k+1,D,h0,h1=>fun x r at_ deep o x' r' hb hd h=>by
  rw[zkE]at h
  split at h
  ·cases h
  split at h
  ·cases h
  ·rename_i ws hws
   exact zmb (zns hf k (D+1) (by omega) (by push_cast at h1;omega)) hf (by omega) (by push_cast at h1;omega) (by omega) ws (fun w hw=>hb.fn.nums _ (ycs hws) w hw) hb h
def XO(fs:List F)(mm mn:Int)(σ0:AS)(xo mo:Nat)(D T:List Nat)(x:zao)(σ:AS):Prop:=∃ov,XM fs mm mn σ0 xo mo D T x ov σ
section
variable {G : Env} {fs : List F} {mm mn : Int} {σ0 σ : AS} {xo mo fo : Nat} {L T : List Nat} {x : zao} {r : Fr} {R : Out → AS → Prop}
theorem XF.adds{σ':AS}(h:XF fs mm mn σ0 xo mo fo L T x r σ)(A:zh σ σ'):XF fs mm mn σ0 xo mo fo L T x r σ':=by
 obtain⟨ov,sv,hm,hr,hd⟩:=h
 have hno:=hm.no
 have hxl:=hm.xl
 have hml:=hm.ml
 refine⟨ov,sv,⟨yai hm.no A.no,yai hm.nf A.nf,fun o h1 h2 h3 h4=>?_,fun g h1 h2=>?_,hm.xl,hm.ml,hm.xm,fun o h1=>?_,?_,?_,hm.ownT,?_⟩,⟨?_,hr.fl,?_,hr.ownT⟩,hd⟩
 ·rw[A.obj o (by omega)];exact hm.obj o h1 h2 h3 h4
 ·have:=hm.nf;rw[A.fam g (by omega)];exact hm.fam g h1 h2
 ·have:=hm.dl o h1;have:=A.no;exact⟨by omega,(hm.dl o h1).2⟩
 ·obtain⟨fv,iv,a,b,c⟩:=hm.mach
  exact⟨fv,iv,by rw[A.obj xo (by omega)];exact a,b,c⟩
 ·exact hm.own.keep A.nf fun g hg=>A.fam g (hm.own.lt g hg)
 ·rw[A.obj mo (by omega)];exact hm.mem
 ·obtain⟨pv,lv,tv,cv,a,b,c,d,e⟩:=hr.fr
  exact⟨pv,lv,tv,cv,by rw[A.obj fo (hm.dl fo (by simp)).1];exact a,b,c,d,e.keep fun o ho=>A.obj o (hm.dl o (by simp[ho])).1⟩
 ·exact hr.own.keep A.nf fun g hg=>A.fam g (hr.own.lt g hg)
theorem XF.other(h:XF fs mm mn σ0 xo mo fo L T x r σ){o:Nat}(h1:o<σ0.no)(h2:o≠xo)(h3:o≠mo)(h4:o≠fo)(h5:o∉L):σ.objs o=σ0.objs o:=by
 obtain⟨ov,sv,hm,_,_⟩:=h
 exact hm.obj o h1 h2 h3 (by simp[h4,h5])
theorem XF.lts(h:XF fs mm mn σ0 xo mo fo L T x r σ):xo<σ.no∧mo<σ.no∧fo<σ.no∧∀o∈L,o<σ.no:=by
 obtain⟨ov,sv,hm,_,_⟩:=h
 have:=hm.no;have:=hm.xl;have:=hm.ml
 exact⟨by omega,by omega,(hm.dl fo (by simp)).1,fun o ho=>(hm.dl o (by simp[ho])).1⟩
theorem XF.anchor(h:XF fs mm mn σ0 xo mo fo L T x r σ):∃T',XF fs mm mn σ xo mo fo L T' x r σ∧(∀x' r' σ',XF fs mm mn σ xo mo fo L T' x' r' σ'→XF fs mm mn σ0 xo mo fo L T x' r' σ') ∧
  ∀x' σ',XO fs mm mn σ xo mo (fo::L) T' x' σ'→XO fs mm mn σ0 xo mo (fo::L) T x' σ':=by
 have hl:=h.lts
 obtain⟨ov,sv,hm,hr,hd⟩:=h
 have tT:∀g,g∈zV ov++zV sv→g∈T∨σ0.nf≤g:=fun g hg=>by
  rcases ybh.1 hg with hg|hg
  ·exact hm.ownT g hg
  ·exact hr.ownT g hg
 have mt:∀x' ov' σ',XM fs mm mn σ xo mo (fo::L) (zV ov++zV sv) x' ov' σ'→XM fs mm mn σ0 xo mo (fo::L) T x' ov' σ':=fun x' ov' σ' k=>by
  have h1:=hm.no;have h2:=hm.nf;have h3:=k.no;have h4:=k.nf
  refine⟨by omega,by omega,fun o a b c d=>?_,fun g a b=>?_,hm.xl,hm.ml,hm.xm,k.dl,k.mach,k.own,fun g hg=>?_,k.mem⟩
  ·rw[k.obj o (by omega) b c d];exact hm.obj o a b c d
  ·rw[k.fam g (by omega) (fun hg=>by rcases tT g hg with h|h;exact b h;omega)];exact hm.fam g a b
  ·rcases k.ownT g hg with h|h
   ·exact tT g h
   ·right;omega
 refine⟨zV ov++zV sv,⟨ov,sv,⟨yah _,yah _,fun _ _ _ _ _=>rfl,fun _ _ _=>rfl,hl.1,hl.2.1,hm.xm,hm.dl,hm.mach,hm.own,fun g hg=>.inl (by simp[hg]),hm.mem⟩,⟨hr.fr,hr.fl,hr.own,fun g hg=>.inl (by simp[hg])⟩,hd⟩,?_,?_⟩
 ·rintro x' r' σ' ⟨ov',sv',km,kr,kd⟩
  refine⟨ov',sv',mt _ _ _ km,⟨kr.fr,kr.fl,kr.own,fun g hg=>?_⟩,kd⟩
  rcases kr.ownT g hg with h|h
  ·exact tT g h
  ·right;have:=hm.nf;omega
 ·rintro x' σ' ⟨ov',km⟩
  exact⟨ov',mt _ _ _ km⟩
theorem XF.stop(h:XF fs mm mn σ0 xo mo fo L T x r σ):XO fs mm mn σ0 xo mo (fo::L) T x σ:=by
 obtain⟨ov,sv,hm,_,_⟩:=h;exact⟨ov,hm⟩
def zh9(G:Env)(fs:List F)(mm mn:Int)(N:Nat)(D:Int)(rec:zey):Prop:=∀{σ0 σ:AS} {xo mo fo:Nat} {L T:List Nat} {x:zao} {r:Fr} {at_ deep:Int} {R:Out→AS→Prop},
 XF fs mm mn σ0 xo mo fo L T x r σ→Bd N x r→0≤deep→deep≤D→rec x r at_ deep≠.bad →
 (∀o x' r' σ',rec x r at_ deep=.ok o x' r'→XF fs mm mn σ0 xo mo fo L T x' r' σ'→R (.ret (.int .i64 o)) σ') →
 (∀s c x' σ',rec x r at_ deep=.over s c x'→XO fs mm mn σ0 xo mo (fo::L) T x' σ'→R (.panic (zh8 s c)) σ') →
 zzQ G 146 [.ptr xo 0,.ptr fo 0,.int .i64 at_,.int .i64 deep] σ R
theorem XF.cells(h:XF fs mm mn σ0 xo mo fo L T x r σ):∃pv lv tv cv sv,σ.objs fo=some [.str r.fn.name,pv,lv,.int .i64 r.fn.type,tv,cv,sv,.int .i64 r.result]∧(pv.known=true∧pv.one=true∧pv.cells=[pv])∧(lv.known=true∧lv.one=true∧lv.cells=[lv]) ∧
  (tv.known=true∧tv.one=true∧tv.cells=[tv])∧(cv.known=true∧cv.one=true∧cv.cells=[cv])∧(sv.known=true∧sv.one=true∧sv.cells=[sv])∧zkF σ sv r.stack∧zcs tv r.fn.lists∧zym σ L cv r.locals ∧
  ∀v,XF fs mm mn σ0 xo mo fo L T x { r with result:=v } (σ.setO fo [.str r.fn.name,pv,lv,.int .i64 r.fn.type,tv,cv,sv,.int .i64 v]):=by
 have hx:=h
 obtain⟨ov,sv,hm,hr,hd⟩:=h
 obtain⟨pv,lv,tv,cv,ho,hpv,hlv,htv,hcv⟩:=hr.fr
 exact⟨pv,lv,tv,cv,sv,ho,hpv.one,hlv.one,htv.one,hcv.one,hr.own.one,hr.own,htv,hcv,fun v=>hx.setFr (σ1:=σ) (st':=r.stack) ho rfl rfl (yah _) (fun _ _ _=>rfl) hr.own fun g hg=>.inl hg⟩
theorem zaH{l:List Int}(h:l≠[]):∃v,l.getLast?=some v:=⟨_,ydh h⟩
set_option maxHeartbeats 1000000 in
theorem zia{N:Nat}{w:W}{deep:Int}(h:XF fs mm mn σ0 xo mo fo L T x r σ)(hb:Bd N x r)(hw:zgE w deep x r≠.bad)(hR:∀o x' r' σ',zgE w deep x r=.ok o x' r'→XF fs mm mn σ0 xo mo fo L T x' r' σ'→R (.ret (.int .i64 o)) σ'):
  zzQ G 182 [.ptr fo 0,w.av,.int .i64 deep] σ R:=by
 refine ztz rfl ?_
 obtain⟨wop,wty,wn,wbody,wother,wname⟩:=w
 have hn:=hb.n
 have hst:r.stack.length≤2^40:=by have:=hb.stack;omega
 have hlts:=h.lts
 have h1:XF fs mm mn σ0 xo mo fo L T x r (σ.newO [.int .i64 wop,.int .i64 wty,.int .i64 wn,.int .i64 wbody,.int .i64 wother,.str wname]):=h.adds (zh.refl σ).newO
 obtain⟨T',k1,k2,_⟩:=h1.anchor
 have hfo:fo≠σ.no:=by omega
 have hbo:∀{r1:Fr} {σ':AS},XF fs mm mn (σ.newO [.int .i64 wop,.int .i64 wty,.int .i64 wn,.int .i64 wbody,.int .i64 wother,.str wname]) xo mo fo L T' x r1 σ'→σ'.objs σ.no=some [.int .i64 wop,.int .i64 wty,.int .i64 wn,.int .i64 wbody,.int .i64 wother,.str wname]:=fun {r1 σ'} hx=>by
  rw[hx.other (o:=σ.no) (by simp) (by omega) (by omega) (by omega) (fun hh=>by have:=hlts.2.2.2 _ hh;omega)];simp
 obtain⟨pv,lv,tv,cv,sv,ho,e1,e2,e3,e4,e5,_,_,_,_⟩:=h.cells
 -- the branch tO the body,that takes the result
 have last:∀{r1:Fr} {σ1:AS} {n:Int},XF fs mm mn (σ.newO [.int .i64 wop,.int .i64 wty,.int .i64 wn,.int .i64 wbody,.int .i64 wother,.str wname]) xo mo fo L T' x r1 σ1→r1.stack.length≤2^40→zbK r1 (fun v r=>Ev.ok n x { r with result:=v })≠.bad →
   ∀{K:Out→AS→Prop},(∀v σ' pv lv tv cv sv,r1.stack.getLast?=some v→σ'.objs fo=some [.str r1.fn.name,pv,lv,.int .i64 r1.fn.type,tv,cv,sv,.int .i64 r1.result]→(pv.known=true∧pv.one=true∧pv.cells=[pv])→(lv.known=true∧lv.one=true∧lv.cells=[lv])→(tv.known=true∧tv.one=true∧tv.cells=[tv])→(cv.known=true∧cv.one=true∧cv.cells=[cv])→(sv.known=true∧sv.one=true∧sv.cells=[sv]) →
    XF fs mm mn σ0 xo mo fo L T x { r1 with stack:=r1.stack.dropLast,result:=v } (σ'.setO fo [.str r1.fn.name,pv,lv,.int .i64 r1.fn.type,tv,cv,sv,.int .i64 v])→K (.ret (.int .i64 v)) σ')→zzQ G 147 [.ptr fo 0] σ1 K:=by
  intro r1 σ1 n hx hl hp K hK
  have hne:r1.stack≠[]:=by rintro e;simp[zbK,e]at hp
  obtain⟨v,hv⟩:=zaH hne
  refine zad hx hl hv fun σ' hx'=>?_
  obtain⟨pv,lv,tv,cv,sv,ho,e1,e2,e3,e4,e5,_,_,_,hset⟩:=hx'.cells
  exact hK v σ' pv lv tv cv sv hv ho e1 e2 e3 e4 e5 (k2 _ _ _ (hset v))
 by_cases h16:wop=16
 ·subst h16
  simp only[zgE,if_true]at hw hR
  by_cases ht:r.fn.type=0
  ·simp[ht]at hR
   simp[zmR,W.av,W.cs,splice,hfo,ho,ht,e1,e2,e3,e4,e5]
   exact hR _ _ _ _ rfl rfl rfl h1
  ·simp[ht]at hR hw
   simp[zmR,W.av,W.cs,splice,hfo,ho,ht,e1,e2,e3,e4,e5]
   refine last k1 hst hw fun v σ' pv lv tv cv sv hv ho e1 e2 e3 e4 e5 hx=>?_
   simp[ho,e1,e2,e3,e4,e5,splice]
   exact hR _ _ _ _ (by simp[zbK,hv]) hx
 by_cases h15:wop=15
 ·subst h15
  have hne:r.stack≠[]:=by rintro e;simp[zgE,zbK,e]at hw
  obtain⟨v,hv⟩:=zaH hne
  have hd:=zP hv
  simp[zmR,W.av,W.cs,splice,hfo,ho,e1,e2,e3,e4,e5]
  refine zad k1 hst hv fun σ' hx'=>?_
  obtain⟨pv,lv,tv,cv,sv,ho',e1,e2,e3,e4,e5,_,_,_,_⟩:=hx'.cells
  have hbo':=hbo hx'
  by_cases hv0:v=0
  ·simp[zgE,zbK,hv,hv0]at hR
   simp[hv0,splice]
   exact hR _ _ _ _ rfl rfl rfl (k2 _ _ _ hx')
  ·by_cases hnd:wn=deep
   ·by_cases ht:r.fn.type=0
    ·simp[zgE,zbK,hv,hv0,hnd,ht]at hR
     simp[hv0,splice,hnd,ho',ht,e1,e2,e3,e4,e5,hbo',W.cs]
     exact hR _ _ _ _ rfl rfl rfl (k2 _ _ _ hx')
    ·have hw':zbK { r with stack:=r.stack.dropLast } (fun v r=>Ev.ok deep x { r with result:=v })≠.bad:=by
      intro hh;apply hw;rw[←hh];simp only[zgE];simp[zbK,hv,hv0,hnd,ht]
     simp[hv0,splice,hnd,ho',ht,e1,e2,e3,e4,e5,hbo',W.cs]
     refine last hx' (by simp;omega) hw' fun v2 σ' pv lv tv cv sv hv2 ho e1 e2 e3 e4 e5 hx=>?_
     simp[ho,e1,e2,e3,e4,e5,splice]
     refine hR _ _ _ _ ?_ hx
     simp only[zgE]
     simp[zbK,hv,hv0,hnd,ht,hv2]
   ·simp[zgE,zbK,hv,hv0,hnd]at hR
    simp[hv0,splice,hnd,ho',e1,e2,e3,e4,e5,hbo',W.cs]
    exact hR _ _ _ _ rfl rfl rfl (k2 _ _ _ hx')
 by_cases hnd:wn=deep
 ·by_cases ht:r.fn.type=0
  ·simp[zgE,h16,h15,hnd,ht]at hR
   simp[zmR,W.av,W.cs,splice,h16,h15,hnd,hfo,ho,ht,e1,e2,e3,e4,e5]
   exact hR _ _ _ _ rfl rfl rfl (by simpa [hnd]using h1)
  ·simp[zgE,h16,h15,hnd,ht]at hR hw
   subst hnd
   simp[zmR,W.av,W.cs,splice,h16,h15,hfo,ho,ht,e1,e2,e3,e4,e5]
   refine last k1 hst hw fun v σ' pv lv tv cv sv hv ho e1 e2 e3 e4 e5 hx=>?_
   simp[ho,e1,e2,e3,e4,e5,splice]
   exact hR _ _ _ _ (by simp[zbK,hv]) hx
 ·simp[zgE,h16,h15,hnd]at hR
  simp[zmR,W.av,W.cs,splice,h16,h15,hnd,hfo,ho,e1,e2,e3,e4,e5]
  exact hR _ _ _ _ rfl rfl rfl h1
end
section
variable {G : Env} {fs : List F} {mm mn : Int} {σ0 σ : AS} {xo mo fo : Nat} {L T : List Nat} {x : zao} {r : Fr} {R : Out → AS → Prop}
theorem zfA{N:Nat}{D:Int}{rec:zey}(hrec:zh9 G fs mm mn N D rec)(hbd:RBd N D rec){wop wty wn wbody wother at_ deep:Int}{wname:List UInt8}{bo:Nat}(h0:0≤deep)(hd:deep≤D)(hat:0≤at_)
  (hbo:∀{x1:zao} {r1:Fr} {σ':AS},XF fs mm mn σ0 xo mo fo L T x1 r1 σ'→σ'.objs bo=some [.int .i64 wop,.int .i64 wty,.int .i64 wn,.int .i64 wbody,.int .i64 wother,.str wname]) :
  ∀(j:Nat) {x1:zao} {r1:Fr} {τ:AS} {a:Nat→AV},XF fs mm mn σ0 xo mo fo L T x1 r1 τ→Bd N x1 r1→zcl rec (decide (wop=12)) at_ deep j x1 r1≠.bad→a 0=.ptr xo 0→a 1=.ptr fo 0→a 3=.int .i64 deep→a 6=.ptr bo 0→a 9=.int .i64 at_ →
   (∀o x' r' σ',zcl rec (decide (wop=12)) at_ deep j x1 r1=.ok o x' r'→XF fs mm mn σ0 xo mo fo L T x' r' σ'→R (.ret (.int .i64 o)) σ') →
   (∀s c x' σ',zcl rec (decide (wop=12)) at_ deep j x1 r1=.over s c x'→XO fs mm mn σ0 xo mo (fo::L) T x' σ'→R (.panic (zh8 s c)) σ') →
   zcz yb9 G 41 zfd (za2 0 (zbd (avc yb9 G 41 zd8 (ze9 yb9 [ResultVar.tmp 8] R)) (ze9 yb9 [ResultVar.tmp 8] R))) j a τ
 | 0,x1,r1,τ,a,hx,hb,hw,_,_,_,_,_,_,_=>by simp[zcl]at hw
 | j+1,x1,r1,τ,a,hx,hb,hw,a0,a1,a3,a6,a9,hR,hO=>by
  have hat':¬at_<0:=by omega
  simp only[zcl]at hw hR hO
  simp[zfd,a0,a1,a3,a6,a9,hat,hat']
  refine hrec hx hb h0 hd (fun e=>by rw[e]at hw;exact hw rfl) (fun o x' r' σ' e hx'=>?_) (fun s c x' σ' e ho=>?_)
  ·rw[e]at hw hR hO
   obtain⟨hA,ho2⟩:=hbd _ _ _ _ _ _ _ hb hd e
   have hbo':=hbo hx'
   simp only at hw hR hO
   by_cases ho:o=0
   ·by_cases h12:wop=12
    ·simp only[ho,h12,decide_true,and_self,if_true]at hw hR hO
     simp[ho,h12,hbo',splice,a0,a1,a3,a6,a9]
     exact zfA hrec hbd h0 hd hat hbo j hx' hA.bd (by simpa [h12]using hw) (by simp[a0]) (by simp[a1]) (by simp[a3]) (by simp[a6]) (by simp[a9]) (by simpa [h12]using hR) (by simpa [h12]using hO)
    ·simp[ho,h12]at hR
     simp[ho,h12,hbo',zd8,a0,a1,a3,a6,a9]
     exact hR _ _ _ _ rfl rfl rfl hx'
   ·by_cases hp:0<o
    ·have w1:yb4 .i64 (o-1)=o-1:=by rw[zc]<;>omega
     simp[ho,hp]at hR
     simp[ho,hp,hbo',w1,splice,a0,a1,a3,a6,a9]
     exact hR _ _ _ _ rfl rfl rfl hx'
    ·simp[ho,hp]at hR
     simp[ho,hp,hbo',zd8,a0,a1,a3,a6,a9]
     exact hR _ _ _ _ rfl rfl rfl hx'
  ·rw[e]at hO
   simp
   exact hO _ _ _ _ rfl ho
theorem zdX{N:Nat}{D:Int}{rec:zey}(hrec:zh9 G fs mm mn N D rec)(hbd:RBd N D rec){k:Nat}{w:W}{deep:Int}(h:XF fs mm mn σ0 xo mo fo L T x r σ)(hb:Bd N x r)(h0:0≤deep)(hd:deep≤D)(hw:zaz rec k w deep x r≠.bad)
  (hR:∀o x' r' σ',zaz rec k w deep x r=.ok o x' r'→XF fs mm mn σ0 xo mo fo L T x' r' σ'→R (.ret (.int .i64 o)) σ')
  (hO:∀s c x' σ',zaz rec k w deep x r=.over s c x'→XO fs mm mn σ0 xo mo (fo::L) T x' σ'→R (.panic (zh8 s c)) σ') :
  zzQ G 181 [.ptr xo 0,.ptr fo 0,w.av,.int .i64 deep] σ R:=by
 refine zty rfl ?_
 obtain⟨wop,wty,wn,wbody,wother,wname⟩:=w
 have hn:=hb.n
 have hst:r.stack.length≤2^40:=by have:=hb.stack;omega
 have hlts:=h.lts
 have h1:XF fs mm mn σ0 xo mo fo L T x r (σ.newO [.int .i64 wop,.int .i64 wty,.int .i64 wn,.int .i64 wbody,.int .i64 wother,.str wname]):=h.adds (zh.refl σ).newO
 obtain⟨T',k1,k2,k3⟩:=h1.anchor
 have hbo:∀{x1:zao} {r1:Fr} {σ':AS},XF fs mm mn (σ.newO [.int .i64 wop,.int .i64 wty,.int .i64 wn,.int .i64 wbody,.int .i64 wother,.str wname]) xo mo fo L T' x1 r1 σ'→σ'.objs σ.no=some [.int .i64 wop,.int .i64 wty,.int .i64 wn,.int .i64 wbody,.int .i64 wother,.str wname]:=fun {x1 r1 σ'} hx=>by
  rw[hx.other (o:=σ.no) (by simp) (by omega) (by omega) (by omega) (fun hh=>by have:=hlts.2.2.2 _ hh;omega)];simp
 have go:∀{at_:Int} {r1:Fr} {σ1:AS} {a:Nat→AV},XF fs mm mn (σ.newO [.int .i64 wop,.int .i64 wty,.int .i64 wn,.int .i64 wbody,.int .i64 wother,.str wname]) xo mo fo L T' x r1 σ1→Bd N x r1→(if at_<0 then Ev.ok (-1) x r1 else zcl rec (decide (wop=12)) at_ deep k x r1)=zaz rec k ⟨wop,wty,wn,wbody,wother,wname⟩ deep x r →
   a 0=.ptr xo 0→a 1=.ptr fo 0→a 3=.int .i64 deep→a 6=.ptr σ.no 0→a 9=.int .i64 at_→zjI yb9 G 41 zfd (za2 0 (zbd (avc yb9 G 41 zd8 (ze9 yb9 [ResultVar.tmp 8] R)) (ze9 yb9 [ResultVar.tmp 8] R))) a σ1:=by
  intro at_ r1 σ1 a hx hb1 e a0 a1 a3 a6 a9
  by_cases hat:at_<0
  ·refine za5 1 ?_
   have hat':¬0≤at_:=by omega
   rw[if_pos hat]at e
   simp[zfd,zd8,a0,a1,a3,a6,a9,hat,hat']
   exact hR _ _ _ _ e.symm (k2 _ _ _ hx)
  ·rw[if_neg hat]at e
   refine za5 k ?_
   exact zfA (R:=R) hrec hbd h0 hd (by omega) hbo k hx hb1 (by rw[e];exact hw) a0 a1 a3 a6 a9 (fun o x' r' σ' e2 hx'=>hR _ _ _ _ (e▸e2) (k2 _ _ _ hx')) (fun s c x' σ' e2 ho=>hO _ _ _ _ (e▸e2) (k3 _ _ ho))
 by_cases h13:wop=13
 ·subst h13
  have hne:r.stack≠[]:=by rintro e;simp[zaz,zbK,e]at hw
  obtain⟨v,hv⟩:=zaH hne
  have hdl:=zP hv
  simp[zxv,W.av,W.cs]
  refine zad k1 hst hv fun σ' hx'=>?_
  have hbo':=hbo hx'
  by_cases hv0:v=0
  ·simp[hv0,hbo',splice]
   refine go (at_:=wother) hx' (hb.stackLe (by omega)) ?_ (by simp) (by simp) (by simp) (by simp) (by simp)
   simp[zaz,zbK,hv,hv0]
  ·simp[hv0,hbo',splice]
   refine go (at_:=wbody) hx' (hb.stackLe (by omega)) ?_ (by simp) (by simp) (by simp) (by simp) (by simp)
   simp[zaz,zbK,hv,hv0]
 ·simp[zxv,W.av,W.cs,h13]
  refine go (at_:=wbody) k1 hb ?_ (by simp) (by simp) (by simp) (by simp) (by simp)
  simp[zaz,h13]
end
section
variable {G : Env} {fs : List F} {mm mn : Int} {σ0 σ : AS} {xo mo fo : Nat} {L T D : List Nat} {x : zao} {r : Fr} {R : Out → AS → Prop}
def zr9(σ:AS)(v:AV)(l:List Int):Prop:=(l=[]∧v=.sl (.stat true) 1 [])∨zkF σ v l
theorem zr9.one{σ v l}(h:zr9 σ v l):v.known=true∧v.one=true∧v.cells=[v]:=by
 rcases h with ⟨_,rfl⟩|h
 ·simp
 ·exact h.one
theorem zeB{l:List Int}{sv:AV}(h:zkF σ sv l)(hl:l.length≤2^40)(hR:∀av σ',zr9 σ' av l→zh σ σ'→(∀g∈zV av,σ.nf≤g)→R (.ret av) σ'):zzQ G 248 [sv] σ R:=by
 refine zt6 rfl ?_
 rcases h with ⟨rfl,rfl⟩|⟨g,rfl,h1,h2⟩
 ·have:=hR .nilsl σ (.inr (.inl ⟨rfl,rfl⟩)) (.refl _) (by simp[zV])
  simp[zt5,aeq]
  exact this
 ·cases l with
  | nil =>
   have:=hR (.sl (.stat true) 1 []) σ (.inl ⟨rfl,rfl⟩) (.refl _) (by simp[zV])
   simp[zt5,aeq,h2]
   exact this
  | cons n l =>
   have:=hR (.sl (.fam σ.nf false) 1 ((n::l).map (.int .i64))) σ.newF (.inr (.inr ⟨_,rfl,by simp,by simp⟩)) (zh.refl σ).newF (by simp[zV])
   simp at hl
   simp[zt5,aeq,h2]
   exact⟨by omega,by simpa using this⟩
theorem zpy{el:Option TypeId}{av:AV}{args:List Int}{n:Nat}{K:AV→AS→Prop}(h:zr9 σ av args)(hl:args.length+n≤2^40)
  (hK:∀cv σ',zr9 σ' cv (args++yaj n 0)→σ'.objs=σ.objs→σ'.no=σ.no→σ.nf≤σ'.nf→(∀k,k<σ.nf→k∉zV av→σ'.F k=σ.F k)→(∀k∈zV cv,k∈zV av∨σ.nf≤k)→K cv σ') :
  zcc el 8 1 av (yaj n (.int .i64 0)) σ K:=by
 have hrep:∀m,(yaj m (yco .i64 0))=(yaj m (0:Int)).map (.int .i64):=fun m=>by simp
 have fresh:∀{a:List Int},zr9 σ.newF (.sl (.fam σ.nf false) 1 ((a++yaj n 0).map (.int .i64))) (a++yaj n 0):=fun {a}=>.inr (.inr ⟨_,rfl,by simp,by simp⟩)
 rcases h with ⟨rfl,rfl⟩|⟨rfl,rfl⟩|⟨g,rfl,h1,h2⟩
 ·cases n with
  | zero=>simpa using hK (.sl (.stat true) 1 []) σ (.inl ⟨rfl,rfl⟩) rfl rfl (yah _) (fun _ _ _=>rfl) (by simp[zV])
  | succ n =>
   have:=hK _ σ.newF (fresh (a:=[])) (by simp) (by simp) (by simp) (fun k h1 _=>by simp;intro h;omega) (by simp[zV])
   rw[ycy]
   simp at hl
   simp
   refine⟨by omega,?_⟩
   simpa [ycy]using this
 ·cases n with
  | zero=>simpa using hK .nilsl σ (.inr (.inl ⟨rfl,rfl⟩)) rfl rfl (yah _) (fun _ _ _=>rfl) (by simp[zV])
  | succ n =>
   have:=hK _ σ.newF (fresh (a:=[])) (by simp) (by simp) (by simp) (fun k h1 _=>by simp;intro h;omega) (by simp[zV])
   rw[ycy]
   simp at hl
   simp
   refine⟨by omega,?_⟩
   simpa [ycy]using this
 ·have:=hK (.sl (.fam σ.nf false) 1 ((args++yaj n 0).map (.int .i64))) (σ.setF g .dead).newF (.inr (.inr ⟨_,rfl,by simp,by simp⟩)) (by simp) (by simp) (by simp) (fun k h1 h2=>by simp[zV]at h2;simp[h2];intro h;omega) (by simp[zV])
  simp[h2]
  exact⟨by omega,by simpa using this⟩
theorem XM.adds{ov:AV}{σ':AS}(hm:XM fs mm mn σ0 xo mo D T x ov σ)(A:zh σ σ'):XM fs mm mn σ0 xo mo D T x ov σ':=by
 have hno:=hm.no
 have hxl:=hm.xl
 have hml:=hm.ml
 refine⟨yai hm.no A.no,yai hm.nf A.nf,fun o h1 h2 h3 h4=>?_,fun g h1 h2=>?_,hm.xl,hm.ml,hm.xm,fun o h1=>?_,?_,?_,hm.ownT,?_⟩
 ·rw[A.obj o (by omega)];exact hm.obj o h1 h2 h3 h4
 ·have:=hm.nf;rw[A.fam g (by omega)];exact hm.fam g h1 h2
 ·have:=hm.dl o h1;have:=A.no;exact⟨by omega,(hm.dl o h1).2⟩
 ·obtain⟨fv,iv,a,b,c⟩:=hm.mach
  exact⟨fv,iv,by rw[A.obj xo (by omega)];exact a,b,c⟩
 ·exact hm.own.keep A.nf fun g hg=>A.fam g (hm.own.lt g hg)
 ·rw[A.obj mo (by omega)];exact hm.mem
theorem XM.calls{fv iv ov:AV}{c:Int}(hm:XM fs mm mn σ0 xo mo D T x ov σ)(ho:σ.objs xo=some [fv,.int .i64 mm,.int .i64 mn,iv,.int .i64 x.steps,.slm mo 0 1 x.memory.length,ov,.int .i64 x.calls])(hf:FsV fv fs)(hi:zZ iv x.input):
  XM fs mm mn σ0 xo mo D T { x with calls:=c } ov (σ.setO xo [fv,.int .i64 mm,.int .i64 mn,iv,.int .i64 x.steps,.slm mo 0 1 x.memory.length,ov,.int .i64 c]):=by
 refine⟨by simpa using hm.no,hm.nf,fun o h1 h2 h3 h4=>by simp[h2];exact hm.obj o h1 h2 h3 h4,hm.fam,hm.xl,hm.ml,hm.xm,fun o h=>by simpa using hm.dl o h,⟨fv,iv,by simp,hf,hi⟩,hm.own.keep (by simp) (fun _ _=>rfl),hm.ownT,?_⟩
 simp[Ne.symm hm.xm];exact hm.mem
theorem XM.reanchor{ov:AV}(hm:XM fs mm mn σ0 xo mo D T x ov σ){D':List Nat}(hd:∀o∈D',o<σ.no∧o≠xo∧o≠mo):XM fs mm mn σ xo mo D' (zV ov) x ov σ:=by
 have:=hm.no;have:=hm.xl;have:=hm.ml
 exact⟨yah _,yah _,fun _ _ _ _ _=>rfl,fun _ _ _=>rfl,by omega,by omega,hm.xm,hd,hm.mach,hm.own,fun g hg=>.inl hg,hm.mem⟩
theorem XM.back{ov:AV}(hm:XM fs mm mn σ0 xo mo D T x ov σ){D':List Nat}(hd:∀o∈D',σ0.no≤o){x':zao}{σ':AS}(h:XO fs mm mn σ xo mo D' (zV ov) x' σ'):XO fs mm mn σ0 xo mo D T x' σ':=by
 obtain⟨ov',k⟩:=h
 have h1:=hm.no;have h2:=hm.nf;have h3:=k.no;have h4:=k.nf
 refine⟨ov',by omega,by omega,fun o a b c d=>?_,fun g a b=>?_,hm.xl,hm.ml,hm.xm,fun o ho=>?_,k.mach,k.own,fun g hg=>?_,k.mem⟩
 ·rw[k.obj o (by omega) b c (fun hh=>by have:=hd o hh;omega)];exact hm.obj o a b c d
 ·rw[k.fam g (by omega) (fun hg=>by rcases hm.ownT g hg with h|h;exact b h;omega)];exact hm.fam g a b
 ·have:=hm.dl o ho;exact⟨by omega,this.2⟩
 ·rcases k.ownT g hg with h|h
  ·exact hm.ownT g h
  ·right;omega
theorem XM.fams{ov:AV}(hm:XM fs mm mn σ0 xo mo D T x ov σ){σ1:AS}{av:AV}(haT:∀k∈zV av,k∈T∨σ0.nf≤k)(hao:∀k∈zV av,k∉zV ov)(q1:σ1.objs=σ.objs)(q2:σ1.no=σ.no)(q3:σ.nf≤σ1.nf)(q4:∀k,k<σ.nf→k∉zV av→σ1.F k=σ.F k):
  XM fs mm mn σ0 xo mo D T x ov σ1:=by
 have h2:=hm.nf
 refine⟨by rw[q2];exact hm.no,by omega,fun o a b c d=>by rw[q1];exact hm.obj o a b c d,fun g a b=>?_,hm.xl,hm.ml,hm.xm,fun o ho=>by rw[q2];exact hm.dl o ho,by rw[q1];exact hm.mach,hm.own.keep q3 fun g hg=>q4 g (hm.own.lt g hg) fun h=>hao g h hg,hm.ownT,by rw[q1];exact hm.mem⟩
 rw[q4 g (by omega) (fun h=>by rcases haT g h with h|h;exact b h;omega)];exact hm.fam g a b
theorem zmc:∀(l:List Int),zy (l.map (yco .i64))=l.map (yco .i64)
 | []=>rfl
 | a::l=>by have:=zmc l;simp[zy,AV.cells]at this ⊢;exact this
theorem enter{ov cv pv lv tv:AV}{g:F}{locs:List Int}(hm:XM fs mm mn σ0 xo mo D T x ov σ)(hcv:zr9 σ cv locs)(hcT:∀k∈zV cv,k∈T∨σ0.nf≤k)(hco:∀k∈zV cv,k∉zV ov)(hp:zZ pv g.params)(hl:zZ lv g.locals)(ht:zcs tv g.lists):
  ∃σc L',XF fs mm mn σc xo mo σ.no L' (zV ov) x ⟨g,locs,[],0⟩ σc∧(∀x' σ',XO fs mm mn σc xo mo (σ.no::L') (zV ov) x' σ'→XO fs mm mn σ0 xo mo D T x' σ')∧(∀o,o<σ.no→σc.objs o=σ.objs o∧o<σc.no∧o≠σ.no∧o∉L') ∧
   ∀{us:List AV} {K:Out→AS→Prop},zzQ G 146 us σc K→zzQ G 146 us (σ.newO [.str g.name,pv,lv,.int .i64 g.type,tv,cv,.nilsl,.int .i64 0]) K:=by
 have hno:=hm.no;have hxl:=hm.xl;have hml:=hm.ml
 have h2:XM fs mm mn σ0 xo mo D T x ov (σ.newO [.str g.name,pv,lv,.int .i64 g.type,tv,cv,.nilsl,.int .i64 0]):=hm.adds (zh.refl σ).newO
 have empty:locs=[]→(cv=.nilsl∨∃φ,cv=.sl φ 1 [])→∃σc L',XF fs mm mn σc xo mo σ.no L' (zV ov) x ⟨g,locs,[],0⟩ σc∧(∀x' σ',XO fs mm mn σc xo mo (σ.no::L') (zV ov) x' σ'→XO fs mm mn σ0 xo mo D T x' σ')∧(∀o,o<σ.no→σc.objs o=σ.objs o∧o<σc.no∧o≠σ.no∧o∉L') ∧
   ∀{us:List AV} {K:Out→AS→Prop},zzQ G 146 us σc K→zzQ G 146 us (σ.newO [.str g.name,pv,lv,.int .i64 g.type,tv,cv,.nilsl,.int .i64 0]) K:=fun h0 hc=>by
  refine⟨_,[],⟨ov,.nilsl,h2.reanchor (by simp;omega),⟨⟨pv,lv,tv,cv,by simp,hp,hl,ht,.inl ⟨rfl,h0,hc⟩⟩,by simp,.inl ⟨rfl,rfl⟩,by simp[zV]⟩,by simp[zV]⟩,fun x' σ' h=>h2.back (by simp;omega) h,fun o ho=>⟨by simp;intro h;omega,by simp;omega,by omega,by simp⟩,fun h=>h⟩
 rcases hcv with ⟨h0,rfl⟩|⟨h0,rfl⟩|⟨f,rfl,hf1,hf2⟩
 ·exact empty h0 (.inr ⟨_,rfl⟩)
 ·exact empty h0 (.inl rfl)
 ·have hfo:f∉zV ov:=hco f (by simp[zV])
  have h3:XM fs mm mn σ0 xo mo D T x ov ((σ.newO [.str g.name,pv,lv,.int .i64 g.type,tv,.sl (.fam f false) 1 (locs.map (.int .i64)),.nilsl,.int .i64 0]).own f σ.no [.str g.name,pv,lv,.int .i64 g.type,tv,.slm (σ.no+1) 0 1 locs.length,.nilsl,.int .i64 0] (locs.map (.int .i64))):=by
   have k1:=hm.fams (σ1:={ σ with F:=upd σ.F f .dead }) hcT hco rfl rfl (yah _) (fun k _ hk=>by simp[zV]at hk;simp[upd,hk])
   refine k1.adds ⟨by simp[AS.own];omega,by simp[AS.own],fun o ho=>?_,fun k hk=>by simp[AS.own]⟩
   have e1:o≠σ.no:=by simp at ho;omega
   have e2:o≠σ.no+1:=by simp at ho;omega
   simp[AS.own,upd,e1,e2]
  refine⟨(σ.newO [.str g.name,pv,lv,.int .i64 g.type,tv,.sl (.fam f false) 1 (locs.map (.int .i64)),.nilsl,.int .i64 0]).own f σ.no [.str g.name,pv,lv,.int .i64 g.type,tv,.slm (σ.no+1) 0 1 locs.length,.nilsl,.int .i64 0] (locs.map (.int .i64)),[σ.no+1],⟨ov,.nilsl,h3.reanchor (by simp[AS.own];omega),⟨⟨pv,lv,tv,_,by simp[AS.own,upd],hp,hl,ht,.inr ⟨σ.no+1,rfl,rfl,by simp[AS.own,upd]⟩⟩,by simp,.inl ⟨rfl,rfl⟩,by simp[zV]⟩,by simp[zV]⟩,fun x' σ' h=>h3.back (by simp;omega) h,fun o ho=>⟨?_,?_,by omega,by simp;omega⟩,fun {us K} h=>?_⟩
  ·have e1:o≠σ.no:=by omega
   have e2:o≠σ.no+1:=by omega
   simp[AS.own,upd,e1,e2]
  ·simp[AS.own];omega
  ·refine ACalls.own (f:=f) (fo:=σ.no) (j:=5) (sz:=1) (b:=false) (xs:=locs.map (.int .i64)) (cs:=[.str g.name,pv,lv,.int .i64 g.type,tv,.sl (.fam f false) 1 (locs.map (.int .i64)),.nilsl,.int .i64 0]) (by simpa using hf2) (by simp) (by simp) ?_
   rw[zmc]
   simpa using h
theorem XF.xcells(h:XF fs mm mn σ0 xo mo fo L T x r σ):∃fv iv ov,σ.objs xo=some [fv,.int .i64 mm,.int .i64 mn,iv,.int .i64 x.steps,.slm mo 0 1 x.memory.length,ov,.int .i64 x.calls]∧(fv.known=true∧fv.one=true∧fv.cells=[fv])∧(iv.known=true∧iv.one=true∧iv.cells=[iv])∧(ov.known=true∧ov.one=true∧ov.cells=[ov]) ∧
  FsV fv fs∧zZ iv x.input∧zkF σ ov x.out∧xo≠fo∧∀st c,XF fs mm mn σ0 xo mo fo L T { x with steps:=st,calls:=c } r (σ.setO xo [fv,.int .i64 mm,.int .i64 mn,iv,.int .i64 st,.slm mo 0 1 x.memory.length,ov,.int .i64 c]):=by
 have hx:=h
 obtain⟨ov,sv,hm,hr,hd⟩:=h
 obtain⟨fv,iv,ho,hf,hi⟩:=hm.mach
 exact⟨fv,iv,ov,ho,hf.one,hi.one,hm.own.one,hf,hi,hm.own,fun e=>(hm.dl fo (by simp)).2.1 e.symm,fun st c=>hx.setX (σ1:=σ) ho rfl rfl (yah _) (fun _ _ _=>rfl) hi hm.own fun k hk=>.inl hk⟩
set_option maxHeartbeats 1000000 in
theorem zjo{N:Nat}{Dp:Int}{rec:zey}(hrec:zh9 G fs mm mn N Dp rec)(hbd:RBd N Dp rec)(hD0:0≤Dp){ov fv av:AV}{g:F}{args:List Int}{v0:Fr}(hm:XM fs mm mn σ0 xo mo D T x ov σ)(hN:N≤2^38)(hst:max x.steps 0≤N)(hou:(x.out.length:Int)+max x.steps 0≤N)(hcl:0≤x.calls)
  (hml:x.memory.length≤2^38) (hil:x.input.length≤2^38) (hg:OkF g) (hfv:FV fv g) (hav:zr9 σ av args) (hal:args.length≤2^38) (haT:∀k∈zV av,k∈T∨σ0.nf≤k) (hao:∀k∈zV av,k∉zV ov)
  (hw:zbQ rec x g args v0≠.bad)
  (hR:∀v x' r' σ',zbQ rec x g args v0=.ok v x' r'→XO fs mm mn σ0 xo mo D T x' σ'→R (.ret (.int .i64 v)) σ')
  (hO:∀s c x' σ',zbQ rec x g args v0=.over s c x'→XO fs mm mn σ0 xo mo D T x' σ'→R (.panic (zh8 s c)) σ') :
  zzQ G 81 [.ptr xo 0,fv,av] σ R:=by
 refine zxm rfl ?_
 obtain⟨pv,lv,tv,rfl,hp,hl,ht⟩:=hfv
 have p1:=hp.one
 have l1:=hl.one
 have t1:=ht.one
 have ll:=hl.len
 have tl:=ht.len
 obtain⟨mfv,miv,mo1,mo2,mo3⟩:=hm.mach
 have m1:=mo2.one
 have m2:=mo3.one
 have m3:=hm.own.one
 have hxl:=hm.xl
 have hno:=hm.no
 have hxo:xo≠σ.no:=by omega
 have hxo':σ.no≠xo:=by omega
 have hltn:=hm.no
 by_cases hc:32≤x.calls
 ·simp[zIo,p1,l1,t1,splice,hxo,mo1,m1,m2,m3,hc]
  refine zcS (fun h=>by omega) fun _=>?_
  simp
  exact hO _ _ _ _ (by simp[zbQ,hc]) ⟨ov,hm.adds (zh.refl σ).newO⟩
 ·have w1:yb4 .i64 (x.calls+1)=x.calls+1:=by rw[zc]<;>omega
  have hgl:=hg.locals
  have hgls:=hg.lists
  simp[zIo,p1,l1,t1,splice,hxo,hxo',mo1,m1,m2,m3,hc,w1,ll]
  have S0:XM fs mm mn σ0 xo mo D T { x with calls:=x.calls+1 } ov ((σ.newO [ycn g.name,pv,lv,yco yam g.type,tv]).setO xo [mfv,yco yam mm,yco yam mn,miv,yco yam x.steps,ydq mo 0 1 x.memory.length,ov,yco yam (x.calls+1)]) :=
   (hm.adds (zh.refl σ).newO).calls (by simp[hxo,mo1]) mo2 mo3
  have S1:((σ.newO [ycn g.name,pv,lv,yco yam g.type,tv]).setO xo [mfv,yco yam mm,yco yam mn,miv,yco yam x.steps,ydq mo 0 1 x.memory.length,ov,yco yam (x.calls+1)]).objs σ.no=some [ycn g.name,pv,lv,yco yam g.type,tv]:=by simp[hxo']
  have S2:((σ.newO [ycn g.name,pv,lv,yco yam g.type,tv]).setO xo [mfv,yco yam mm,yco yam mn,miv,yco yam x.steps,ydq mo 0 1 x.memory.length,ov,yco yam (x.calls+1)]).no=σ.no+1:=by simp
  have S3:zr9 ((σ.newO [ycn g.name,pv,lv,yco yam g.type,tv]).setO xo [mfv,yco yam mm,yco yam mn,miv,yco yam x.steps,ydq mo 0 1 x.memory.length,ov,yco yam (x.calls+1)]) av args:=hav
  generalize (σ.newO [ycn g.name,pv,lv,yco yam g.type,tv]).setO xo [mfv,yco yam mm,yco yam mn,miv,yco yam x.steps,ydq mo 0 1 x.memory.length,ov,yco yam (x.calls+1)]=S at *
  refine⟨by omega,zpy S3 (by omega) fun cv σ1 hcv q1 q2 q3 q4 q5=>?_⟩
  have c1:=hcv.one
  have w2:yb4 .i64 ((g.lists.length:Int)-1)=(g.lists.length:Int)-1:=by rw[zc]<;>omega
  have q6:σ1.objs σ.no=some [ycn g.name,pv,lv,yco yam g.type,tv]:=by rw[q1];exact S1
  have q7:¬σ.no=σ1.no:=by omega
  simp[q6,p1,l1,t1,c1,tl,w2,q7,splice]
  have hSl:=S0.own.lt
  have hSn:=S0.nf
  obtain⟨σc,L',hX,hXO,hbo,hac⟩:=enter (S0.fams haT hao q1 q2 q3 q4) hcv (fun k hk=>by rcases q5 k hk with h|h;exact haT k h;right;omega) (fun k hk h'=>by rcases q5 k hk with h|h;exact hao k h h';have:=hSl k h';omega) hp hl ht
  obtain⟨b1,b2,b3,b4⟩:=hbo σ.no (by omega)
  have bdn:Bd N { x with calls:=x.calls+1 } ⟨g,args++yaj g.locals.length 0,[],0⟩:=⟨hN,by simpa using hst,hou,hg,by simp only;omega,hml,hil⟩
  simp only[zbQ,if_neg hc]at hw hR hO
  refine hac (hrec hX bdn (ydi _) hD0 (fun e=>by rw[e]at hw;exact hw rfl) (fun o x' r' σ' e hx'=>?_) (fun s c x' σ' e ho=>?_))
  ·rw[e]at hw hR hO
   obtain⟨hA,ho2⟩:=hbd _ _ _ _ _ _ _ bdn hD0 e
   have hcs:=hA.calls
   simp only at hw hR hO hcs
   have hbo':∀{x1:zao} {r1:Fr} {σ2:AS},XF fs mm mn σc xo mo σ1.no L' (zV ov) x1 r1 σ2→σ2.objs σ.no=some [ycn g.name,pv,lv,yco yam g.type,tv]:=fun hh=>by
    rw[hh.other b2 (by omega) (by have:=hm.ml;omega) b3 b4,b1];exact q6
   have hb1:=hbo' hx'
   have w3:yb4 .i64 (x'.calls-1)=x'.calls-1:=by rw[zc]<;>omega
   by_cases hh:o=-1∧g.type≠0
   ·rw[if_pos hh]at hw hR
    obtain⟨h1,h2⟩:=hh
    have hne:r'.stack≠[]:=by rintro e;simp[zbK,e]at hw
    obtain⟨v,hv⟩:=zaH hne
    have hsl:r'.stack.length≤2^40:=by have:=hA.bd.stack;omega
    simp[h1,h2,hb1,p1,l1,t1]
    refine zad hx' hsl hv fun σ3 hx3=>?_
    obtain⟨fpv,flv,ftv,fcv,fsv,fo1,e1,e2,e3,e4,e5,_,_,_,hset⟩:=hx3.cells
    have hx4:=hset v
    obtain⟨gfv,giv,gov,go1,g1,g2,g3,_,_,_,gne,hset2⟩:=hx4.xcells
    have go1':σ3.objs xo=some [gfv,.int .i64 mm,.int .i64 mn,giv,.int .i64 x'.steps,.slm mo 0 1 x'.memory.length,gov,.int .i64 x'.calls]:=by simpa [gne]using go1
    simp[fo1,e1,e2,e3,e4,e5,splice,go1',g1,g2,g3,gne,Ne.symm gne,w3]
    exact hR _ _ _ _ (by simp[zbK,hv];rfl) (hXO _ _ (hset2 x'.steps (x'.calls-1)).stop)
   ·rw[if_neg hh]at hw hR
    obtain⟨fpv,flv,ftv,fcv,fsv,fo1,e1,e2,e3,e4,e5,_,_,_,hset⟩:=hx'.cells
    obtain⟨gfv,giv,gov,go1,g1,g2,g3,_,_,_,gne,hset2⟩:=hx'.xcells
    by_cases h1:o=-1
    ·have h2:g.type=0:=by simpa [h1]using hh
     simp[h1,h2,hb1,p1,l1,t1,fo1,e1,e2,e3,e4,e5,splice,go1,g1,g2,g3,gne,Ne.symm gne,w3]
     exact hR _ _ _ _ rfl (hXO _ _ (hset2 x'.steps (x'.calls-1)).stop)
    ·simp[h1,hb1,p1,l1,t1,fo1,e1,e2,e3,e4,e5,splice,go1,g1,g2,g3,gne,Ne.symm gne,w3]
     exact hR _ _ _ _ rfl (hXO _ _ (hset2 x'.steps (x'.calls-1)).stop)
  ·rw[e]at hO
   simp
   exact hO _ _ _ _ rfl (hXO _ _ ho)
end
section
variable {G : Env} {fs : List F} {mm mn : Int} {σ0 σ : AS} {xo mo fo : Nat} {L T D : List Nat} {x : zao} {r : Fr} {R : Out → AS → Prop}
theorem XF.after(h:XF fs mm mn σ0 xo mo fo L T x r σ){av:AV}(hav:∃σq:AS,σq.nf≤σ.nf∧(∀g∈zV av,σq.nf≤g)∧σ0.nf≤σq.nf∧∀sv,(∃cs,σ.objs fo=some cs∧cs[6]?=some sv)→∀g∈zV sv,g<σq.nf)(hax:∀ov,(∃cs,σ.objs xo=some cs∧cs[6]?=some ov)→∀g∈zV av,g∉zV ov):
  ∃ov T2,XM fs mm mn σ xo mo [] T2 x ov σ∧(∀k∈zV av,k∈T2∨σ.nf≤k)∧(∀k∈zV av,k∉zV ov)∧(∀x' σ',XO fs mm mn σ xo mo [] T2 x' σ'→XF fs mm mn σ0 xo mo fo L T x' r σ')∧∀x' σ',XO fs mm mn σ xo mo [] T2 x' σ'→XO fs mm mn σ0 xo mo (fo::L) T x' σ':=by
 have hx:=h
 obtain⟨ov,sv,hm,hr,hd⟩:=h
 obtain⟨σq,v1,v2,v3,v4⟩:=hav
 obtain⟨pv,lv,tv,cv,ho,hpv,hlv,htv,hcv⟩:=hr.fr
 have v5:=v4 sv ⟨_,ho,rfl⟩
 obtain⟨fv,iv,hxo,hfv,hiv⟩:=hm.mach
 have v6:=hax ov ⟨_,hxo,rfl⟩
 have hno:=hm.no;have hxl:=hm.xl;have hml:=hm.ml;have hnf:=hm.nf
 have hT2:∀g∈zV ov++zV av,g∈T∨σ0.nf≤g:=fun g hg=>by
  rcases ybh.1 hg with h|h
  ·exact hm.ownT g h
  ·right;have:=v2 g h;omega
 have back:∀x' ov' σ',XM fs mm mn σ xo mo [] (zV ov++zV av) x' ov' σ'→XM fs mm mn σ0 xo mo (fo::L) T x' ov' σ':=fun x' ov' σ' k=>by
  have h3:=k.no;have h4:=k.nf
  refine⟨by omega,by omega,fun o a b c d=>?_,fun g a b=>?_,hxl,hml,hm.xm,fun o ho=>?_,k.mach,k.own,fun g hg=>?_,k.mem⟩
  ·rw[k.obj o (by omega) b c (by simp)];exact hm.obj o a b c d
  ·rw[k.fam g (by omega) (fun hg=>by rcases hT2 g hg with h|h;exact b h;omega)];exact hm.fam g a b
  ·have:=hm.dl o ho;exact⟨by omega,this.2⟩
  ·rcases k.ownT g hg with h|h
   ·exact hT2 g h
   ·right;omega
 have rn:=hm.reanchor (D':=[]) (by simp)
 refine⟨ov,zV ov++zV av,⟨rn.no,rn.nf,rn.obj,fun g a b=>rn.fam g a (fun h=>b (by simp[h])),rn.xl,rn.ml,rn.xm,rn.dl,rn.mach,rn.own,fun g hg=>.inl (by simp[hg]),rn.mem⟩,fun k hk=>.inl (by simp[hk]),v6,?_,fun x' σ' ⟨ov',k⟩=>⟨ov',back _ _ _ k⟩⟩
 rintro x' σ' ⟨ov',k⟩
 have same:∀o∈fo::L,σ'.objs o=σ.objs o:=fun o ho=>by have:=hm.dl o ho;exact k.obj o this.1 this.2.1 this.2.2 (by simp)
 have hlt:=hr.own.lt
 refine⟨ov',sv,back _ _ _ k,⟨⟨pv,lv,tv,cv,by rw[same fo (by simp)];exact ho,hpv,hlv,htv,hcv.keep fun o ho=>same o (by simp[ho])⟩,hr.fl,hr.own.keep k.nf fun g hg=>k.fam g (hlt g hg) (fun h=>?_),hr.ownT⟩,fun g hg hs=>?_⟩
 ·rcases ybh.1 h with h|h
  ·exact hd g h hg
  ·have:=v2 g h;have:=v5 g hg;omega
 ·rcases k.ownT g hg with h|h
  ·rcases ybh.1 h with h|h
   ·exact hd g h hs
   ·have:=v2 g h;have:=v5 g hs;omega
  ·have:=hlt g hs;omega
theorem zkH{N:Nat}{Dp:Int}{rec:zey}(hrec:zh9 G fs mm mn N Dp rec)(hbd:RBd N Dp rec)(hD0:0≤Dp)(hfs:zpK fs){n:Int}(hnn:n≤2^63-1)(h:XF fs mm mn σ0 xo mo fo L T x r σ)(hb:B1 N x r)(hw:zaa fs rec x r n≠.bad)
  (hR:∀x' r' σ',zaa fs rec x r n=.ok () x' r'→XF fs mm mn σ0 xo mo fo L T x' r' σ'→R (.ret (.tuple [])) σ')
  (hO:∀s c x' σ',zaa fs rec x r n=.over s c x'→XO fs mm mn σ0 xo mo (fo::L) T x' σ'→R (.panic (zh8 s c)) σ') :
  zzQ G 223 [.ptr xo 0,.ptr fo 0,.int .i64 n] σ R:=by
 refine ztU rfl ?_
 have hN:=hb.bd.n
 have hst:r.stack.length≤2^40:=by have:=hb.bd.stack;omega
 have hinl:x.input.length≤2^40:=by have:=hb.bd.inp;omega
 have hol:x.out.length≤2^40:=by have:=hb.ou;omega
 by_cases n0:n=0
 ·subst n0
  simp only[zaa,if_true]at hw hR
  simp[zo0,splice]
  refine zpu h hinl fun σ' hx'=>?_
  simp
  cases hin:x.input with
  | nil =>
   rw[hin]at hx' hR
   refine zan hx' hst fun σ2 hx2=>?_
   simp
   exact hR _ _ _ rfl hx2
  | cons v l =>
   rw[hin]at hx' hR
   refine zan hx' hst fun σ2 hx2=>?_
   simp
   exact hR _ _ _ rfl hx2
 by_cases n1:n=1
 ·subst n1
  have hne:r.stack≠[]:=by rintro e;simp[zaa,zbK,e]at hw
  obtain⟨v,hv⟩:=zaH hne
  obtain⟨fv,iv,ov,xo1,f1,i1,o1,hfv,hiv,hov,xne,_⟩:=h.xcells
  simp[zo0,splice,xo1,f1,i1,o1]
  refine zjl h hst hv fun σ' hx' hob=>?_
  have xo2:=(hob xo xne).trans xo1
  simp only[zaa,zbK,hv]at hR
  simp at hR
  have fin:∀{σ3:AS} {ov':AV},σ3.objs=σ'.objs→σ3.no=σ'.no→σ'.nf≤σ3.nf→(∀g,g<σ'.nf→g∉zV ov→σ3.F g=σ'.F g)→zkF σ3 ov' (x.out++[v])→(∀g∈zV ov',g∈zV ov∨σ'.nf≤g) →
    R (.ret (.tuple [])) (σ3.setO xo [fv,.int .i64 mm,.int .i64 mn,iv,.int .i64 x.steps,.slm mo 0 1 x.memory.length,ov',.int .i64 x.calls]):=fun a b c d e f=>hR _ _ _ rfl rfl (hx'.setX xo2 a b c d hiv e f)
  obtain⟨gfv,giv,gov,go1,_,_,_,_,_,gov1,_⟩:=hx'.xcells
  rw[xo2]at go1
  simp only[yaR.injEq,ydl.injEq]at go1
  obtain⟨_,_,_,_,_,_,rfl,_,_⟩:=go1
  simp[xo2,f1,i1,o1]
  rcases gov1 with ⟨hs,rfl⟩|⟨g,rfl,hg1,hg2⟩
  ·simp[xo2,f1,i1,splice]
   exact fin (σ3:=σ'.newF) (by simp) (by simp) (by simp) (fun g h1 _=>by simp;intro h;omega) (.inr ⟨σ'.nf,by simp[hs],by simp,by simp⟩) (by simp[zV])
  ·simp[xo2,f1,i1,splice,hg2]
   exact⟨by omega,fin (σ3:=(σ'.setF g .dead).newF) (by simp) (by simp) (by simp) (fun k h1 h2=>by simp[zV]at h2;simp[h2];intro h;omega) (.inr ⟨σ'.nf,by simp,by simp,by simp⟩) (by simp[zV])⟩
 by_cases n2:n=2
 ·subst n2
  have hne:r.stack≠[]:=by rintro e;simp[zaa,zbK,e]at hw
  obtain⟨v,hv⟩:=zaH hne
  simp only[zaa,zbK,hv]at hO
  simp at hO
  simp[zo0,splice]
  refine zad h hst hv fun σ' hx'=>?_
  simp[splice]
  exact hO _ _ _ _ rfl rfl rfl hx'.stop
 have n3:¬n<3:=by
  intro hh;simp[zaa,n0,n1,n2,hh]at hw
 simp only[zaa,n0,n1,n2,n3,if_false]at hw hR hO
 cases hgg:fs[(n-3).toNat]? with
 | none=>rw[hgg]at hw;exact absurd rfl hw
 | some g =>
 rw[hgg]at hw hR hO
 simp only at hw hR hO
 by_cases hps:r.stack.length<g.params.length
 ·rw[if_pos hps]at hw;exact absurd rfl hw
 rw[if_neg hps]at hw hR hO
 obtain⟨hgi,hge⟩:=yaq.1 hgg
 have hgm:g∈fs:=ycs hgg
 have hgf:=hfs g hgm
 have hgp:=hgf.params
 obtain⟨mfv,miv,mov,xo1,f1,i1,o1,hfv,hiv,hov,xne,_⟩:=h.xcells
 obtain⟨bq,gv,hgv,hix⟩:=hfv.at hgi
 rw[hge]at hgv
 have e3:(((n-3).toNat:Nat):Int)=n-3:=by omega
 rw[e3]at hix
 have w1:yb4 .i64 (n-3)=n-3:=by rw[zc]<;>omega
 have hgv0:=hgv
 obtain⟨gp,gl,gt,rfl,hgp',hgl',hgt'⟩:=hgv0
 have p1:=hgp'.one
 have l1:=hgl'.one
 have t1:=hgt'.one
 have pl:=hgp'.len
 have hlts:=h.lts
 have A:zh σ ((σ.newO [.str [],.nilsl,.nilsl,.int .i64 0,.nilsl]).setO σ.no [.str g.name,gp,gl,.int .i64 g.type,gt]):=(zh.refl σ).newO.setO (yah _)
 have h1:=h.adds A
 have hS:((σ.newO [.str [],.nilsl,.nilsl,.int .i64 0,.nilsl]).setO σ.no [.str g.name,gp,gl,.int .i64 g.type,gt]).objs σ.no=some [.str g.name,gp,gl,.int .i64 g.type,gt]:=by simp
 have hSn:((σ.newO [.str [],.nilsl,.nilsl,.int .i64 0,.nilsl]).setO σ.no [.str g.name,gp,gl,.int .i64 g.type,gt]).no=σ.no+1:=by simp
 obtain⟨pv,lv,tv,cv,sv,fo1,e1,e2,e3',e4,e5,hsv,htv,hcv,_⟩:=h.cells
 have sl:=hsv.len
 have hfo:fo≠σ.no:=by have:=hlts.2.2.1;omega
 have hfo':σ.no≠fo:=by have:=hlts.2.2.1;omega
 have hfl:fo<σ.no:=hlts.2.2.1
 have w2:yb4 .i64 ((r.stack.length:Int)-(g.params.length:Int))=((r.stack.length-g.params.length:Nat):Int):=by rw[zc]<;>omega
 have hst':=hb.bd.stack
 have hmv:=hov.lt
 -- from the clone on
 have tail:∀{sv' av:AV} {σ2:AS} {K:Out→AS→Prop},zh ((σ.newO [.str [],.nilsl,.nilsl,.int .i64 0,.nilsl]).setO σ.no [.str g.name,gp,gl,.int .i64 g.type,gt]) σ2→zr9 σ2 av (r.stack.drop (r.stack.length-g.params.length))→(∀k∈zV av,σ.nf≤k)→zkF σ2 sv' (r.stack.take (r.stack.length-g.params.length)) →
   (∀k∈zV sv',k<σ.nf∧k∈zV sv) →
   (∀v x' σ',zbQ rec x g (r.stack.drop (r.stack.length-g.params.length)) { r with stack:=r.stack.take (r.stack.length-g.params.length) }=.ok v x' { r with stack:=r.stack.take (r.stack.length-g.params.length) }→XF fs mm mn σ0 xo mo fo L T x' { r with stack:=r.stack.take (r.stack.length-g.params.length) } σ'→σ'.objs σ.no=some [.str g.name,gp,gl,.int .i64 g.type,gt]→x'.steps≤x.steps→K (.ret (.int .i64 v)) σ') →
   (∀s c x' σ',zbQ rec x g (r.stack.drop (r.stack.length-g.params.length)) { r with stack:=r.stack.take (r.stack.length-g.params.length) }=.over s c x'→XO fs mm mn σ0 xo mo (fo::L) T x' σ'→K (.panic (zh8 s c)) σ') →
   zzQ G 81 [.ptr xo 0,.agg [.str g.name,gp,gl,.int .i64 g.type,gt],av] (σ2.setO fo [.str r.fn.name,pv,lv,.int .i64 r.fn.type,tv,cv,sv',.int .i64 r.result]) K:=by
  intro sv' av σ2 K A2 hav hfr hsv' hsf hK hKO
  have fo2:σ2.objs fo=some [.str r.fn.name,pv,lv,.int .i64 r.fn.type,tv,cv,sv,.int .i64 r.result]:=by
   rw[A2.obj fo (by simp;omega)];simp[hfo];exact fo1
  have hA2:=A2.nf
  have hA3:=A2.no
  simp at hA2 hA3
  have h3:XF fs mm mn σ0 xo mo fo L T x { r with stack:=r.stack.take (r.stack.length-g.params.length) } (σ2.setO fo [.str r.fn.name,pv,lv,.int .i64 r.fn.type,tv,cv,sv',.int .i64 r.result]) :=
   (h1.adds A2).setFr (σ1:=σ2) (res':=r.result) fo2 rfl rfl (yah _) (fun _ _ _=>rfl) hsv' fun k hk=>.inl (hsf k hk).2
  have hxo3:(σ2.setO fo [.str r.fn.name,pv,lv,.int .i64 r.fn.type,tv,cv,sv',.int .i64 r.result]).objs xo=some [mfv,.int .i64 mm,.int .i64 mn,miv,.int .i64 x.steps,.slm mo 0 1 x.memory.length,mov,.int .i64 x.calls]:=by
   have e:xo≠σ.no:=by omega
   simp[xne];rw[A2.obj xo (by simp;omega)];simp[e];exact xo1
  obtain⟨ov,T2,k1,k2,k3,k4,k5⟩:=h3.after (av:=av) ⟨σ,by simpa using hA2,hfr,by obtain⟨_,_,hm,_⟩:=h;exact hm.nf,fun sv1 ⟨cs,hc1,hc2⟩=>by
   simp at hc1;subst hc1;simp at hc2;subst hc2;exact fun k hk=>(hsf k hk).1⟩ (fun ov ⟨cs,hc1,hc2⟩ k hk hk'=>by
   rw[hxo3]at hc1;cases hc1;simp at hc2;subst hc2;have:=hmv k hk';have:=hfr k hk;omega)
  refine zjo hrec hbd hD0 (N:=N) (v0:={ r with stack:=r.stack.take (r.stack.length-g.params.length) }) k1 hN (by omega) hb.bd.out hb.bd.calls.1 hb.bd.mem hb.bd.inp hgf ⟨gp,gl,gt,rfl,hgp',hgl',hgt'⟩ ?_ (by simp;omega) k2 k3 (fun e=>by rw[e]at hw;exact hw rfl) (fun v x' r' σ' e ho=>?_) fun s c x' σ' e ho=>hKO s c x' σ' e (k5 _ _ ho)
  ·rcases hav with h|h
   ·exact .inl h
   ·exact .inr (h.keep (by simp) fun _ _=>rfl)
  ·have hb2:B1 N x { r with stack:=r.stack.take (r.stack.length-g.params.length) }:=hb.stack (by simp)
   obtain⟨rfl,ha⟩:=zrz hbd hfs hD0 hb2.bd hgm e
   refine hK v x' σ' e (k4 _ _ ho) ?_ ha.steps
   obtain⟨ov',k⟩:=ho
   have e1:σ.no≠xo:=by omega
   have e2:σ.no≠mo:=by omega
   rw[k.obj σ.no (by simp;omega) e1 e2 (by simp)]
   simp[hfo']
   rw[A2.obj σ.no (by simp)];simp
 have hsv0:=hsv
 rcases hsv with ⟨hs,rfl⟩|⟨q,rfl,hq1,hq2⟩
 ·have hs0:r.stack.length=0:=by rw[hs];rfl
  have hp0:g.params.length=0:=by omega
  have w0:yb4 .i64 0=0:=by decide
  simp[zo0,splice,n0,n1,n2,xo1,f1,i1,o1,w1,hix,p1,l1,t1,hfo,hfo',fo1,e1,e2,e3',e4,pl,hs,hp0,w0]
  refine zeB (l:=[]) (.inl ⟨rfl,rfl⟩) (by simp) fun av σ2 hav A2 hfr=>?_
  have fo2:σ2.objs fo=some [.str r.fn.name,pv,lv,.int .i64 r.fn.type,tv,cv,.nilsl,.int .i64 r.result]:=by
   rw[A2.obj fo (by simp;omega)];simp[hfo];exact fo1
  have bo2:σ2.objs σ.no=some [.str g.name,gp,gl,.int .i64 g.type,gt]:=by rw[A2.obj σ.no (by simp)];simp
  simp[fo2,e1,e2,e3',e4,splice,w0,bo2,p1,l1,t1,hfo']
  refine tail A2 (by simpa [hs]using hav) (by simpa using hfr) (.inl ⟨by simp[hs],rfl⟩) (by simp[zV]) (fun v x' σ' e hx' hbx hss=>?_) (fun s c x' σ' e ho=>?_)
  ·rw[e]at hR
   have hb2:B1 N x { r with stack:=r.stack.take (r.stack.length-g.params.length) }:=hb.stack (by simp)
   by_cases ht:g.type=0
   ·simp[ht]at hR
    simp[hbx,p1,l1,t1,ht]
    exact hR _ _ _ rfl rfl hx'
   ·simp[ht]at hR
    simp[hbx,p1,l1,t1,ht]
    refine zan hx' (by simp;omega) fun σ4 hx4=>?_
    simp
    exact hR _ _ _ rfl rfl hx4
  ·rw[e]at hO
   simp
   exact hO _ _ _ _ rfl ho
 ·have el:List.drop (r.stack.length-g.params.length) (ycM r.stack.length (r.stack.map (yco .i64)))=(r.stack.drop (r.stack.length-g.params.length)).map (yco .i64):=by rw[ycN (by simp),List.map_drop]
  have el2:ycM (r.stack.length-g.params.length) (r.stack.map (yco .i64))=(r.stack.take (r.stack.length-g.params.length)).map (yco .i64):=by rw[ydm]
  simp[zo0,splice,n0,n1,n2,xo1,f1,i1,o1,w1,hix,p1,l1,t1,hfo,hfo',fo1,e1,e2,e3',e4,pl,w2,el]
  refine zeB (l:=r.stack.drop (r.stack.length-g.params.length)) (.inr ⟨q,by simp,by simpa using hq1,by simpa using hq2⟩) (by simp;omega) fun av σ2 hav A2 hfr=>?_
  have fo2:σ2.objs fo=some [.str r.fn.name,pv,lv,.int .i64 r.fn.type,tv,cv,.sl (.fam q false) 1 (r.stack.map (.int .i64)),.int .i64 r.result]:=by
   rw[A2.obj fo (by simp;omega)];simp[hfo];exact fo1
  have bo2:σ2.objs σ.no=some [.str g.name,gp,gl,.int .i64 g.type,gt]:=by rw[A2.obj σ.no (by simp)];simp
  simp[fo2,e1,e2,e3',e4,splice,bo2,p1,l1,t1,hfo']
  refine tail A2 hav (by simpa using hfr) (.inr ⟨q,by rw[←el2],by have:=A2.nf;simp at this;omega,by rw[A2.fam q (by simpa using hq1)];simpa using hq2⟩) (by simp[zV];exact hq1) (fun v x' σ' e hx' hbx hss=>?_) (fun s c x' σ' e ho=>?_)
  ·rw[e]at hR
   have hb2:B1 N x { r with stack:=r.stack.take (r.stack.length-g.params.length) }:=hb.stack (by simp)
   by_cases ht:g.type=0
   ·simp[ht]at hR
    simp[hbx,p1,l1,t1,ht]
    exact hR _ _ _ rfl rfl hx'
   ·simp[ht]at hR
    simp[hbx,p1,l1,t1,ht]
    refine zan hx' (by simp;omega) fun σ4 hx4=>?_
    simp
    exact hR _ _ _ rfl rfl hx4
  ·rw[e]at hO
   simp
   exact hO _ _ _ _ rfl ho
end
section
variable {G : Env} {fs : List F} {mm mn : Int} {σ0 σ : AS} {xo mo fo : Nat} {L T D : List Nat} {x : zao} {r : Fr} {R : Out → AS → Prop}
theorem zib{l:List AV}{n:Nat}{v:AV}(h:n<l.length):splice l n [v]=l.set n v:=by
 rw[List.set_eq_take_append_cons_drop,if_pos h];simp[splice]
theorem XF.setLoc{lo n:Nat}{v:Int}(h:XF fs mm mn σ0 xo mo fo [lo] T x r σ)(hn:n<r.locals.length):XF fs mm mn σ0 xo mo fo [lo] T x { r with locals:=r.locals.set n v } (σ.setO lo (splice (r.locals.map (.int .i64)) n [.int .i64 v])):=by
 obtain⟨ov,sv,hm,hr,hd⟩:=h
 obtain⟨pv,lv,tv,cv,ho,hpv,hlv,htv,hcv⟩:=hr.fr
 have hfl:fo≠lo:=by have:=hr.fl;simpa using this
 have hll:=hm.dl lo (by simp)
 have e:splice (r.locals.map (.int .i64)) n [.int .i64 v]=(r.locals.set n v).map (.int .i64):=by rw[zib (by simpa using hn),ydr]
 rw[e]
 rcases hcv with ⟨hL,_⟩|⟨lo',hL,rfl,hlo⟩
 ·cases hL
 cases hL
 obtain⟨fv,iv,a,b,c⟩:=hm.mach
 refine⟨ov,sv,⟨by simpa using hm.no,hm.nf,fun o h1 h2 h3 h4=>?_,hm.fam,hm.xl,hm.ml,hm.xm,fun o ho=>by simpa using hm.dl o ho,⟨fv,iv,by simp[Ne.symm hll.2.1];exact a,b,c⟩,hm.own.keep (by simp) fun _ _=>rfl,hm.ownT,by simp[Ne.symm hll.2.2];exact hm.mem⟩,⟨⟨pv,lv,tv,.slm lo 0 1 (r.locals.set n v).length,by simp[hfl];exact ho,hpv,hlv,htv,.inr ⟨lo,rfl,rfl,by simp⟩⟩,hr.fl,hr.own.keep (by simp) fun _ _=>rfl,hr.ownT⟩,hd⟩
 have:o≠lo:=fun e=>h4 (by simp[e])
 simp[this];exact hm.obj o h1 h2 h3 h4
theorem XF.setMem{m':List UInt8}(h:XF fs mm mn σ0 xo mo fo L T x r σ)(hl:m'.length=x.memory.length):XF fs mm mn σ0 xo mo fo L T { x with memory:=m' } r (σ.setO mo (m'.map fun b=>.int .u8 b.toNat)):=by
 obtain⟨ov,sv,hm,hr,hd⟩:=h
 obtain⟨pv,lv,tv,cv,ho,hpv,hlv,htv,hcv⟩:=hr.fr
 have hf:=hm.dl fo (by simp)
 obtain⟨fv,iv,a,b,c⟩:=hm.mach
 refine⟨ov,sv,⟨by simpa using hm.no,hm.nf,fun o h1 h2 h3 h4=>by simp[h3];exact hm.obj o h1 h2 h3 h4,hm.fam,hm.xl,hm.ml,hm.xm,fun o ho=>by simpa using hm.dl o ho,⟨fv,iv,by simp[hm.xm,hl];exact a,b,c⟩,hm.own.keep (by simp) fun _ _=>rfl,hm.ownT,by simp⟩,⟨⟨pv,lv,tv,cv,by simp[hf.2.2];exact ho,hpv,hlv,htv,hcv.keep fun o ho=>by simp[(hm.dl o (by simp[ho])).2.2]⟩,hr.fl,hr.own.keep (by simp) fun _ _=>rfl,hr.ownT⟩,hd⟩
theorem znt(mem:List UInt8)(at_:Nat)(v:Int):zcR mem at_ v 0=mem:=by simp[zcR]
theorem znu{mem:List UInt8}{at_ i:Nat}{v:Int}(h:at_+i<mem.length):zcR mem at_ v (i+1)=(zcR mem at_ v i).set (at_+i) (zrw v i):=by
 have hl:(mem.take at_++(List.range i).map (zrw v)).length=at_+i:=by simp;omega
 unfold zcR
 rw[List.set_append_right _ _ (by rw[hl];omega),hl,Nat.sub_self,List.range_succ,List.map_append,List.drop_eq_getElem_cons h]
 simp[Nat.add_assoc]
theorem znv(v:Int)(i:Nat):((zrw v i).toNat:Int)=ydg.wrap (v.fdiv (2^(8*i))):=by
 unfold zrw
 simp only[yb4,yap,yao]
 simp
 omega
def STI(fs:List F)(mm mn:Int)(S:AS)(xo mo fo:Nat)(L T:List Nat)(x:zao)(r:Fr)(at_ n:Nat)(v:Int)(a:Nat→AV)(τ:AS):Prop:=∃i:Nat,i≤n∧a 0=.ptr xo 0∧a 11=.int .i64 v∧a 12=.int .i64 (at_:Int)∧a 104=.int .i64 (n:Int)∧a 105=.int .i64 (i:Int)∧XF fs mm mn S xo mo fo L T { x with memory:=zcR x.memory at_ v i } r τ
theorem XF.memo(h:XF fs mm mn σ0 xo mo fo L T x r σ):σ.objs mo=some (x.memory.map fun b=>.int .u8 b.toNat):=by obtain⟨_,_,hm,_⟩:=h;exact hm.mem
set_option maxHeartbeats 2000000 in
theorem zmd(V:zkj G){N:Nat}{Dp:Int}{rec:zey}(hrec:zh9 G fs mm mn N Dp rec)(hbd:RBd N Dp rec)(hD0:0≤Dp)(hfs:zpK fs){w:W}(hnn:w.n≤2^63-1)(h:XF fs mm mn σ0 xo mo fo L T x r σ)(hb:B1 N x r)(hw:zab fs rec w x r≠.bad)
  (hR:∀x' r' σ',zab fs rec w x r=.ok () x' r'→XF fs mm mn σ0 xo mo fo L T x' r' σ'→R (.ret (.tuple [])) σ')
  (hO:∀s c x' σ',zab fs rec w x r=.over s c x'→XO fs mm mn σ0 xo mo (fo::L) T x' σ'→R (.panic (zh8 s c)) σ') :
  zzQ G 183 [.ptr xo 0,.ptr fo 0,w.av] σ R:=by
 refine ztA rfl ?_
 obtain⟨wop,wty,wn,wbody,wother,wname⟩:=w
 simp only at hnn
 have hN:=hb.bd.n
 have hst:r.stack.length≤2^40:=by have:=hb.bd.stack;omega
 have hlts:=h.lts
 have h1:XF fs mm mn σ0 xo mo fo L T x r (σ.newO [.int .i64 wop,.int .i64 wty,.int .i64 wn,.int .i64 wbody,.int .i64 wother,.str wname]):=h.adds (zh.refl σ).newO
 obtain⟨T',k1,k2,k3⟩:=h1.anchor
 have hfo:fo≠σ.no:=by have:=hlts.2.2.1;omega
 have hbo:∀{x1:zao} {r1:Fr} {σ':AS},XF fs mm mn (σ.newO [.int .i64 wop,.int .i64 wty,.int .i64 wn,.int .i64 wbody,.int .i64 wother,.str wname]) xo mo fo L T' x1 r1 σ'→σ'.objs σ.no=some [.int .i64 wop,.int .i64 wty,.int .i64 wn,.int .i64 wbody,.int .i64 wother,.str wname]:=fun {x1 r1 σ'} hx=>by
  rw[hx.other (o:=σ.no) (by simp) (by omega) (by omega) (by omega) (fun hh=>by have:=hlts.2.2.2 _ hh;omega)];simp
 -- what is popped
 have popped:∀{r1:Fr} {f:Int→Fr→Ev Unit},zbK r1 f≠.bad→∃v,r1.stack.getLast?=some v∧zbK r1 f=f v { r1 with stack:=r1.stack.dropLast }:=fun {r1 f} hh=>by
  have hne:r1.stack≠[]:=by rintro e;simp[zbK,e]at hh
  obtain⟨v,hv⟩:=zaH hne
  exact⟨v,hv,by simp[zbK,hv]⟩
 by_cases o1:wop=1
 ·subst o1
  simp[zab]at hR
  simp[zfN,W.av,W.cs,splice]
  refine zan k1 hst fun σ' hx'=>?_
  simp
  exact hR _ _ _ rfl rfl (k2 _ _ _ hx')
 by_cases o2:wop=2
 ·subst o2
  simp only[zab]at hR hw
  by_cases hn0:wn<0
  ·simp[hn0]at hw
  cases hloc:r.locals[wn.toNat]? with
  | none=>simp[hn0,hloc]at hw
  | some v =>
  simp[hn0,hloc]at hR
  obtain⟨hli,hle⟩:=yaq.1 hloc
  obtain⟨pv,lv,tv,cv,sv,fo1,e1,e2,e3,e4,e5,_,_,hcv,_⟩:=k1.cells
  rcases hcv with ⟨_,hl,_⟩|⟨lo,rfl,rfl,hlo⟩
  ·rw[hl]at hli;simp at hli
  ·have fo2:σ.objs fo=some [.str r.fn.name,pv,lv,.int .i64 r.fn.type,tv,.slm lo 0 1 r.locals.length,sv,.int .i64 r.result]:=by simpa [hfo]using fo1
   have hlo0:lo<σ.no:=hlts.2.2.2 lo (by simp)
   have hlo1:lo≠σ.no:=by omega
   have lo2:σ.objs lo=some (r.locals.map (.int .i64)):=by simpa [hlo1]using hlo
   simp[zfN,W.av,W.cs,splice,hfo,fo2,e1,e2,e3,e4,e5,hlo1,lo2,hloc]
   refine⟨by omega,by omega,zan k1 hst fun σ' hx'=>?_⟩
   simp
   exact hR _ _ _ rfl rfl (k2 _ _ _ hx')
 by_cases o3:wop=3
 ·subst o3
  simp only[zab]at hR hw
  by_cases hn0:wn<0∨(r.locals.length:Int)≤wn
  ·simp[hn0]at hw
  simp[hn0]at hR hw
  obtain⟨v,hv1,e1⟩:=popped hw
  rw[e1]at hR
  obtain⟨pv,lv,tv,cv,sv,fo1,e1,e2,e3,e4,e5,_,_,hcv,_⟩:=k1.cells
  rcases hcv with ⟨_,hl,_⟩|⟨lo,rfl,rfl,hlo⟩
  ·rw[hl]at hn0;simp at hn0;omega
  ·have fo2:σ.objs fo=some [.str r.fn.name,pv,lv,.int .i64 r.fn.type,tv,.slm lo 0 1 r.locals.length,sv,.int .i64 r.result]:=by simpa [hfo]using fo1
   simp[zfN,W.av,W.cs,splice,hfo,fo2,e1,e2,e3,e4,e5]
   refine zad k1 hst hv1 fun σ1 hx1=>?_
   have hb2:=hbo hx1
   obtain⟨pv',lv',tv',cv',sv',fo1',e1',e2',e3',e4',e5',_,_,hcv',_⟩:=hx1.cells
   rcases hcv' with ⟨hL,_⟩|⟨lo',hL,rfl,hlo'⟩
   ·cases hL
   ·cases hL
    have hni:wn.toNat<r.locals.length:=by omega
    simp[hb2,fo1',e1',e2',e3',e4',e5',hlo']
    refine⟨by omega,by omega,by omega,hR _ _ _ rfl (k2 _ _ _ (hx1.setLoc hni))⟩
 by_cases o4:wop=4
 ·subst o4
  simp only[zab]at hR hw hO
  simp at hR hw hO
  obtain⟨b,hv1,e1⟩:=popped hw
  rw[e1]at hR hw hO
  obtain⟨a,hv2,e2⟩:=popped hw
  rw[e2]at hR hw hO
  have d1:=zP hv1
  have d2:=zP hv2
  simp only at hR hw hO d2
  simp[zfN,W.av,W.cs,splice]
  refine zad k1 hst hv1 fun σ1 hx1=>?_
  simp
  refine zad hx1 (by simp;omega) hv2 fun σ2 hx2=>?_
  have hb2:=hbo hx2
  simp[hb2]
  refine ziZ V fun σ3 A3=>?_
  have hx3:=hx2.adds A3
  have hb3:=hbo hx3
  simp[hb3]
  refine zry ?_
  simp
  refine zcS (fun h0=>?_) (fun h0=>?_)
  ·rw[if_pos h0]at hR
   simp
   refine zan hx3 (by simp;omega) fun σ4 hx4=>?_
   simp
   exact hR _ _ _ rfl (k2 _ _ _ hx4)
  ·rw[if_neg h0]at hO
   simp
   exact hO _ _ _ _ rfl (k3 _ _ hx3.stop)
 by_cases o5:wop=5
 ·subst o5
  simp only[zab]at hR hw
  simp at hR hw
  obtain⟨b,hv1,e1⟩:=popped hw
  rw[e1]at hR hw
  have d1:=zP hv1
  simp[zfN,W.av,W.cs,splice]
  refine zad k1 hst hv1 fun σ1 hx1=>?_
  by_cases hb0:b=0
  ·simp[hb0]at hR
   simp[hb0,splice]
   refine zan hx1 (by simp;omega) fun σ2 hx2=>?_
   simp
   exact hR _ _ _ rfl rfl (k2 _ _ _ hx2)
  ·simp[hb0]at hR
   simp[hb0,splice]
   refine zan hx1 (by simp;omega) fun σ2 hx2=>?_
   simp
   exact hR _ _ _ rfl rfl (k2 _ _ _ hx2)
 by_cases o6:wop=6
 ·subst o6
  simp only[zab]at hR hw
  simp at hR hw
  obtain⟨b,hv1,e1⟩:=popped hw
  rw[e1]at hR hw
  have d1:=zP hv1
  simp[zfN,W.av,W.cs,splice]
  refine zad k1 hst hv1 fun σ1 hx1=>?_
  simp
  refine ziY ?_
  simp
  refine zan hx1 (by simp;omega) fun σ2 hx2=>?_
  simp
  refine hR _ _ _ rfl (k2 _ _ _ ?_)
  simpa [Fr.push,zue]using hx2
 by_cases o8:wop=8
 ·subst o8
  simp only[zab]at hR hw hO
  simp at hR hw hO
  obtain⟨a,hv1,e1⟩:=popped hw
  rw[e1]at hR hw hO
  have d1:=zP hv1
  unfold zh5 at hR hw hO
  by_cases hn8:wn<1∨8<wn
  ·rw[if_pos hn8]at hw;exact absurd rfl hw
  rw[if_neg hn8]at hR hw hO
  simp[zfN,W.av,W.cs,splice]
  refine zad k1 hst hv1 fun σ1 hx1=>?_
  have hb2:=hbo hx1
  simp[hb2]
  have hml:=hb.bd.mem
  refine zjm hx1 (by omega) (by omega) (fun hh=>?_) (fun hh=>?_)
  ·rw[if_pos hh]at hO
   simp
   exact hO _ _ _ _ rfl (k3 _ _ hx1.stop)
  ·rw[if_neg hh]at hR
   simp
   refine zpw hx1.memo (by omega) (by omega) (by omega) ?_
   simp
   refine zan hx1 (by simp;omega) fun σ2 hx2=>?_
   simp
   exact hR _ _ _ rfl (k2 _ _ _ hx2)
 by_cases o9:wop=9
 ·subst o9
  simp only[zab]at hR hw hO
  simp at hR hw hO
  obtain⟨v,hv1,e1⟩:=popped hw
  rw[e1]at hR hw hO
  obtain⟨a,hv2,e2⟩:=popped hw
  rw[e2]at hR hw hO
  have d1:=zP hv1
  have d2:=zP hv2
  simp only at d2
  unfold zh5 at hR hw hO
  by_cases hn8:wn<1∨8<wn
  ·rw[if_pos hn8]at hw;exact absurd rfl hw
  rw[if_neg hn8]at hR hw hO
  simp[zfN,W.av,W.cs,splice]
  refine zad k1 hst hv1 fun σ1 hx1=>?_
  simp
  refine zad hx1 (by simp;omega) hv2 fun σ2 hx2=>?_
  have hb2:=hbo hx2
  simp[hb2]
  have hml:=hb.bd.mem
  refine zjm hx2 (by omega) (by omega) (fun hh=>?_) (fun hh=>?_)
  ·rw[if_pos hh]at hO
   simp
   exact hO _ _ _ _ rfl (k3 _ _ hx2.stop)
  ·rw[if_neg hh]at hR
   obtain⟨n,hn⟩:=ydn (show 0≤wn by omega)
   obtain⟨p,hp⟩:=ydn (show 0≤a by omega)
   subst hn hp
   have hll:((x.memory.drop p).take n).length=n:=by simp;omega
   simp only[ybe]at hR
   rw[hll]at hR
   simp
   refine zas (STI fs mm mn (σ.newO [.int .i64 9,.int .i64 wty,.int .i64 (n:Int),.int .i64 wbody,.int .i64 wother,.str wname]) xo mo fo L T' x { r with stack:=r.stack.dropLast.dropLast } p n v) (MU 105 (n+1)) ⟨0,by omega,by simp,by simp,by simp,by simp,by simp,by rw[znt];exact hx2⟩ fun b τ hI=>?_
   obtain⟨i,hi,b0,b11,b12,b104,b105,hx⟩:=hI
   by_cases hlt:i<n
   ·have hwl:(zcR x.memory p v i).length=x.memory.length:=zdb (by omega)
    obtain⟨gfv,giv,gov,go1,g1,g2,g3,_,_,_,gne,_⟩:=hx.xcells
    have hmm:=hx.memo
    simp only at go1 hmm
    have u1:yb4 .i64 ((p:Int)+(i:Int))=((p+i:Nat):Int):=by rw[zc]<;>omega
    have u2:yb4 .i64 (8*(i:Int))=8*(i:Int):=by rw[zc]<;>omega
    have u3:yb4 .i64 ((i:Int)+1)=((i+1:Nat):Int):=by rw[zc]<;>omega
    have u4:min (8*(i:Int)).toNat yam.bits=8*i:=by simp[yap];omega
    simp[zkb,b0,b11,b12,b104,b105,hlt,go1,g1,g2,g3,u1,u2,u3,u4,hmm,hwl]
    have hpi:((p:Int)+(i:Int)).toNat=p+i:=by omega
    have hm2:=hx.setMem (m':=zcR x.memory p v (i+1)) (by rw[zdb (by omega)];exact hwl.symm)
    have es:splice ((zcR x.memory p v i).map fun b=>yco .u8 b.toNat) (p+i) [.int .u8 (ydg.wrap (v.fdiv (2^(8*i))))]=(zcR x.memory p v (i+1)).map fun b=>.int .u8 b.toNat:=by
     rw[zib (by simp[hwl];omega),znu (by omega),ydr,znv]
    refine⟨by omega,by omega,by omega,by omega,⟨i+1,by omega,by simp[b0],by simp[b11],by simp[b12],by simp[b104],by simp,?_⟩,?_⟩
    ·rw[hpi,es];exact hm2
    ·simp only[MU,b105];simp;omega
   ·have e:i=n:=by omega
    subst e
    simp[zkb,b0,b11,b12,b104,b105]
    exact hR _ _ _ rfl (k2 _ _ _ hx)
 by_cases o10:wop=10
 ·subst o10
  simp only[zab]at hR hw hO
  simp at hR hw hO
  simp[zfN,W.av,W.cs,splice]
  refine zkH hrec hbd hD0 hfs hnn k1 hb hw (fun x' r' σ' e hx'=>?_) (fun s c x' σ' e ho=>?_)
  ·simp
   exact hR _ _ _ e (k2 _ _ _ hx')
  ·simp
   exact hO _ _ _ _ e (k3 _ _ ho)
 by_cases o17:wop=17
 ·subst o17
  simp only[zab]at hO
  simp at hO
  simp[zfN,W.av,W.cs,splice]
  refine zcS (fun h0=>by omega) (fun h0=>?_)
  simp
  exact hO _ _ _ _ rfl rfl rfl h1.stop
 by_cases o18:wop=18
 ·subst o18
  simp only[zab]at hR hw
  simp at hR hw
  obtain⟨b,hv1,e1⟩:=popped hw
  rw[e1]at hR hw
  simp[zfN,W.av,W.cs,splice]
  refine zad k1 hst hv1 fun σ1 hx1=>?_
  simp
  exact hR _ _ _ rfl (k2 _ _ _ hx1)
 simp[zab,o1,o2,o3,o4,o5,o6,o8,o9,o10,o17,o18]at hR
 simp[zfN,W.av,W.cs,splice,o1,o2,o3,o4,o5,o6,o8,o9,o10,o17,o18]
 exact hR _ _ _ rfl rfl h1
end
section
variable {G : Env} {fs : List F} {mm mn : Int} {σ0 σ : AS} {xo mo fo : Nat} {L T D : List Nat} {x : zao} {r : Fr} {R : Out → AS → Prop}
set_option maxHeartbeats 2000000 in
theorem zic(V:zkj G){N:Nat}{Dp:Int}{rec:zey}(hrec:zh9 G fs mm mn N Dp rec)(hbd:RBd N Dp rec)(hD0:0≤Dp)(hD2:Dp≤2^62)(hfs:zpK fs){k:Nat}{deep:Int}(h0:0≤deep)(hd:deep+1≤Dp){height:Nat}{rv:AV}{all:List W}(hrv:zo4 rv all)(hall:all.length≤2^38)(hnum:∀w∈all,w.n≤2^63-1):
  ∀(ws:List W) (pre:List W),all=pre++ws→∀{x1:zao} {r1:Fr} {τ:AS} {a:Nat→AV},XF fs mm mn σ0 xo mo fo L T x1 r1 τ→Bd N x1 r1→zam fs rec k deep height ws x1 r1≠.bad →
   a 0=.ptr xo 0→a 1=.ptr fo 0→a 3=.int .i64 deep→a 9=.int .i64 (height:Int)→a 25=rv→a 26=.int .i64 (all.length:Int)→a 27=.int .i64 (pre.length:Int) →
   (∀o x' r' σ',zam fs rec k deep height ws x1 r1=.ok o x' r'→XF fs mm mn σ0 xo mo fo L T x' r' σ'→R (.ret (.int .i64 o)) σ') →
   (∀s c x' σ',zam fs rec k deep height ws x1 r1=.over s c x'→XO fs mm mn σ0 xo mo (fo::L) T x' σ'→R (.panic (zh8 s c)) σ') →
   zcz yb9 G 82 zaW (za2 0 (zbd (avc yb9 G 82 zgL (ze9 yb9 [ResultVar.tmp 8] R)) (ze9 yb9 [ResultVar.tmp 8] R))) (ws.length+1) a τ
 | [],pre,hall2,x1,r1,τ,a,hx,hb,hw,a0,a1,a3,a9,a25,a26,a27,hR,hO=>by
  have hl:all.length=pre.length:=by rw[hall2];simp
  simp[zaW,zgL,a0,a1,a3,a9,a25,a26,a27,hl]
  exact hR _ _ _ _ rfl hx
 | w::ws,pre,hall2,x1,r1,τ,a,hx,hb,hw,a0,a1,a3,a9,a25,a26,a27,hR,hO=>by
  obtain⟨wop,wty,wn,wbody,wother,wname⟩:=w
  have hl:pre.length<all.length:=by rw[hall2];simp
  have hget:all[pre.length]=(⟨wop,wty,wn,wbody,wother,wname⟩:W):=by simp[hall2]
  obtain⟨b,hix⟩:=hrv.at hl
  rw[hget]at hix
  have hwn:=hnum (⟨wop,wty,wn,wbody,wother,wname⟩:W) (by rw[hall2];simp)
  obtain⟨gfv,giv,gov,go1,g1,g2,g3,hgf,hgi,hgo,gne,_⟩:=hx.xcells
  have hlts:=hx.lts
  have hxo:xo≠τ.no:=by omega
  simp only[zam]at hw hR hO
  have hxo':τ.no≠xo:=by omega
  have A:zh τ ((τ.newO [.int .i64 0,.int .i64 0,.int .i64 0,.int .i64 0,.int .i64 0,.str []]).setO τ.no [.int .i64 wop,.int .i64 wty,.int .i64 wn,.int .i64 wbody,.int .i64 wother,.str wname]):=(zh.refl τ).newO.setO (yah _)
  have wst:yb4 .i64 (x1.steps-1)=x1.steps-1∨x1.steps<1:=by
   by_cases h:x1.steps<1
   ·exact .inr h
   ·left;have:=hb.stack;have:=hb.n;rw[zc]<;>omega
  by_cases hs:x1.steps<1
  ·simp[hs]at hO
   simp[zaW,a0,a1,a3,a9,a25,a26,a27,hl,hix,W.av,W.cs,splice,hxo,go1,g1,g2,g3,hs]
   exact hO _ _ _ _ rfl rfl rfl (hx.adds A).stop
  ·have w1:yb4 .i64 (x1.steps-1)=x1.steps-1:=by rcases wst with h|h;exact h;exact absurd h hs
   rw[if_neg hs]at hw hR hO
   have hb1:=hb.one (by omega)
   have hx2:XF fs mm mn σ0 xo mo fo L T { x1 with steps:=x1.steps-1 } r1 (((τ.newO [.int .i64 0,.int .i64 0,.int .i64 0,.int .i64 0,.int .i64 0,.str []]).setO τ.no [.int .i64 wop,.int .i64 wty,.int .i64 wn,.int .i64 wbody,.int .i64 wother,.str wname]).setO xo [gfv,.int .i64 mm,.int .i64 mn,giv,.int .i64 (x1.steps-1),.slm mo 0 1 x1.memory.length,gov,.int .i64 x1.calls]) :=
    (hx.adds A).setX (σ1:=(τ.newO [.int .i64 0,.int .i64 0,.int .i64 0,.int .i64 0,.int .i64 0,.str []]).setO τ.no [.int .i64 wop,.int .i64 wty,.int .i64 wn,.int .i64 wbody,.int .i64 wother,.str wname]) (by simp[hxo];exact go1) rfl rfl (yah _) (fun _ _ _=>rfl) hgi (hgo.keep A.nf fun g hg=>rfl) fun k hk=>.inl hk
   -- behind the instruction
   have w3:yb4 .i64 ((pre.length:Int)+1)=((pre.length+1:Nat):Int):=by rw[zc]<;>omega
   have w4:yb4 .i64 (deep+1)=deep+1:=by rw[zc]<;>omega
   have fin:∀{o:Int} {x2:zao} {r2:Fr} {σ2:AS} {b:Nat→AV},zbR fs rec k deep (⟨wop,wty,wn,wbody,wother,wname⟩:W) { x1 with steps:=x1.steps-1 } r1=.ok o x2 r2→XF fs mm mn σ0 xo mo fo L T x2 r2 σ2→o=-1→b 0=.ptr xo 0→b 1=.ptr fo 0→b 3=.int .i64 deep→b 9=.int .i64 (height:Int)→b 25=rv→b 26=.int .i64 (all.length:Int)→b 27=.int .i64 ((pre.length+1:Nat):Int) →
     zcz yb9 G 82 zaW (za2 0 (zbd (avc yb9 G 82 zgL (ze9 yb9 [ResultVar.tmp 8] R)) (ze9 yb9 [ResultVar.tmp 8] R))) (ws.length+1) b σ2:=by
    intro o x2 r2 σ2 b e hx3 ho b0 b1 b3 b9 b25 b26 b27
    rw[e]at hw hR hO
    simp only[ho,if_true]at hw hR hO
    have hbd2:=(zrB hbd hfs hD0 hD2 hwn hd hb1 e).1.bd
    exact zic V hrec hbd hD0 hD2 hfs h0 hd hrv hall hnum ws (pre++[(⟨wop,wty,wn,wbody,wother,wname⟩:W)]) (by rw[hall2];simp) hx3 hbd2 hw b0 b1 b3 b9 b25 b26 (by rw[b27];simp) hR hO
   by_cases hA:wop=11∨wop=12∨wop=13
   ·have hex:zbR fs rec k deep (⟨wop,wty,wn,wbody,wother,wname⟩:W) { x1 with steps:=x1.steps-1 } r1=zaz rec k (⟨wop,wty,wn,wbody,wother,wname⟩:W) (deep+1) { x1 with steps:=x1.steps-1 } r1:=by unfold zbR;rw[if_pos hA]
    have hne:zaz rec k (⟨wop,wty,wn,wbody,wother,wname⟩:W) (deep+1) { x1 with steps:=x1.steps-1 } r1≠.bad:=fun e=>by rw[hex,e]at hw;exact hw rfl
    rcases hA with hop|hop|hop
    ·subst hop
     simp[zaW,a0,a1,a3,a9,a25,a26,a27,hl,hix,W.av,W.cs,splice,hxo,hxo',go1,g1,g2,g3,hs,w1,w4]
     refine zdX (w:=⟨11,wty,wn,wbody,wother,wname⟩) hrec hbd hx2 hb1.bd (by omega) hd hne (fun o x2 r2 σ2 e hx3=>?_) (fun s c x2 σ2 e ho=>?_)
     ·by_cases ho:o=-1
      ·simp[-zr,ho,a0,a1,a3,a9,a25,a26,a27,w3]
       refine fin (hex.trans e) hx3 ho ?_ ?_ ?_ ?_ ?_ ?_ ?_<;>simp[a0,a1,a3,a9,a25,a26]
      ·rw[hex,e]at hw hR
       simp only[if_neg ho]at hw hR
       by_cases hh:r2.stack.length<height
       ·rw[if_pos hh]at hw;exact absurd rfl hw
       rw[if_neg hh]at hR
       obtain⟨pv,lv,tv,cv,sv,fo1,e1,e2,e3,e4,e5,hsv,_,_,_⟩:=hx3.cells
       rcases hsv with ⟨hs0,rfl⟩|⟨q,rfl,q1,q2⟩
       ·have hh0:height=0:=by rw[hs0]at hh;simp at hh;exact hh
        subst hh0
        simp[-zr,ho,a0,a1,a3,a9,a25,a26,a27,fo1,e1,e2,e3,e4,splice]
        exact hR _ _ _ _ rfl (hx3.setFr (σ1:=σ2) (st':=r2.stack.take 0) (res':=r2.result) fo1 rfl rfl (yah _) (fun _ _ _=>rfl) (.inl ⟨by simp,rfl⟩) fun k hk=>.inl hk)
       ·simp[-zr,ho,a0,a1,a3,a9,a25,a26,a27,fo1,e1,e2,e3,e4,splice]
        refine⟨by omega,hR _ _ _ _ rfl (hx3.setFr (σ1:=σ2) (st':=r2.stack.take height) (res':=r2.result) fo1 rfl rfl (yah _) (fun _ _ _=>rfl) (.inr ⟨q,by rw[ydm],q1,q2⟩) fun k hk=>.inl hk)⟩
     ·rw[hex,e]at hO
      simp
      exact hO _ _ _ _ rfl ho
    ·subst hop
     simp[zaW,a0,a1,a3,a9,a25,a26,a27,hl,hix,W.av,W.cs,splice,hxo,hxo',go1,g1,g2,g3,hs,w1,w4]
     refine zdX (w:=⟨12,wty,wn,wbody,wother,wname⟩) hrec hbd hx2 hb1.bd (by omega) hd hne (fun o x2 r2 σ2 e hx3=>?_) (fun s c x2 σ2 e ho=>?_)
     ·by_cases ho:o=-1
      ·simp[-zr,ho,a0,a1,a3,a9,a25,a26,a27,w3]
       refine fin (hex.trans e) hx3 ho ?_ ?_ ?_ ?_ ?_ ?_ ?_<;>simp[a0,a1,a3,a9,a25,a26]
      ·rw[hex,e]at hw hR
       simp only[if_neg ho]at hw hR
       by_cases hh:r2.stack.length<height
       ·rw[if_pos hh]at hw;exact absurd rfl hw
       rw[if_neg hh]at hR
       obtain⟨pv,lv,tv,cv,sv,fo1,e1,e2,e3,e4,e5,hsv,_,_,_⟩:=hx3.cells
       rcases hsv with ⟨hs0,rfl⟩|⟨q,rfl,q1,q2⟩
       ·have hh0:height=0:=by rw[hs0]at hh;simp at hh;exact hh
        subst hh0
        simp[-zr,ho,a0,a1,a3,a9,a25,a26,a27,fo1,e1,e2,e3,e4,splice]
        exact hR _ _ _ _ rfl (hx3.setFr (σ1:=σ2) (st':=r2.stack.take 0) (res':=r2.result) fo1 rfl rfl (yah _) (fun _ _ _=>rfl) (.inl ⟨by simp,rfl⟩) fun k hk=>.inl hk)
       ·simp[-zr,ho,a0,a1,a3,a9,a25,a26,a27,fo1,e1,e2,e3,e4,splice]
        refine⟨by omega,hR _ _ _ _ rfl (hx3.setFr (σ1:=σ2) (st':=r2.stack.take height) (res':=r2.result) fo1 rfl rfl (yah _) (fun _ _ _=>rfl) (.inr ⟨q,by rw[ydm],q1,q2⟩) fun k hk=>.inl hk)⟩
     ·rw[hex,e]at hO
      simp
      exact hO _ _ _ _ rfl ho
    ·subst hop
     simp[zaW,a0,a1,a3,a9,a25,a26,a27,hl,hix,W.av,W.cs,splice,hxo,hxo',go1,g1,g2,g3,hs,w1,w4]
     refine zdX (w:=⟨13,wty,wn,wbody,wother,wname⟩) hrec hbd hx2 hb1.bd (by omega) hd hne (fun o x2 r2 σ2 e hx3=>?_) (fun s c x2 σ2 e ho=>?_)
     ·by_cases ho:o=-1
      ·simp[-zr,ho,a0,a1,a3,a9,a25,a26,a27,w3]
       refine fin (hex.trans e) hx3 ho ?_ ?_ ?_ ?_ ?_ ?_ ?_<;>simp[a0,a1,a3,a9,a25,a26]
      ·rw[hex,e]at hw hR
       simp only[if_neg ho]at hw hR
       by_cases hh:r2.stack.length<height
       ·rw[if_pos hh]at hw;exact absurd rfl hw
       rw[if_neg hh]at hR
       obtain⟨pv,lv,tv,cv,sv,fo1,e1,e2,e3,e4,e5,hsv,_,_,_⟩:=hx3.cells
       rcases hsv with ⟨hs0,rfl⟩|⟨q,rfl,q1,q2⟩
       ·have hh0:height=0:=by rw[hs0]at hh;simp at hh;exact hh
        subst hh0
        simp[-zr,ho,a0,a1,a3,a9,a25,a26,a27,fo1,e1,e2,e3,e4,splice]
        exact hR _ _ _ _ rfl (hx3.setFr (σ1:=σ2) (st':=r2.stack.take 0) (res':=r2.result) fo1 rfl rfl (yah _) (fun _ _ _=>rfl) (.inl ⟨by simp,rfl⟩) fun k hk=>.inl hk)
       ·simp[-zr,ho,a0,a1,a3,a9,a25,a26,a27,fo1,e1,e2,e3,e4,splice]
        refine⟨by omega,hR _ _ _ _ rfl (hx3.setFr (σ1:=σ2) (st':=r2.stack.take height) (res':=r2.result) fo1 rfl rfl (yah _) (fun _ _ _=>rfl) (.inr ⟨q,by rw[ydm],q1,q2⟩) fun k hk=>.inl hk)⟩
     ·rw[hex,e]at hO
      simp
      exact hO _ _ _ _ rfl ho
   ·by_cases hB:wop=14∨wop=15∨wop=16
    ·have hex:zbR fs rec k deep (⟨wop,wty,wn,wbody,wother,wname⟩:W) { x1 with steps:=x1.steps-1 } r1=zgE (⟨wop,wty,wn,wbody,wother,wname⟩:W) deep { x1 with steps:=x1.steps-1 } r1:=by unfold zbR;rw[if_neg hA,if_pos hB]
     have hne:zgE (⟨wop,wty,wn,wbody,wother,wname⟩:W) deep { x1 with steps:=x1.steps-1 } r1≠.bad:=fun e=>by rw[hex,e]at hw;exact hw rfl
     rcases hB with hop|hop|hop
     ·subst hop
      simp[zaW,a0,a1,a3,a9,a25,a26,a27,hl,hix,W.av,W.cs,splice,hxo,hxo',go1,g1,g2,g3,hs,w1,w4]
      refine zia (w:=⟨14,wty,wn,wbody,wother,wname⟩) hx2 hb1.bd hne (fun o x2 r2 σ2 e hx3=>?_)
      by_cases ho:o=-1
      ·simp[-zr,ho,a0,a1,a3,a9,a25,a26,a27,w3]
       refine fin (hex.trans e) hx3 ho ?_ ?_ ?_ ?_ ?_ ?_ ?_<;>simp[a0,a1,a3,a9,a25,a26]
      ·rw[hex,e]at hw hR
       simp only[if_neg ho]at hw hR
       by_cases hh:r2.stack.length<height
       ·rw[if_pos hh]at hw;exact absurd rfl hw
       rw[if_neg hh]at hR
       obtain⟨pv,lv,tv,cv,sv,fo1,e1,e2,e3,e4,e5,hsv,_,_,_⟩:=hx3.cells
       rcases hsv with ⟨hs0,rfl⟩|⟨q,rfl,q1,q2⟩
       ·have hh0:height=0:=by rw[hs0]at hh;simp at hh;exact hh
        subst hh0
        simp[-zr,ho,a0,a1,a3,a9,a25,a26,a27,fo1,e1,e2,e3,e4,splice]
        exact hR _ _ _ _ rfl (hx3.setFr (σ1:=σ2) (st':=r2.stack.take 0) (res':=r2.result) fo1 rfl rfl (yah _) (fun _ _ _=>rfl) (.inl ⟨by simp,rfl⟩) fun k hk=>.inl hk)
       ·simp[-zr,ho,a0,a1,a3,a9,a25,a26,a27,fo1,e1,e2,e3,e4,splice]
        refine⟨by omega,hR _ _ _ _ rfl (hx3.setFr (σ1:=σ2) (st':=r2.stack.take height) (res':=r2.result) fo1 rfl rfl (yah _) (fun _ _ _=>rfl) (.inr ⟨q,by rw[ydm],q1,q2⟩) fun k hk=>.inl hk)⟩
     ·subst hop
      simp[zaW,a0,a1,a3,a9,a25,a26,a27,hl,hix,W.av,W.cs,splice,hxo,hxo',go1,g1,g2,g3,hs,w1,w4]
      refine zia (w:=⟨15,wty,wn,wbody,wother,wname⟩) hx2 hb1.bd hne (fun o x2 r2 σ2 e hx3=>?_)
      by_cases ho:o=-1
      ·simp[-zr,ho,a0,a1,a3,a9,a25,a26,a27,w3]
       refine fin (hex.trans e) hx3 ho ?_ ?_ ?_ ?_ ?_ ?_ ?_<;>simp[a0,a1,a3,a9,a25,a26]
      ·rw[hex,e]at hw hR
       simp only[if_neg ho]at hw hR
       by_cases hh:r2.stack.length<height
       ·rw[if_pos hh]at hw;exact absurd rfl hw
       rw[if_neg hh]at hR
       obtain⟨pv,lv,tv,cv,sv,fo1,e1,e2,e3,e4,e5,hsv,_,_,_⟩:=hx3.cells
       rcases hsv with ⟨hs0,rfl⟩|⟨q,rfl,q1,q2⟩
       ·have hh0:height=0:=by rw[hs0]at hh;simp at hh;exact hh
        subst hh0
        simp[-zr,ho,a0,a1,a3,a9,a25,a26,a27,fo1,e1,e2,e3,e4,splice]
        exact hR _ _ _ _ rfl (hx3.setFr (σ1:=σ2) (st':=r2.stack.take 0) (res':=r2.result) fo1 rfl rfl (yah _) (fun _ _ _=>rfl) (.inl ⟨by simp,rfl⟩) fun k hk=>.inl hk)
       ·simp[-zr,ho,a0,a1,a3,a9,a25,a26,a27,fo1,e1,e2,e3,e4,splice]
        refine⟨by omega,hR _ _ _ _ rfl (hx3.setFr (σ1:=σ2) (st':=r2.stack.take height) (res':=r2.result) fo1 rfl rfl (yah _) (fun _ _ _=>rfl) (.inr ⟨q,by rw[ydm],q1,q2⟩) fun k hk=>.inl hk)⟩
     ·subst hop
      simp[zaW,a0,a1,a3,a9,a25,a26,a27,hl,hix,W.av,W.cs,splice,hxo,hxo',go1,g1,g2,g3,hs,w1,w4]
      refine zia (w:=⟨16,wty,wn,wbody,wother,wname⟩) hx2 hb1.bd hne (fun o x2 r2 σ2 e hx3=>?_)
      by_cases ho:o=-1
      ·simp[-zr,ho,a0,a1,a3,a9,a25,a26,a27,w3]
       refine fin (hex.trans e) hx3 ho ?_ ?_ ?_ ?_ ?_ ?_ ?_<;>simp[a0,a1,a3,a9,a25,a26]
      ·rw[hex,e]at hw hR
       simp only[if_neg ho]at hw hR
       by_cases hh:r2.stack.length<height
       ·rw[if_pos hh]at hw;exact absurd rfl hw
       rw[if_neg hh]at hR
       obtain⟨pv,lv,tv,cv,sv,fo1,e1,e2,e3,e4,e5,hsv,_,_,_⟩:=hx3.cells
       rcases hsv with ⟨hs0,rfl⟩|⟨q,rfl,q1,q2⟩
       ·have hh0:height=0:=by rw[hs0]at hh;simp at hh;exact hh
        subst hh0
        simp[-zr,ho,a0,a1,a3,a9,a25,a26,a27,fo1,e1,e2,e3,e4,splice]
        exact hR _ _ _ _ rfl (hx3.setFr (σ1:=σ2) (st':=r2.stack.take 0) (res':=r2.result) fo1 rfl rfl (yah _) (fun _ _ _=>rfl) (.inl ⟨by simp,rfl⟩) fun k hk=>.inl hk)
       ·simp[-zr,ho,a0,a1,a3,a9,a25,a26,a27,fo1,e1,e2,e3,e4,splice]
        refine⟨by omega,hR _ _ _ _ rfl (hx3.setFr (σ1:=σ2) (st':=r2.stack.take height) (res':=r2.result) fo1 rfl rfl (yah _) (fun _ _ _=>rfl) (.inr ⟨q,by rw[ydm],q1,q2⟩) fun k hk=>.inl hk)⟩
    ·have n1:wop≠11∧wop≠12∧wop≠13:=by simpa using hA
     have n2:wop≠14∧wop≠15∧wop≠16:=by simpa using hB
     have hne:zab fs rec (⟨wop,wty,wn,wbody,wother,wname⟩:W) { x1 with steps:=x1.steps-1 } r1≠.bad:=fun e=>by
      unfold zbR at hw;rw[if_neg hA,if_neg hB,e]at hw;exact hw rfl
     simp[zaW,a0,a1,a3,a9,a25,a26,a27,hl,hix,W.av,W.cs,splice,hxo,hxo',go1,g1,g2,g3,hs,w1,w4,n1,n2]
     refine zmd (w:=⟨wop,wty,wn,wbody,wother,wname⟩) V hrec hbd hD0 hfs hwn hx2 hb1 hne (fun x2 r2 σ2 e hx3=>?_) (fun s c x2 σ2 e ho=>?_)
     ·simp[-zr,a0,a1,a3,a9,a25,a26,a27,w3]
      refine fin (o:=-1) (by unfold zbR;rw[if_neg hA,if_neg hB,e]) hx3 rfl ?_ ?_ ?_ ?_ ?_ ?_ ?_<;>simp[a0,a1,a3,a9,a25,a26]
     ·have e2:zbR fs rec k deep (⟨wop,wty,wn,wbody,wother,wname⟩:W) { x1 with steps:=x1.steps-1 } r1=.over s c x2:=by unfold zbR;rw[if_neg hA,if_neg hB,e]
      rw[e2]at hO
      simp
      exact hO _ _ _ _ rfl ho
end
theorem zoA{G:Env}(V:zkj G){fs:List F}(hfs:zpK fs){mm mn:Int}{N:Nat}:∀(k:Nat) (D:Int),0≤D→D+k≤2^62→zh9 G fs mm mn N D (zkE fs k)
 | 0,D,_,_=>by
  intro h hb h0 hd hw
  exact absurd rfl hw
 | k+1,D,hD,hDk=>by
  rename_i σ0 σ xo mo fo L T x r at_ deep R
  intro h hb h0 hd hw hR hO
  refine ztd rfl ?_
  simp only[zkE]at hw hR hO
  by_cases ha:at_<0
  ·rw[if_pos ha]at hw;exact absurd rfl hw
  rw[if_neg ha]at hw hR hO
  cases hws:r.fn.lists[at_.toNat]? with
  | none=>rw[hws]at hw;exact absurd rfl hw
  | some ws =>
  rw[hws]at hw hR hO
  simp only at hw hR hO
  obtain⟨hi,hie⟩:=yaq.1 hws
  obtain⟨pv,lv,tv,cv,sv,fo1,e1,e2,e3,e4,e5,hsv,htv,_,_⟩:=h.cells
  obtain⟨b,rv,hrv,hix⟩:=htv.at hi
  rw[hie]at hrv
  have ea:((at_.toNat:Nat):Int)=at_:=by omega
  rw[ea]at hix
  have sl:=hsv.len
  have rl:=hrv.len
  have r1:=hrv.one
  have hmem:=ycs hws
  simp[zB1,fo1,e1,e2,e3,e4,e5,sl,hix,rl,r1]
  refine za5 (ws.length+1) ?_
  refine zic V (zoA V hfs k (D+1) (by omega) (by push_cast at hDk;omega)) (zns hfs k (D+1) (by omega) (by push_cast at hDk;omega)) (by omega) (by push_cast at hDk;omega) hfs h0 (by omega) hrv (hb.fn.rows _ hmem) (hb.fn.nums _ hmem) ws [] rfl h hb hw ?_ ?_ ?_ ?_ ?_ ?_ ?_ hR hO<;>simp
section
variable {fs : List F} {rec rec' : zey} {d : Int}
end
theorem zgr{m:M}(h:zaB m=.ok ()):0≤m.memory∧m.memory≤4096:=by
 unfold zaB at h
 split at h
 ·cases h
 ·rename_i q
  simpa using q
theorem zjp{m:M}(h:zaB m=.ok ()):0≤m.main∧∃g,m.funcs[m.main.toNat]?=some g∧g.type=1∧g.params.length=0:=by
 have hm:zff m=true:=by
  unfold zaB at h
  split at h
  ·cases h
  ·split at h
   ·cases h
   ·split at h
    ·assumption
    ·cases h
 unfold zff at hm
 simp only[Bool.and_eq_true,decide_eq_true_eq]at hm
 obtain⟨h0,h1⟩:=hm
 refine⟨h0,?_⟩
 cases hg:m.funcs[m.main.toNat]? with
 | none=>rw[hg]at h1;cases h1
 | some g =>
  rw[hg]at h1
  simp only[Bool.and_eq_true,decide_eq_true_eq]at h1
  exact⟨g,rfl,h1.1,h1.2⟩
theorem zoB(n:Nat)(k:IntKind)(v:Int):zy (yaj n (yco k v))=yaj n (yco k v):=by
 induction n with
 | zero=>rfl
 | succ n ih=>simp only[ycy,zy,yaa]at ih ⊢;rw[ih];rfl
theorem znw{G:Env}{n:Int}(h0:0≤n)(h1:n≤4096){σ:AS}{K:AV→AS→Prop}:zmx yb9 32 (.int .i64 n) (.int .i64 n) σ K=K (.slm σ.no 0 1 n.toNat) (σ.newO (yaj n.toNat (.int .u8 0))):=by
 refine propext ⟨fun h=>?_,fun h=>?_⟩
 ·obtain⟨sz,bs,z,e1,e2,e3,e4,e5,_,_,_,_,h⟩:=h
  rw[zvS]at e1
  rw[zvT]at e3
  cases e1;cases e3
  rw[zoB]at h
  exact h
 ·refine⟨1,1,_,zvS,zCv,zvT,rfl,rfl,rfl,h0,by omega,by omega,?_⟩
  rw[zoB]
  exact h
set_option maxHeartbeats 1000000 in
theorem zme{G:Env}(V:zkj G){m:M}{mv iv:AV}{input:List Int}{steps:Int}{σ:AS}{R:Out→AS→Prop}(hm:MV mv m)(hc:zaB m=.ok ())(hfs:zpK m.funcs)(hi:zZ iv input)(hil:input.length≤2^38)(hs:steps≤2^38)
  (hR:∀ov out st code σ',zpJ m input steps (steps.toNat+1)=some (out,st,code)→zZ ov out→zh σ σ'→R (.ret (.agg [ov,.int .i64 st,.int .i64 code])) σ'):zzQ G 28 [mv,iv,.int .i64 steps] σ R:=by
 refine zoa ?_
 refine zhw (px:=zvR) (px2:=zqk) (pz:=zmJ) (k:=80) (py:=znP) (n:=32) (nk:=18) (t:=17) (d0:=4) (d1:=2) (res:=[.cell 6 48]) zk Tryz.func28 rfl rfl rfl rfl (by kernel_rfl) (by kernel_rfl) (by kernel_rfl) (by simp) rfl rfl rfl rfl rfl rfl (by decide) Tryz.func80 rfl (by kernel_rfl) rfl rfl rfl rfl rfl rfl rfl rfl rfl (by kernel_rfl) (by decide) (by decide) (by decide) ?_
 obtain⟨fsv,rfl,hfsv⟩:=hm
 have f1:=hfsv.one
 have i1:=hi.one
 obtain⟨m0,m1⟩:=zgr hc
 obtain⟨mn0,g,hg,hgt,hgp⟩:=zjp hc
 obtain⟨out,st,code,he,_,hout⟩:=zjk hc input steps (steps.toNat+1) (by omega)
 have hgm:m.funcs[m.main.toNat]?=some g:=hg
 have hlt:m.main.toNat<m.funcs.length:=(yaq.1 hg).1
 obtain⟨bb,gv,hgv,hix⟩:=hfsv.at hlt
 have hge:m.funcs[m.main.toNat]=g:=(yaq.1 hg).2
 rw[hge]at hgv
 rw[Int.toNat_of_nonneg mn0]at hix
 obtain⟨gpv,glv,gtv,rfl,hgpv,hglv,hgtv⟩:=hgv
 have g1:=hgpv.one
 have g2:=hglv.one
 have g3:=hgtv.one
 have hgv:FV (.agg [.str g.name,gpv,glv,.int .i64 g.type,gtv]) g:=⟨gpv,glv,gtv,rfl,hgpv,hglv,hgtv⟩
 have hgo:OkF g:=hfs g (ycs hg)
 have hcallw:zbQ (zkE m.funcs (steps.toNat+1)) ⟨input,steps,yaj m.memory.toNat 0,[],0⟩ g [] ⟨g,[],[],0⟩≠.bad:=by
  intro e
  unfold zpJ at he
  rw[if_neg (by omega),hg]at he
  simp only at he
  rw[e]at he
  cases he
 have hov:∀s c x',zbQ (zkE m.funcs (steps.toNat+1)) ⟨input,steps,yaj m.memory.toNat 0,[],0⟩ g [] ⟨g,[],[],0⟩=.over s c x'→zpJ m input steps (steps.toNat+1)=some (x'.out,s,c):=fun s c x' e=>by
  unfold zpJ
  rw[if_neg (by omega),hg]
  simp only
  rw[e]
 have hok:∀v x' r',zbQ (zkE m.funcs (steps.toNat+1)) ⟨input,steps,yaj m.memory.toNat 0,[],0⟩ g [] ⟨g,[],[],0⟩=.ok v x' r'→zpJ m input steps (steps.toNat+1)=some (x'.out,1,v):=fun v x' r' e=>by
  unfold zpJ
  rw[if_neg (by omega),hg]
  simp only
  rw[e]
 have fin:∀(τ σ':AS) (xo mo ro:Nat) (x':zao) (ov:AV) (s c:Int),zh σ τ→σ.no≤xo→σ.no≤mo→σ.no≤ro→XM m.funcs m.memory m.main τ xo mo [] [] x' ov σ'→zpJ m input steps (steps.toNat+1)=some (x'.out,s,c)→zo5 R (.ret (.agg [ov,.int .i64 s,.int .i64 c])) (σ'.setO ro [ov,.int .i64 s,.int .i64 c]):=by
  intro τ σ' xo mo ro x' ov s c A hx hmo hr hm e
  have A2:zh σ (σ'.setO ro [ov,.int .i64 s,.int .i64 c]):=by
   have h1:=hm.no;have h2:=hm.nf;have h3:=A.no;have h4:=A.nf
   refine⟨by simp;omega,by simp;omega,fun o ho=>?_,fun f hf=>?_⟩
   ·have:o≠ro:=by omega
    simp[this]
    rw[hm.obj o (by omega) (by omega) (by omega) (by simp)];exact A.obj o ho
   ·simp
    rw[hm.fam f (by omega) (by simp)];exact A.fam f hf
  rcases hm.own with ⟨h1,rfl⟩|⟨q,rfl,h1,h2⟩
  ·exact .inl (hR _ _ _ _ _ e (.inl ⟨h1,rfl⟩) A2)
  ·have hq:τ.nf≤q:=by
    rcases hm.ownT q (by simp[zV])with h|h
    ·simp at h
    ·exact h
   refine .inr ⟨_,q,fun _=>false,rfl,by simpa using h2,?_⟩
   have hI:zZ (.sl (.stat false) 1 (x'.out.map (.int .i64))) x'.out:=.inr ⟨_,rfl⟩
   have:=hR _ _ _ _ ((σ'.setO ro [.sl (.fam q false) 1 (x'.out.map (.int .i64)),.int .i64 s,.int .i64 c]).frz q fun _=>false) e hI (A2.frz (by have:=A.nf;omega) fun _ _=>rfl)
   simpa [Function.comp_def]using this
 have key:∀(a:Nat→AV) (τ:AS) (caps:List AV) (xo mo vo po ro:Nat),caps=[.ptr vo 0,.ptr ro 0]→a 3=.ptr po 0→a 6=.ptr ro 0→a 7=.ptr vo 0→τ.objs po=some [fsv,.int .i64 m.memory,.int .i64 m.main]→τ.objs ro=some [.nilsl,.int .i64 0,.int .i64 0]→τ.objs vo=some [.ptr xo 0] →
   τ.objs xo=some [fsv,.int .i64 m.memory,.int .i64 m.main,iv,.int .i64 steps,.slm mo 0 1 m.memory.toNat,.nilsl,.int .i64 0]→τ.objs mo=some (yaj m.memory.toNat (.int .u8 0))→zh σ τ→(po<τ.no∧ro<τ.no∧vo<τ.no∧xo<τ.no∧mo<τ.no)→(σ.no≤xo∧σ.no≤mo∧σ.no≤ro) →
   (xo≠mo∧vo≠xo∧vo≠mo∧ro≠xo∧ro≠mo∧ro≠vo)→avc yb9 G 32 zmJ (aq (zax yb9 G 18 znP 4 2 caps [.cell 6 48] (zo5 R))) a τ:=by
  intro a τ caps xo mo vo po ro hcaps a3 a6 a7 op orr ov ox om A lts ges nes
  obtain⟨l1,l2,l3,l4,l5⟩:=lts
  obtain⟨q1,q2,q3⟩:=ges
  obtain⟨n1,n2,n3,n4,n5,n6⟩:=nes
  subst hcaps
  have hM:XM m.funcs m.memory m.main τ xo mo [] [] ⟨input,steps,yaj m.memory.toNat 0,[],0⟩ .nilsl τ :=
   ⟨yah _,yah _,fun _ _ _ _ _=>rfl,fun _ _ _=>rfl,l4,l5,n1,by simp,⟨fsv,iv,by simpa using ox,hfsv,hi⟩,.inl ⟨rfl,rfl⟩,by simp[zV],by simpa using om⟩
  simp[zmJ,a3,a7,op,ov,f1,hix,splice,g1,g2,g3]
  refine zjo (N:=2^38) (zoA V hfs (steps.toNat+1) 0 (ydi _) (by omega)) (zns hfs (steps.toNat+1) 0 (ydi _) (by omega)) (ydi _) hM (yah _) (by simp only;omega) (by simp;omega) (ydi _) (by simp;omega) hil hgo hgv (.inr (.inl ⟨rfl,rfl⟩)) (by simp) (by simp[zV]) (by simp[zV]) hcallw (fun v x' r' σ' e hx=>?_) (fun s c x' σ' e hx=>?_)
  ·obtain⟨xov,hm⟩:=hx
   have o1:=hm.own.one
   obtain⟨fv,iv',ho,_,_⟩:=hm.mach
   have hv:=(hm.obj vo l3 n2 n3 (by simp)).trans ov
   have hr:=(hm.obj ro l2 n4 n5 (by simp)).trans orr
   have hfin:=fin τ σ' xo mo ro x' xov 1 v A q1 q2 q3 hm (hok _ _ _ e)
   simp[a6,a7,hv,ho,hr,o1,splice]
   simp[zax,znP,splice,a6]
   exact hfin
  ·obtain⟨xov,hm⟩:=hx
   have o1:=hm.own.one
   obtain⟨fv,iv',ho,_,_⟩:=hm.mach
   have hv:=(hm.obj vo l3 n2 n3 (by simp)).trans ov
   have hr:=(hm.obj ro l2 n4 n5 (by simp)).trans orr
   have hl:=hm.no
   have A3:zh σ' ((σ'.newO [.int .i64 0,.int .i64 0]).setO σ'.no [.int .i64 s,.int .i64 c]):=(zh.refl σ').newO.setO (yah _)
   have hfin:=fin τ _ xo mo ro x' xov s c A q1 q2 q3 (hm.adds A3) (hov _ _ _ e)
   have y1:vo≠σ'.no:=by omega
   have y2:ro≠σ'.no:=by omega
   have y3:xo≠σ'.no:=by omega
   simp
   simp[zax,znP,zh8,splice,zdg,a6,hv,ho,hr,o1,y1,y2,y3]
   exact hfin
 simp[zvR]
 have z2:¬σ.no=σ.no+1+1:=by omega
 have z3:¬σ.no=σ.no+1+1+1:=by omega
 have z4:¬σ.no=σ.no+1+1+1+1:=by omega
 have z5:¬σ.no+1=σ.no+1+1+1:=by omega
 have z6:¬σ.no+1=σ.no+1+1+1+1:=by omega
 have z7:¬σ.no+1+1=σ.no+1+1+1+1:=by omega
 simp[zqk,f1,i1,splice,znw (G:=G) m0 m1,z2,z3,z4]
 refine⟨key _ _ _ (σ.no+1+1+1) (σ.no+1+1) (σ.no+1+1+1+1) σ.no (σ.no+1) rfl ?_ ?_ ?_ ?_ ?_ ?_ ?_ ?_ ?_ ?_ ?_ ?_,key _ _ _ (σ.no+1+1+1+1) (σ.no+1+1) (σ.no+1+1+1) σ.no (σ.no+1) rfl ?_ ?_ ?_ ?_ ?_ ?_ ?_ ?_ ?_ ?_ ?_ ?_,key _ _ _ (σ.no+1+1+1+1) (σ.no+1+1+1) (σ.no+1+1) σ.no (σ.no+1) rfl ?_ ?_ ?_ ?_ ?_ ?_ ?_ ?_ ?_ ?_ ?_ ?_⟩
 all_goals first|(simp;done)|(simp;omega)|(simp[z2,z3,z4,z5,z6,z7];done)|exact((zh.refl σ).newO.newO.newO.newO.newO).setO (by omega)|omega
end Go.Proofs.YtohfclafhegadaaGreatDoor
namespace Go.Proofs.YtohfclafhegadaaGreatDoor.Ck
open Go Go.Abs Go.Proofs.YtohfclafhegadaaGreatDoor
def zgY(r:List W):List Int:=r.flatMap zl
def zdc(l:To):List Int:=l.flatMap zgY
def NOk(L:Nat)(named:List Bool)(P:List Int):Prop:=named.length=L∧∀i,i<L→named[i]?=some (decide (0<P.count (i:Int)))
theorem zu1{L:Nat}{named:List Bool}{P:List Int}{k:Nat}{n:Int}(h:NOk L named P)(hk:k≤L)(h0:0≤n∧n<(k:Int))(hc:P.count n=0):∃named',zdn (k:Int) named n=.ok named'∧NOk L named' (P++[n]):=by
 obtain⟨i,hi⟩:=ydn h0.1
 subst hi
 have hi:i<L:=by omega
 have hg:=h.2 i hi
 rw[hc]at hg
 have e:named.getD (Int.toNat (i:Int)) true=false:=by rw[ybe,ycf,hg];rfl
 refine⟨named.set i true,?_,by simp[h.1],fun j hj=>?_⟩
 ·unfold zdn
  rw[if_pos ⟨h0.1,h0.2,e⟩,ybe]
 ·rw[List.getElem?_set,yds]
  by_cases hij:i=j
  ·subst hij
   rw[if_pos rfl,if_pos (by rw[h.1];exact hj)]
   simp
  ·rw[if_neg hij,h.2 j hj]
   have:List.count (j:Int) [(i:Int)]=0:=by
    rw[ydt]
    have:¬((i:Int)==(j:Int))=true:=by simp;omega
    simp[this]
   rw[this,Nat.add_zero]
theorem zmf{L k:Nat}(hk:k≤L):∀{ns:List Int} {named:List Bool} {P:List Int},NOk L named P→(∀n∈ns,0≤n∧n<(k:Int))→(∀n:Int,(P++ns).count n≤1)→∃named',zaG (k:Int) ns named=.ok named'∧NOk L named' (P++ns)
 | [],named,P,h,_,_=>⟨named,rfl,by simpa using h⟩
 | n::ns,named,P,h,h0,hc=>by
  have h1:=hc n
  rw[yds,List.count_cons_self]at h1
  obtain⟨nm,e1,e2⟩:=zu1 h hk (h0 n (by simp)) (by omega)
  obtain⟨nm2,e3,e4⟩:=zmf hk (ns:=ns) e2 (fun m hm=>h0 m (by simp[hm])) (fun m=>by have:=hc m;simpa using this)
  refine⟨nm2,?_,by simpa using e4⟩
  rw[zaG,e1];exact e3
theorem zrC{L k:Nat}(hk:k≤L):∀{r:List W} {named:List Bool} {P:List Int},NOk L named P→(∀n∈zgY r,0≤n∧n<(k:Int))→(∀n:Int,(P++zgY r).count n≤1)→∃named',zgQ (k:Int) r named=.ok named'∧NOk L named' (P++zgY r)
 | [],named,P,h,_,_=>⟨named,rfl,by simpa [zgY]using h⟩
 | w::r,named,P,h,h0,hc=>by
  have e:zgY (w::r)=zl w++zgY r:=by simp[zgY]
  rw[e]at h0 hc ⊢
  obtain⟨nm,e1,e2⟩:=zmf hk h (ns:=zl w) (fun n hn=>h0 n (by simp[hn])) (fun n=>by
   have:=hc n
   rw[←ycF,yds]at this
   omega)
  obtain⟨nm2,e3,e4⟩:=zrC hk (r:=r) e2 (fun m hm=>h0 m (by simp[hm])) (fun m=>by rw[ycF];exact hc m)
  refine⟨nm2,?_,by rw[←ycF];exact e4⟩
  rw[zgQ,e1];exact e3
theorem zoC{L:Nat}:∀{k:Nat} {ls:To} {named:List Bool} {P:List Int},k+ls.length≤L→NOk L named P→(∀i r,ls[i]?=some r→∀n∈zgY r,0≤n∧n<((k+i:Nat):Int))→(∀n:Int,(P++zdc ls).count n≤1)→∃named',zbu k ls named=.ok named'∧NOk L named' (P++zdc ls)
 | k,[],named,P,_,h,_,_=>⟨named,rfl,by simpa [zdc]using h⟩
 | k,r::ls,named,P,hk,h,h0,hc=>by
  have e:zdc (r::ls)=zgY r++zdc ls:=by simp[zdc]
  rw[e]at hc ⊢
  simp only[yac]at hk
  obtain⟨nm,e1,e2⟩:=zrC (k:=k) (by omega) h (r:=r) (fun n hn=>by have:=h0 0 r rfl n hn;simpa using this) (fun n=>by
   have:=hc n
   rw[←ycF,yds]at this
   omega)
  obtain⟨nm2,e3,e4⟩:=zoC (k:=k+1) (ls:=ls) (by omega) e2 (fun i q hq m hm=>by have:=h0 (i+1) q (by simpa using hq) m hm;simp at this ⊢;omega) (fun m=>by rw[ycF];exact hc m)
  refine⟨nm2,?_,by rw[←ycF];exact e4⟩
  rw[zbu,e1];exact e3
theorem zrD{ls:To}(h0:ls.length≠0)(hv:∀(i:Nat) r,ls[i]?=some r→∀n∈zgY r,0≤n∧n<(i:Int))(hc:∀i:Nat,i+1<ls.length→(zdc ls).count (i:Int)=1):zbY ls=.ok ():=by
 have hall:∀n∈zdc ls,0≤n∧n<((ls.length-1:Nat):Int):=fun n hn=>by
  simp only[zdc,ycv]at hn
  obtain⟨r,hr,hn⟩:=hn
  obtain⟨i,hi,e⟩:=ya9 hr
  have:=hv i r (by rw[yau hi,e]) n hn
  omega
 have hc1:∀n:Int,(zdc ls).count n≤1:=fun n=>by
  by_cases hm:n∈zdc ls
  ·have:=hall n hm
   obtain⟨i,hi⟩:=ydn this.1
   subst hi
   rw[hc i (by omega)]
   exact yah _
  ·rw[List.count_eq_zero_of_not_mem hm];omega
 obtain⟨nm,e1,e2,e3⟩:=zoC (L:=ls.length) (k:=0) (ls:=ls) (named:=yaj ls.length false) (P:=[]) (by omega) ⟨by simp,fun i hi=>by simp[hi]⟩ (fun i r hr n hn=>by have:=hv i r hr n hn;simpa using this) (by simpa using hc1)
 unfold zbY
 rw[if_neg h0,e1]
 simp only
 rw[if_pos]
 rw[yaM]
 intro b hb
 obtain⟨i,hi,e⟩:=ya9 hb
 simp at hi
 have:=e3 i (by omega)
 rw[ycE,hc i (by omega)]at this
 rw[←e,List.getElem_take]
 have h4:=yaq.1 this
 obtain⟨h5,h6⟩:=h4
 rw[h6]
 rfl
end Go.Proofs.YtohfclafhegadaaGreatDoor.Ck
namespace Go.Proofs.YtohfclafhegadaaGreatDoor
open Go Go.Abs Go.Proofs.YtohfclafhegadaaGreatDoor.Ck
theorem zpz{w:W}(h:zbJ w=false):zl (zaL w)=[]:=by
 simp only[zbJ,Bool.or_eq_false_iff,decide_eq_false_iff_not]at h
 unfold zl zaL
 simp only
 rw[if_neg (by omega),if_neg (by omega)]
theorem zcT(w:W)(r:List W):zgY (w::r)=zl w++zgY r:=by simp[zgY]
theorem zdY(x y:To):zdc (x++y)=zdc x++zdc y:=by simp[zdc]
theorem zmg(x:List W):zdc [x]=zgY x:=by simp[zdc]
structure Inv(n0 n1:Nat)(z:To)(out:List W):Prop where
 len:n1=n0+z.length
 names:∀n∈zgY out,∃j:Nat,n=(j:Int)∧j<n1
 rows:∀i r,z[i]?=some r→∀n∈zgY r,∃j:Nat,n=(j:Int)∧j<n0+i
 once:∀n:Nat,(zgY out).count (n:Int)+(zdc z).count (n:Int)=if n0≤n∧n<n1 then 1 else 0
theorem znx{n0 n1 n2:Nat}{z1 z2:To}{b out:List W}(h1:Inv n0 n1 z1 b)(h2:Inv (n1+1) n2 z2 out){w:W}(hw:zl w=[(n1:Int)]):Inv n0 n2 (z1++b::z2) (w::out) where
 len:=by have:=h1.len;have:=h2.len;simp;omega
 names n hn:=by
  rw[zcT,hw]at hn
  have:=h2.len
  rcases ybC.1 hn with rfl|hn
  ·exact⟨n1,rfl,by omega⟩
  ·exact h2.names n hn
 rows i r hi n hn:=by
  have l1:=h1.len
  by_cases c:i<z1.length
  ·rw[yat c]at hi
   exact h1.rows i r hi n hn
  ·rw[yaI (by omega)]at hi
   obtain⟨k,hk⟩:∃k,i=z1.length+k:=⟨i-z1.length,by omega⟩
   subst hk
   rw[Nat.add_sub_cancel_left]at hi
   cases k with
   | zero =>
    simp only[yc4,yaR.injEq]at hi
    subst hi
    obtain⟨j,e,hj⟩:=h1.names n hn
    exact⟨j,e,by omega⟩
   | succ k =>
    simp only[List.getElem?_cons_succ]at hi
    obtain⟨j,e,hj⟩:=h2.rows k r hi n hn
    exact⟨j,e,by omega⟩
 once n:=by
  have a1:=h1.once n
  have a2:=h2.once n
  have l1:=h1.len
  have l2:=h2.len
  have e:z1++b::z2=z1++([b]++z2):=by simp
  rw[zcT,hw,e,zdY,zdY,zmg]
  simp only[yds,ydt]
  have q:((n1:Int)==(n:Int))=decide (n1=n):=by
   by_cases c:n1=n
   ·subst c;simp
   ·have:¬(n1:Int)=(n:Int):=by omega
    rw[decide_eq_false c]
    exact beq_eq_false_iff_ne.2 this
  rw[q]
  by_cases c:n1=n
  ·subst c
   rw[if_neg (by omega)]at a1
   rw[if_neg (by omega)]at a2
   have c3:n0≤n1∧n1<n2:=by omega
   rw[if_pos c3]
   simp only[decide_true,if_true]
   omega
  ·rw[decide_eq_false c]
   simp only[Bool.false_eq_true,if_false]
   by_cases c1:n0≤n∧n<n1
   ·rw[if_pos c1]at a1
    rw[if_neg (by omega)]at a2
    rw[if_pos (by omega)]
    omega
   ·rw[if_neg c1]at a1
    by_cases c2:n1+1≤n∧n<n2
    ·rw[if_pos c2]at a2
     rw[if_pos (by omega)]
     omega
    ·rw[if_neg c2]at a2
     rw[if_neg (by omega)]
     omega
theorem zdZ{op o:Int}{b:Nat}(h:op=11∨op=12∨op=13∧o<0):zl (zX op b o)=[(b:Int)]:=by
 unfold zl zX
 simp only
 rw[if_pos h]
theorem zE6{ls:To}{d:Nat}{ws:List W}{acc acc':To}{toks:List Tok}{out:List W}(h:Pr ls d ws acc toks out acc'):∃z,acc'=acc++z∧Inv acc.length acc'.length z out:=by
 induction h with
 | nil d acc=>exact⟨[],by simp,⟨by simp,by simp[zgY],by simp,fun n=>by rw[if_neg (by omega)];simp[zgY,zdc]⟩⟩
 | @leaf d w r acc t r' acc' hn hf hr _ ih =>
  obtain⟨z,e,h⟩:=ih
  have en:zgY (zaL w::r')=zgY r':=by rw[zcT,zpz hn,ycE]
  exact⟨z,e,⟨h.len,by rw[en];exact h.names,h.rows,fun n=>by rw[en];exact h.once n⟩⟩
 | @one d w b r acc tb b' acc1 t r' acc' ho hd hb0 hb _ _ ih1 ih2 =>
  obtain⟨z1,e1,h1⟩:=ih1
  obtain⟨z2,e2,h2⟩:=ih2
  simp only[yab,yac,ybl]at h2
  refine⟨z1++b'::z2,by rw[e2,e1];simp,znx h1 h2 (zdZ ?_)⟩
  rcases ho with h|h|h
  ·exact .inl h
  ·exact .inr (.inl h)
  ·exact .inr (.inr ⟨h.1,by rw[if_pos h.1];omega⟩)
 | @two d w b f r acc tb b' acc1 te e' acc2 t r' acc' ho hoo hd hb0 hb hf _ _ _ ih1 ih2 ih3 =>
  obtain⟨z1,e1,h1⟩:=ih1
  obtain⟨z2,e2,h2⟩:=ih2
  obtain⟨z3,e3,h3⟩:=ih3
  simp only[yab,yac,ybl]at h2 h3
  have k2:=znx h2 h3 (w:=zX 12 acc2.length 0) (zdZ (.inr (.inl rfl)))
  have k1:=znx h1 k2 (w:=zX 12 acc1.length 0) (zdZ (.inr (.inl rfl)))
  have en:∀(a b:Nat),zgY (zX 12 a 0::zX 12 b 0::r')=zgY (zX 13 a b::r'):=fun a b=>by
   rw[zcT,zcT,zcT]
   have q1:=zdZ (op:=12) (o:=0) (b:=a) (.inr (.inl rfl))
   have q2:=zdZ (op:=12) (o:=0) (b:=b) (.inr (.inl rfl))
   have q3:zl (zX 13 a b)=[(a:Int),(b:Int)]:=by
    unfold zl zX
    simp only
    rw[if_neg (by omega),if_pos trivial]
   rw[q1,q2,q3]
   simp
  refine⟨z1++b'::(z2++e'::z3),by rw[e3,e2,e1];simp,⟨k1.len,?_,k1.rows,fun n=>?_⟩⟩
  ·rw[←en];exact k1.names
  ·rw[←en];exact k1.once n
theorem zu2{ls:To}{row:List W}{acc':To}{toks:List Tok}{out:List W}(h:Pr ls 0 row [] toks out acc'):zbY (acc'++[out])=.ok ():=by
 obtain⟨z,e,h⟩:=zE6 h
 simp only[ycE]at e
 subst e
 simp only[ybl]at h
 refine zrD (by simp) (fun i r hi n hn=>?_) fun i hi=>?_
 ·by_cases c:i<acc'.length
  ·rw[yat c]at hi
   obtain⟨j,rfl,hj⟩:=h.rows i r hi n hn
   exact⟨by omega,by omega⟩
  ·have hl:i=acc'.length:=by
    have:=(yaq.1 hi).1
    simp at this
    omega
   subst hl
   simp only[yaI (yah _),Nat.sub_self,yc4,yaR.injEq]at hi
   subst hi
   obtain⟨j,rfl,hj⟩:=h.names n hn
   exact⟨by omega,by omega⟩
 ·simp at hi
  rw[zdY,zmg,yds]
  have:=h.once i
  rw[if_pos (by omega)]at this
  omega
theorem zpA{w:W}(h:zbJ w=false):zl w=[]:=by
 simp only[zbJ,Bool.or_eq_false_iff,decide_eq_false_iff_not]at h
 unfold zl
 rw[if_neg (by omega),if_neg (by omega)]
theorem zrE{w:W}(h:w.op=11∨w.op=12∨w.op=13∧w.other<0):zl w=[w.body]:=by
 unfold zl
 rw[if_pos h]
theorem zrF{w:W}(h:w.op=13)(ho:0≤w.other):zl w=[w.body,w.other]:=by
 unfold zl
 rw[if_neg (by omega),if_pos h]
def gL(ls:To)(k:Nat):Nat:=(ls.getD k []).length
theorem zu3{ls:To}(ha:zlD ls){d:Nat}{ws:List W}{acc acc':To}{toks:List Tok}{out:List W}(h:Pr ls d ws acc toks out acc'):
  out.length+zeS acc'=zeS acc+ws.length+ziW (ws.flatMap zl) (zlF (gL ls) ls)∧acc'.length+2*zeS acc≤acc.length+2*(out.length+zeS acc'):=by
 have tot:∀{n:Int} {b:List W},ls[n.toNat]?=some b→zlF (gL ls) ls n.toNat=b.length+ziW (b.flatMap zl) (zlF (gL ls) ls):=fun {n b} hb=>by
  rw[zm3 (gL ls) ha hb]
  have:gL ls n.toNat=b.length:=by unfold gL;rw[ycf,hb];rfl
  rw[this]
 induction h with
 | nil=>simp[ziW]
 | @leaf d w r acc t r' acc' hn hf hr _ ih =>
  rw[yaa,zpA hn,ycE]
  simp only[yac]
  omega
 | @one d w b r acc tb b' acc1 t r' acc' ho hd hb0 hb p1 p2 ih1 ih2 =>
  have e:=tot hb
  rw[yaa,zrE ho,zeQ]
  rw[zcN]at ih2
  have e2:ziW [w.body] (zlF (gL ls) ls)=zlF (gL ls) ls w.body.toNat:=by simp[ziW]
  rw[e2,e]
  simp only[yac,yab,ybl]at *
  omega
 | @two d w b e r acc tb b' acc1 te e' acc2 t r' acc' ho hoo hd hb0 hb he p1 p2 p3 ih1 ih2 ih3 =>
  have q1:=tot hb
  have q2:=tot he
  rw[yaa,zrF ho hoo,zeQ]
  rw[zcN]at ih2 ih3
  have e2:ziW [w.body,w.other] (zlF (gL ls) ls)=zlF (gL ls) ls w.body.toNat+zlF (gL ls) ls w.other.toNat:=by simp[ziW]
  rw[e2,q1,q2]
  simp only[yac,yab,ybl]at *
  omega
theorem zoD:∀(ls:To) (k:Nat),k≤ls.length→zbh (gL ls) k=zfk id (ls.take k)
 | ls,0,_=>by simp[zbh,zfk]
 | ls,k+1,h=>by
  rw[zbh,zoD ls k (by omega),ycl (by omega),zhH]
  have:gL ls k=ls[k].length:=by unfold gL;rw[ycf,yau (by omega)];rfl
  rw[this]
  simp[zfk]
theorem zrG{fs:List F}{f:F}(h:zn fs f=.ok ()){toks:List Tok}{ls':To}(hp:PrF f toks ls'):zeS ls'=zfk id f.lists∧ls'.length≤1+2*zfk id f.lists∧(spT toks).length≤64*zfk id f.lists:=by
 obtain⟨h0,ha,ht⟩:=zcg (zak h)
 obtain⟨row,out,acc,h1,h2,rfl⟩:=hp
 have e:=ht (gL f.lists)
 rw[zm3 (gL f.lists) ha h1,zoD _ _ (yah _),ycm]at e
 have e1:gL f.lists (f.lists.length-1)=row.length:=by unfold gL;rw[ycf,h1];rfl
 rw[e1]at e
 obtain⟨c1,c2⟩:=zu3 ha h2
 have c3:=zET h2
 have r0:zeS []=0:=rfl
 rw[r0]at c1 c2 c3
 rw[zcN]
 simp only[yab,yac,ybl]at *
 omega
theorem zmh{gs:List F}:∀(fs:List F),(∀f∈fs,zn gs f=.ok ()∧RgL f.lists∧f.lists.length≤400∧f.name.length≤24∧f.params.length+f.locals.length+zfk id f.lists≤3000) →
  ∃toks fs2,PrFs fs toks fs2∧(spT toks).length≤200000*fs.length∧∀f'∈fs2,∃f∈fs,∃t ls',PrF f t ls'∧f'={ f with lists:=ls' }∧zeS ls'≤3000∧ls'.length≤6001
 | [],_=>⟨[],[],.nil,by simp[spT],fun f hf=>by cases hf⟩
 | f::fs,h=>by
  obtain⟨h1,h2,h3,h4,h5⟩:=h f (by simp)
  obtain⟨t1,ls',p1⟩:=zux h1 h2 h3
  obtain⟨c1,c2,c3⟩:=zrG h1 p1
  obtain⟨t2,fs2,q1,q2,q3⟩:=zmh fs fun g hg=>h g (by simp[hg])
  refine⟨zgA f t1++t2,_,.cons p1 q1,?_,fun f' hf'=>?_⟩
  ·have e:zgA f t1=[zA,zbo,36::f.name]++(zK zbZ f.params++(zkp f.type++(zK zaU f.locals++(t1++[zg])))):=rfl
   have e1:(spT [zA,zbo,36::f.name]).length=9+f.name.length:=by
    have:spT [zA,zbo,36::f.name]=spT [zA,zbo]++spT [36::f.name]:=by rw[←zi];rfl
    rw[this,yab]
    have a:(spT [zA,zbo]).length=7:=rfl
    have b:(spT [36::f.name]).length=f.name.length+2:=by simp[spT]
    omega
   have e2:=zje zbZ f.params (by decide)
   have e3:=zje zaU f.locals (by decide)
   have e4:(spT (zkp f.type)).length≤20:=by
    unfold zkp zD
    split
    ·decide
    ·split<;>decide
   have e5:(spT [zg]).length=2:=rfl
   rw[zi,yab,e,zi,zi,zi,zi,zi]
   simp only[yab,yac]at *
   omega
  ·rcases ybC.1 hf' with rfl|hf'
   ·exact⟨f,by simp,t1,ls',p1,rfl,by omega,by omega⟩
   ·obtain⟨g,hg,r⟩:=q3 f' hf'
    exact⟨g,by simp[hg],r⟩
end Go.Proofs.YtohfclafhegadaaGreatDoor
namespace Go.Proofs.YtohfclafhegadaaGreatDoor
open Go Go.Abs Go.Proofs.YtohfclafhegadaaGreatDoor.Ck
theorem zny{fs:List F}{ls:List Int}{ty d:Int}{lk:zkf}{w:W}(hf:zR w=true)(hn:zbJ w=false)(s:St):zL fs ls ty d lk (zaL w) s=zL fs ls ty d lk w s:=by
 obtain⟨op,t,n,body,other,name⟩:=w
 simp only[zbJ,Bool.or_eq_false_iff,decide_eq_false_iff_not]at hn
 unfold zR at hf
 simp only at hf
 by_cases h1:op=1∨op=5
 ·rw[if_pos h1]at hf
  rcases h1 with rfl|rfl<;>simp[zL,zR,zI,zbI,zaL,zaD]
 ·rw[if_neg h1]at hf
  by_cases h4:op=4
  ·subst h4
   simp[zL,zR,zI,zbI,zaL,zaD]
  ·rw[if_neg h4]at hf
   by_cases h8:op=8∨op=9
   ·rcases h8 with rfl|rfl<;>simp[zL,zR,zI,zbI,zaL,zaD]
   ·rw[if_neg h8]at hf
    simp only[Bool.and_eq_true,decide_eq_true_eq]at hf
    rcases(show op=2∨op=3∨op=10∨op=14∨op=15∨op=6∨op=7∨op=16∨op=17∨op=18 by omega)with rfl|rfl|rfl|rfl|rfl|rfl|rfl|rfl|rfl|rfl<;>simp[zL,zR,zI,zbI,zaL,zaD]
def zkI(op:Int)(rb:Res Unit)(ro:Option (Res Unit))(s:St):Res St :=
 if op=13 then(match zW [1] s with
  | .error e=>.error e
  | .ok s1=>match rb with
   | .error e=>.error e
   | .ok _=>match ro with
    | none=>.ok s1
    | some (.ok _)=>.ok s1
    | some (.error e)=>.error e)
 else match rb with
  | .ok _=>.ok s
  | .error e=>.error e
theorem zid{fs:List F}{ls:List Int}{ty d:Int}{lk:zkf}{w:W}(h:w.op=11∨w.op=12∨w.op=13)(s:St):zL fs ls ty d lk w s=zkI w.op (lk w.body (d+1)) (if 0≤w.other then some (lk w.other (d+1))else none) s:=by
 have hf:zR w=true:=by
  unfold zR
  rw[if_neg (by omega),if_neg (by omega),if_neg (by omega)]
  simp;omega
 have hr:zI fs ls d w=true:=by
  unfold zI
  rw[if_neg (by omega),if_neg (by omega),if_neg (by omega),if_neg (by omega)]
 unfold zL zkI
 rw[if_neg (by simp[hf]),if_neg (by simp[hr])]
 by_cases h13:w.op=13
 ·rw[if_neg (by omega),if_pos h13,if_pos h13]
  cases zW [1] s with
  | error e=>rfl
  | ok s1 =>
   simp only
   cases lk w.body (d+1)with
   | error e=>rfl
   | ok u =>
    simp only
    by_cases ho:0≤w.other
    ·rw[if_pos ho,if_pos ho]
     cases lk w.other (d+1)<;>rfl
    ·rw[if_neg ho,if_neg ho]
 ·rw[if_pos (by omega),if_neg h13]
  cases lk w.body (d+1)<;>rfl
theorem zfZ{fs:List F}{ls:List Int}{ty d:Int}{lk:zkf}{w:W}(h:w.op=11∨w.op=12∨w.op=13∧w.other<0)(s:St):zL fs ls ty d lk w s=zkI w.op (lk w.body (d+1)) none s:=by
 rw[zid (by omega)]
 by_cases h13:w.op=13
 ·rw[if_neg (by omega)]
 ·unfold zkI
  rw[if_neg h13,if_neg h13]
theorem zf0{fs:List F}{ls:List Int}{ty d:Int}{lk:zkf}{w:W}(h:w.op=13)(ho:0≤w.other)(s:St):zL fs ls ty d lk w s=zkI 13 (lk w.body (d+1)) (some (lk w.other (d+1))) s:=by
 rw[zid (by omega),if_pos ho,h]
theorem zei{op:Int}{rb:Res Unit}{ro:Option (Res Unit)}{s s':St}(h:zkI op rb ro s=.ok s'):rb=.ok ():=by
 unfold zkI at h
 cases rb with
 | ok u=>rfl
 | error e =>
  split at h
  ·split at h<;>cases h
  ·cases h
theorem zie{rb r:Res Unit}{s s':St}(h:zkI 13 rb (some r) s=.ok s'):r=.ok ():=by
 unfold zkI at h
 rw[if_pos rfl]at h
 cases r with
 | ok u=>rfl
 | error e =>
  split at h
  ·cases h
  ·split at h<;>cases h
theorem zcw{fs:List F}{ls:List Int}{ty d:Int}{lk:zkf}{w:W}{ws:List W}{s s':St}:zE fs ls ty d lk (w::ws) s=.ok s'↔∃s1,zL fs ls ty d lk w s=.ok s1∧zE fs ls ty d lk ws s1=.ok s':=by
 rw[zE]
 cases zL fs ls ty d lk w s with
 | error e=>exact⟨fun h=>(by cases h),fun⟨_,h,_⟩=>(by cases h)⟩
 | ok s1=>exact⟨fun h=>⟨s1,rfl,h⟩,fun⟨s2,h1,h2⟩=>(by cases h1;exact h2)⟩
theorem zgZ{fs:List F}{ls:List Int}{ty:Int}{lists:To}{k:Nat}{a d:Int}:zQ fs ls ty lists (k+1) a d=.ok ()↔∃s,zE fs ls ty d (zQ fs ls ty lists k) (lists.getD a.toNat []) ⟨[],false⟩=.ok s∧zEi ty d s=.ok ():=by
 rw[zQ]
 cases zE fs ls ty d (zQ fs ls ty lists k) (lists.getD a.toNat []) ⟨[],false⟩with
 | error e=>exact⟨fun h=>(by cases h),fun⟨_,h,_⟩=>(by cases h)⟩
 | ok s1=>exact⟨fun h=>⟨s1,rfl,h⟩,fun⟨s2,h1,h2⟩=>(by cases h1;exact h2)⟩
theorem zif{ls:To}{i:Nat}{b:List W}(h:ls[i]?=some b):ls.getD i []=b:=by rw[ycf,h];rfl
theorem zyn{fs:List F}{locs:List Int}{ty:Int}{ls fin:To}{d:Nat}{ws:List W}{acc acc':To}{toks:List Tok}{out:List W}(h:Pr ls d ws acc toks out acc'):acc'<+:fin→∀(k:Nat) (deep:Int) (s s':St),zE fs locs ty deep (zQ fs locs ty ls k) ws s=.ok s'→zE fs locs ty deep (zQ fs locs ty fin k) out s=.ok s':=by
 have key:∀{b b':List W} {acc1:To} {k:Nat} {deep:Int} {n:Int},ls[n.toNat]?=some b→acc1++[b']<+:fin→(∀(k:Nat) (deep:Int) (s s':St),zE fs locs ty deep (zQ fs locs ty ls k) b s=.ok s'→zE fs locs ty deep (zQ fs locs ty fin k) b' s=.ok s')→zQ fs locs ty ls k n deep=.ok ()→zQ fs locs ty fin k (acc1.length:Int) deep=.ok ():=by
  intro b b' acc1 k deep n hb hp ih hl
  cases k with
  | zero=>simp[zQ]at hl
  | succ k =>
   rw[zgZ]at hl ⊢
   obtain⟨s,h1,h2⟩:=hl
   rw[zif hb]at h1
   rw[ybe,zif (zbA hp)]
   exact⟨s,ih k deep _ _ h1,h2⟩
 induction h with
 | nil=>intro _ k deep s s' h;exact h
 | leaf hn hf hr _ ih =>
  intro hp k deep s s' h
  rw[zcw]at h ⊢
  obtain⟨s1,h1,h2⟩:=h
  refine⟨s1,?_,ih hp k deep s1 s' h2⟩
  rw[zny hf hn]
  unfold zL at h1 ⊢
  simp only[zbJ,Bool.or_eq_false_iff,decide_eq_false_iff_not]at hn
  have n1:¬(_=_∨_=_):=not_or.2 ⟨hn.1.1,hn.1.2⟩
  rw[if_neg n1,if_neg hn.2]at h1 ⊢
  exact h1
 | @one d w b r acc tb b' acc1 t r' acc' ho hd hb0 hb p1 p2 ih1 ih2 =>
  intro hp k deep s s' h
  rw[zcw]at h ⊢
  obtain⟨s1,h1,h2⟩:=h
  refine⟨s1,?_,ih2 hp k deep s1 s' h2⟩
  rw[zfZ ho]at h1
  have hv:(zX w.op acc1.length (if w.op=13 then -1 else 0)).op=11∨(zX w.op acc1.length (if w.op=13 then -1 else 0)).op=12∨(zX w.op acc1.length (if w.op=13 then -1 else 0)).op=13∧(zX w.op acc1.length (if w.op=13 then -1 else 0)).other<0:=by
   simp only[zX]
   rcases ho with e|e|e
   ·exact .inl e
   ·exact .inr (.inl e)
   ·exact .inr (.inr ⟨e.1,by rw[if_pos e.1];omega⟩)
  rw[zfZ hv]
  have q:=zei h1
  have hp1:acc1++[b']<+:fin:=(zbj p2).trans hp
  have q2:=key hb hp1 (ih1 ((ycH _ _).trans hp1)) q
  simp only[zX]
  rw[q2]
  rw[q]at h1
  exact h1
 | @two d w b f r acc tb b' acc1 te e' acc2 t r' acc' ho hoo hd hb0 hb hf p1 p2 p3 ih1 ih2 ih3 =>
  intro hp k deep s s' h
  rw[zcw]at h ⊢
  obtain⟨s1,h1,h2⟩:=h
  refine⟨s1,?_,ih3 hp k deep s1 s' h2⟩
  rw[zf0 ho hoo]at h1
  rw[zf0 (w:=zX 13 acc1.length acc2.length) rfl (by simp only[zX];omega)]
  have q:=zei h1
  have r1:=zie h1
  have hp2:acc2++[e']<+:fin:=(zbj p3).trans hp
  have hp1:acc1++[b']<+:fin:=(zbj p2).trans ((ycH _ _).trans hp2)
  have q2:=key hb hp1 (ih1 ((ycH _ _).trans hp1)) q
  have q3:=key hf hp2 (ih2 ((ycH _ _).trans hp2)) r1
  simp only[zX]
  rw[q2,q3]
  rw[q,r1]at h1
  exact h1
end Go.Proofs.YtohfclafhegadaaGreatDoor
namespace Go.Proofs.YtohfclafhegadaaGreatDoor
open Go Go.Abs Go.Proofs.YtohfclafhegadaaGreatDoor.Ck
theorem znz{fs:List F}{ls:List Int}{ty d:Int}{lk lk':zkf}{w:W}{s s':St}(hl:∀m∈zl w,lk m (d+1)=.ok ()→lk' m (d+1)=.ok ())(h:zL fs ls ty d lk w s=.ok s'):zL fs ls ty d lk' w s=.ok s':=by
 by_cases h2:w.op=13∧0≤w.other
 ·have e:zl w=[w.body,w.other]:=by unfold zl;rw[if_neg (by omega),if_pos h2.1]
  rw[e]at hl
  rw[zf0 h2.1 h2.2]at h ⊢
  have q:=zei h
  have r:=zie h
  rw[hl _ (by simp) q,hl _ (by simp) r]
  rw[q,r]at h
  exact h
 ·by_cases h1:w.op=11∨w.op=12∨w.op=13∧w.other<0
  ·have e:zl w=[w.body]:=by unfold zl;rw[if_pos h1]
   rw[e]at hl
   rw[zfZ h1]at h ⊢
   have q:=zei h
   rw[hl _ (by simp) q]
   rw[q]at h
   exact h
  ·unfold zL at h ⊢
   rw[if_neg (show ¬(w.op=11∨w.op=12)by omega),if_neg (show ¬w.op=13 by omega)]at h ⊢
   exact h
theorem zgs{fs:List F}{ls:List Int}{ty d:Int}{lk lk':zkf}:∀(ws:List W) (s s':St),(∀w∈ws,∀m∈zl w,lk m (d+1)=.ok ()→lk' m (d+1)=.ok ())→zE fs ls ty d lk ws s=.ok s'→zE fs ls ty d lk' ws s=.ok s'
 | [],s,s',_,h=>h
 | w::ws,s,s',hl,h=>by
  rw[zcw]at h ⊢
  obtain⟨s1,h1,h2⟩:=h
  exact⟨s1,znz (hl w (by simp)) h1,zgs ws s1 s' (fun w hw=>hl w (by simp[hw])) h2⟩
theorem zjq{fs:List F}{ls:List Int}{ty:Int}{lists:To}(ha:zlD lists):∀(K2 K:Nat) (a d:Int),0≤a→a.toNat<K2→zQ fs ls ty lists K a d=.ok ()→zQ fs ls ty lists K2 a d=.ok ()
 | 0,_,a,d,_,h,_=>by omega
 | K2+1,0,a,d,_,_,h=>by simp[zQ]at h
 | K2+1,K+1,a,d,h0,h1,h=>by
  rw[zgZ]at h ⊢
  obtain⟨s,h2,h3⟩:=h
  refine⟨s,zgs _ _ _ (fun w hw m hm hk=>?_) h2,h3⟩
  cases hr:lists[a.toNat]? with
  | none=>rw[ycf,hr]at hw;simp at hw
  | some row =>
   rw[zif hr]at hw
   have hq:=ha a.toNat row hr m (ycv.2 ⟨w,hw,hm⟩)
   exact zjq ha K2 K m (d+1) hq.1 (by omega) hk
theorem znA{fs fs':List F}(h:zaT fs'=zaT fs){ls:List Int}{ty d:Int}{lk:zkf}(w:W)(s:St):zL fs' ls ty d lk w s=zL fs ls ty d lk w s:=by
 have e1:zI fs' ls d w=zI fs ls d w:=by unfold zI;rw[h]
 have e2:zbI fs' ls w s=zbI fs ls w s:=by unfold zbI;rw[h]
 unfold zL
 rw[e1,e2]
theorem zgt{fs fs':List F}(h:zaT fs'=zaT fs){ls:List Int}{ty d:Int}{lk:zkf}:∀(ws:List W) (s:St),zE fs' ls ty d lk ws s=zE fs ls ty d lk ws s
 | [],s=>rfl
 | w::ws,s=>by
  rw[zE,zE,znA h]
  cases zL fs ls ty d lk w s with
  | error e=>rfl
  | ok s1=>exact zgt h ws s1
theorem zjr{fs fs':List F}(h:zaT fs'=zaT fs){ls:List Int}{ty:Int}{lists:To}:∀(k:Nat),zQ fs' ls ty lists k=zQ fs ls ty lists k
 | 0=>rfl
 | k+1=>by
  funext a d
  rw[zQ,zQ,zjr h k,zgt h]
theorem ziF{fs fs':List F}(h:zaT fs'=zaT fs)(f:F):zn fs' f=zn fs f:=by
 unfold zn
 rw[zjr h]
theorem zmi{fs:List F}{f:F}(h:zn fs f=.ok ()){toks:List Tok}{ls':To}(hp:PrF f toks ls'):zn fs { f with lists:=ls' }=.ok ():=by
 obtain⟨row,out,acc,h1,h2,rfl⟩:=hp
 have hl:=zak h
 have hl':=zu2 h2
 obtain⟨_,ha',_⟩:=zcg hl'
 unfold zn at h ⊢
 split at h
 ·cases h
 rename_i hb
 rw[if_neg hb]
 rw[hl]at h
 simp only at h ⊢
 rw[hl']
 simp only
 obtain⟨k,hk⟩:∃k,f.lists.length=k+1:=⟨f.lists.length-1,by have:=(yaq.1 h1).1;omega⟩
 have e:((f.lists.length:Int)-1).toNat=f.lists.length-1:=by omega
 rw[hk]at h
 rw[zgZ]at h
 obtain⟨s,g1,g2⟩:=h
 rw[←hk,e,zif h1]at g1
 have g3:=zyn (fin:=acc++[out]) h2 (ycH _ _) k 0 _ _ g1
 have e2:(((acc++[out]).length:Int)-1)=(acc.length:Int):=by simp
 have g4:zQ fs (f.params++f.locals) f.type (acc++[out]) (k+1) (((acc++[out]).length:Int)-1) 0=.ok ():=by
  rw[zgZ]
  refine⟨s,?_,g2⟩
  rw[e2,ybe,zif (zbA (ydu _))]
  exact g3
 exact zjq ha' _ _ _ _ (by rw[e2];omega) (by rw[e2];simp) g4
theorem zd0{fs:List F}:∀{r:List F},(∀f∈r,zn fs f=.ok ())→zO fs r=.ok ()
 | [],_=>rfl
 | f::r,h=>by
  rw[zO,h f (by simp)]
  exact zd0 fun g hg=>h g (by simp[hg])
theorem zkJ{fs fs':List F}{toks:List Tok}(h:PrFs fs toks fs'):fs'.length=fs.length∧∀(i:Nat) (f':F),fs'[i]?=some f'→∃f t ls',fs[i]?=some f∧PrF f t ls'∧f'={ f with lists:=ls' }:=by
 induction h with
 | nil=>exact⟨rfl,fun i f' h=>by simp at h⟩
 | cons p _ ih =>
  refine⟨by simp[ih.1],fun i f' h=>?_⟩
  cases i with
  | zero =>
   simp only[yc4,yaR.injEq]at h
   exact⟨_,_,_,rfl,p,h.symm⟩
  | succ i=>simpa using ih.2 i f' (by simpa using h)
theorem zrH{fs fs':List F}{toks:List Tok}(h:PrFs fs toks fs'):zaT fs'=zaT fs:=by
 obtain⟨h1,h2⟩:=zkJ h
 have key:∀i:Nat,(fs'[i]?).map (fun f=>(f.params,f.type))=(fs[i]?).map fun f=>(f.params,f.type):=fun i=>by
  cases hi:fs'[i]? with
  | none =>
   rw[ydv]at hi
   rw[yb2 (by omega)]
  | some f' =>
   obtain⟨f,t,ls',q1,q2,rfl⟩:=h2 i f' hi
   rw[q1];rfl
 funext n
 unfold zaT
 simp only[key]
theorem zrI{m:M}(h:zaB m=.ok ()){toks:List Tok}{fs':List F}(hp:PrFs m.funcs toks fs'):zaB ⟨fs',m.memory,m.main⟩=.ok ():=by
 have hv:=zbP h
 obtain⟨h1,h2⟩:=zkJ hp
 have hh:=zrH hp
 have hall:zO fs' fs'=.ok ():=zd0 fun f' hf'=>by
  obtain⟨i,hi,e⟩:=ya9 hf'
  obtain⟨f,t,ls',q1,q2,q3⟩:=h2 i f' (by rw[yau hi,e])
  subst q3
  rw[ziF hh]
  exact zmi (hv f (ycs q1)) q2
 have hm:zff ⟨fs',m.memory,m.main⟩=zff m:=by
  unfold zff
  simp only
  cases hi:fs'[m.main.toNat]? with
  | none =>
   rw[ydv]at hi
   rw[yb2 (by omega)]
  | some f' =>
   obtain⟨f,t,ls',q1,q2,rfl⟩:=h2 _ f' hi
   rw[q1]
 unfold zaB at h ⊢
 split at h
 ·cases h
 rename_i hb
 rw[if_neg hb]
 simp only
 rw[hall]
 simp only
 rw[hm]
 split at h
 ·cases h
 ·exact h
inductive EvR{α:Type}(f f':F):Ev α→Ev α→Prop
 | ok (a x r):r.fn=f→EvR f f' (.ok a x r) (.ok a x { r with fn:=f' })
 | over (s c x):EvR f f' (.over s c x) (.over s c x)
 | bad:EvR f f' .bad .bad
def Im(f f':F):Prop:=∃t ls',PrF f t ls'∧f'={ f with lists:=ls' }
def Lk(f f':F)(a a':Int):Prop:=∃d b acc toks b' acc1,0≤a∧f.lists[a.toNat]?=some b∧Pr f.lists d b acc toks b' acc1∧a'=acc1.length∧acc1++[b']<+:f'.lists
def zeC(rec rec':zey):Prop:=∀(f f':F),Im f f'→∀(x:zao) (r:Fr) (a a' deep:Int),r.fn=f→Lk f f' a a'→EvR f f' (rec x r a deep) (rec' x { r with fn:=f' } a' deep)
theorem Im.root{f f':F}(h:Im f f'):Lk f f' ((f.lists.length:Int)-1) ((f'.lists.length:Int)-1):=by
 obtain⟨t,ls',⟨row,out,acc,h1,h2,rfl⟩,rfl⟩:=h
 have hl:=(yaq.1 h1).1
 exact⟨0,row,[],t,out,acc,by omega,by rw[show((f.lists.length:Int)-1).toNat=f.lists.length-1 by omega];exact h1,h2,by simp,ydu _⟩
theorem Im.same{f f':F}(h:Im f f'):f'.type=f.type∧f'.locals=f.locals∧f'.params=f.params:=by
 obtain⟨_,_,_,rfl⟩:=h
 exact⟨rfl,rfl,rfl⟩
theorem zau{α:Type}{R:Ev α→Ev α→Prop}(hb:R .bad .bad){g g':F}{r:Fr}(hr:r.fn=g){k k':Int→Fr→Ev α}(h:∀v r,r.fn=g→R (k v r) (k' v { r with fn:=g' })):R (zbK r k) (zbK { r with fn:=g' } k'):=by
 unfold zbK
 simp only
 cases r.stack.getLast? with
 | none=>exact hb
 | some v=>exact h v { r with stack:=r.stack.dropLast } hr
theorem zmj{α:Type}{f f':F}{x:zao}{a n:Int}{k k':List UInt8→Ev α}(h:∀l,EvR f f' (k l) (k' l)):EvR f f' (zh5 x a n k) (zh5 x a n k'):=by
 unfold zh5
 split
 ·exact .bad
 ·split
  ·exact .over ..
  ·exact h _
theorem zmk{rec rec':zey}(hs:zeC rec rec'){g g' f f':F}(hg:Im g g'){r:Fr}(hr:r.fn=f)(x:zao)(args:List Int):EvR f f' (zbQ rec x g args r) (zbQ rec' x g' args { r with fn:=f' }):=by
 obtain⟨e1,e2,e3⟩:=hg.same
 unfold zbQ
 rw[e1,e2]
 split
 ·exact .over ..
 ·have h:=hs g g' hg { x with calls:=x.calls+1 } ⟨g,args++yaj g.locals.length 0,[],0⟩ _ _ 0 rfl hg.root
  revert h
  generalize rec { x with calls:=x.calls+1 } ⟨g,args++yaj g.locals.length 0,[],0⟩ ((g.lists.length:Int)-1) 0=u
  generalize rec' { x with calls:=x.calls+1 } ⟨g',args++yaj g.locals.length 0,[],0⟩ ((g'.lists.length:Int)-1) 0=u'
  intro h
  cases h with
  | bad=>exact .bad
  | over s c x=>exact .over ..
  | ok o x1 r1 h1 =>
   simp only
   split
   ·exact zau .bad h1 fun v r2 _=>.ok _ _ _ hr
   ·exact .ok _ _ _ hr
section
variable {fs fs' : List F} {rec rec' : zey} {f f' : F}
def Ims(fs fs':List F):Prop:=fs'.length=fs.length∧∀(i:Nat) (g:F),fs[i]?=some g→∃g',fs'[i]?=some g'∧Im g g'
theorem znB(hs:zeC rec rec')(hf:Ims fs fs'){r:Fr}(hr:r.fn=f)(x:zao)(n:Int):EvR f f' (zaa fs rec x r n) (zaa fs' rec' x { r with fn:=f' } n):=by
 unfold zaa
 split
 ·cases x.input with
  | nil=>exact .ok () x (r.push 0) hr
  | cons v l=>exact .ok () _ (r.push v) hr
 ·split
  ·exact zau .bad hr fun v r2 h2=>.ok _ _ _ h2
  ·split
   ·exact zau .bad hr fun v r2 h2=>.over ..
   ·split
    ·exact .bad
    ·cases hg:fs[(n-3).toNat]? with
     | none =>
      rw[ydv]at hg
      rw[yb2 (by rw[hf.1];exact hg)]
      exact .bad
     | some g =>
      obtain⟨g',hg',im⟩:=hf.2 _ g hg
      rw[hg']
      obtain⟨e1,e2,e3⟩:=im.same
      simp only
      rw[e1,e3]
      split
      ·exact .bad
      ·have h:=zmk (f:=f) (f':=f') hs im (r:={ r with stack:=r.stack.take (r.stack.length-g.params.length) }) hr x (r.stack.drop (r.stack.length-g.params.length))
       revert h
       generalize zbQ rec x g (r.stack.drop (r.stack.length-g.params.length)) { r with stack:=r.stack.take (r.stack.length-g.params.length) }=u
       generalize hu':zbQ rec' x g' (r.stack.drop (r.stack.length-g.params.length)) { { r with stack:=r.stack.take (r.stack.length-g.params.length) }with fn:=f' }=u'
       intro h
       cases h with
       | bad=>exact .bad
       | over s c x=>exact .over ..
       | ok v x1 r1 h1 =>
        simp only
        split
        ·exact .ok _ _ (r1.push v) h1
        ·exact .ok _ _ r1 h1
theorem zrJ(hs:zeC rec rec')(hf:Ims fs fs'){r:Fr}(hr:r.fn=f)(x:zao){w:W}(hw:zR w=true)(hn:zbJ w=false):EvR f f' (zab fs rec w x r) (zab fs' rec' (zaL w) x { r with fn:=f' }):=by
 obtain⟨op,t,n,body,other,name⟩:=w
 simp only[zbJ,Bool.or_eq_false_iff,decide_eq_false_iff_not]at hn
 have hop:1≤op∧op≤18:=by
  unfold zR at hw
  simp only at hw
  split at hw
  ·omega
  ·split at hw
   ·omega
   ·split at hw
    ·omega
    ·simpa using hw
 rcases(show op=1∨op=2∨op=3∨op=4∨op=5∨op=6∨op=7∨op=8∨op=9∨op=10∨op=14∨op=15∨op=16∨op=17∨op=18 by omega)with rfl|rfl|rfl|rfl|rfl|rfl|rfl|rfl|rfl|rfl|rfl|rfl|rfl|rfl|rfl<;>simp[zab,zaL,zaD]
 ·exact .ok _ _ (r.push n) hr
 ·split
  ·exact .bad
  ·cases r.locals[n.toNat]? with
   | none=>exact .bad
   | some v=>exact .ok _ _ (r.push v) hr
 ·split
  ·exact .bad
  ·exact zau .bad hr fun v r2 h2=>.ok _ _ { r2 with locals:=r2.locals.set n.toNat v } h2
 ·refine zau .bad hr fun b r2 h2=>zau .bad h2 fun a r3 h3=>?_
  split
  ·exact .ok _ _ (r3.push _) h3
  ·exact .over ..
 ·exact zau .bad hr fun v r2 h2=>.ok _ _ (r2.push _) h2
 ·exact zau .bad hr fun v r2 h2=>.ok _ _ (r2.push _) h2
 ·exact .ok _ _ r hr
 ·exact zau .bad hr fun a r2 h2=>zmj fun l=>.ok _ _ (r2.push _) h2
 ·exact zau .bad hr fun v r2 h2=>zau .bad h2 fun a r3 h3=>zmj fun l=>.ok _ _ r3 h3
 ·exact znB hs hf hr x n
 ·exact .ok _ _ r hr
 ·exact .ok _ _ r hr
 ·exact .ok _ _ r hr
 ·exact .over ..
 ·exact zau .bad hr fun v r2 h2=>.ok _ _ r2 h2
theorem zyo(im:Im f f'){r:Fr}(hr:r.fn=f)(x:zao)(deep:Int){w:W}(hop:w.op=14∨w.op=15∨w.op=16):EvR f f' (zgE w deep x r) (zgE (zaL w) deep x { r with fn:=f' }):=by
 obtain⟨e1,_,_⟩:=im.same
 have go:∀(n:Int) (r:Fr),r.fn=f→EvR f f' (if n=deep∧r.fn.type≠0 then zbK r fun v r=>Ev.ok n x { r with result:=v }else .ok n x r) (if n=deep∧f'.type≠0 then zbK { r with fn:=f' } fun v r=>Ev.ok n x { r with result:=v }else .ok n x { r with fn:=f' }):=fun n r hr=>by
  rw[e1,hr]
  split
  ·exact zau .bad hr fun v r2 h2=>.ok _ _ { r2 with result:=v } h2
  ·exact .ok _ _ r hr
 obtain⟨op,t,n,body,other,name⟩:=w
 simp only at hop
 rcases hop with rfl|rfl|rfl
 ·have:=go n r hr
  simpa [zgE,zaL,zaD]using this
 ·have:=zau (R:=EvR f f') .bad hr (k:=fun c r=>if c=0 then Ev.ok (-1) x r else(if n=deep∧r.fn.type≠0 then zbK r fun v r=>Ev.ok n x { r with result:=v }else .ok n x r))
   (k':=fun c r=>if c=0 then Ev.ok (-1) x r else(if n=deep∧r.fn.type≠0 then zbK r fun v r=>Ev.ok n x { r with result:=v }else .ok n x r)) fun c r2 h2=>by
    simp only
    split
    ·exact .ok _ _ r2 h2
    ·exact go n r2 h2
  simpa [zgE,zaL,zaD]using this
 ·have:=go deep r hr
  simpa [zgE,zaL,zaD]using this
theorem zoE(hs:zeC rec rec')(im:Im f f'){a a':Int}(hl:Lk f f' a a')(b:Bool)(deep:Int):∀(j:Nat) (x:zao) (r:Fr),r.fn=f→EvR f f' (zcl rec b a deep j x r) (zcl rec' b a' deep j x { r with fn:=f' })
 | 0,x,r,hr=>.bad
 | j+1,x,r,hr=>by
  rw[zcl,zcl]
  have h:=hs f f' im x r a a' deep hr hl
  revert h
  generalize rec x r a deep=u
  generalize rec' x { r with fn:=f' } a' deep=u'
  intro h
  cases h with
  | bad=>exact .bad
  | over s c x=>exact .over ..
  | ok o x1 r1 h1 =>
   simp only
   split
   ·exact zoE hs im hl b deep j x1 r1 h1
   ·exact .ok _ _ r1 h1
end
section
variable {fs fs' : List F} {rec rec' : zey} {f f' : F}
theorem zrK(hs:zeC rec rec')(im:Im f f'){a a':Int}(h:(a<0∧a'<0)∨Lk f f' a a')(b:Bool)(deep:Int)(k:Nat)(x:zao){r:Fr}(hr:r.fn=f):
  EvR f f' (if a<0 then Ev.ok (-1) x r else zcl rec b a deep k x r) (if a'<0 then Ev.ok (-1) x { r with fn:=f' }else zcl rec' b a' deep k x { r with fn:=f' }):=by
 rcases h with ⟨h1,h2⟩|h
 ·rw[if_pos h1,if_pos h2]
  exact .ok _ _ r hr
 ·have h1:¬a<0:=by obtain⟨_,_,_,_,_,_,h1,_⟩:=h;omega
  have h2:¬a'<0:=by obtain⟨_,_,_,_,_,_,_,_,_,h2,_⟩:=h;omega
  rw[if_neg h1,if_neg h2]
  exact zoE hs im h b deep k x r hr
theorem zpB(hs:zeC rec rec')(im:Im f f'){w w':W}(ho:w'.op=w.op)(hb:Lk f f' w.body w'.body)(hoth:w.op=13→(w.other<0∧w'.other<0)∨Lk f f' w.other w'.other)(k:Nat)(deep:Int)(x:zao){r:Fr}(hr:r.fn=f):
  EvR f f' (zaz rec k w deep x r) (zaz rec' k w' deep x { r with fn:=f' }):=by
 unfold zaz
 simp only[ho]
 by_cases h13:w.op=13
 ·rw[if_pos h13,if_pos h13]
  refine zau (R:=EvR f f') .bad hr fun c r2 h2=>?_
  by_cases hc:c=0
  ·simp only[hc,if_true]
   exact zrK hs im (hoth h13) _ deep k x h2
  ·simp only[hc,if_false]
   exact zrK hs im (.inr hb) _ deep k x h2
 ·rw[if_neg h13,if_neg h13]
  exact zrK hs im (.inr hb) _ deep k x hr
theorem zrL(hs:zeC rec rec')(hf:Ims fs fs')(im:Im f f'){w:W}(hw:zR w=true)(hn:zbJ w=false)(k:Nat)(deep:Int)(x:zao){r:Fr}(hr:r.fn=f):EvR f f' (zbR fs rec k deep w x r) (zbR fs' rec' k deep (zaL w) x { r with fn:=f' }):=by
 have hn':=hn
 simp only[zbJ,Bool.or_eq_false_iff,decide_eq_false_iff_not]at hn'
 have e:(zaL w).op=w.op:=rfl
 unfold zbR
 rw[e,if_neg (show ¬(w.op=11∨w.op=12∨w.op=13)by omega),if_neg (show ¬(w.op=11∨w.op=12∨w.op=13)by omega)]
 by_cases ho:w.op=14∨w.op=15∨w.op=16
 ·rw[if_pos ho,if_pos ho]
  exact zyo im hr x deep ho
 ·rw[if_neg ho,if_neg ho]
  have h:=zrJ (f:=f) (f':=f') hs hf hr x hw hn
  revert h
  generalize zab fs rec w x r=u
  generalize zab fs' rec' (zaL w) x { r with fn:=f' }=u'
  intro h
  cases h with
  | bad=>exact .bad
  | over s c x=>exact .over ..
  | ok v x1 r1 h1=>exact .ok _ _ r1 h1
theorem zml(hs:zeC rec rec')(im:Im f f'){w w':W}(hw:w.op=11∨w.op=12∨w.op=13)(ho:w'.op=w.op)(hb:Lk f f' w.body w'.body)(hoth:w.op=13→(w.other<0∧w'.other<0)∨Lk f f' w.other w'.other)(k:Nat)(deep:Int)(x:zao){r:Fr}(hr:r.fn=f):
  EvR f f' (zbR fs rec k deep w x r) (zbR fs' rec' k deep w' x { r with fn:=f' }):=by
 unfold zbR
 rw[ho,if_pos hw,if_pos hw]
 exact zpB hs im ho hb hoth k _ x hr
theorem zkK{w w':W}{ws out:List W}{k:Nat}{deep:Int}{height:Nat}(hw:∀(x:zao) (r:Fr),r.fn=f→EvR f f' (zbR fs rec k deep w x r) (zbR fs' rec' k deep w' x { r with fn:=f' }))
  (ih:∀(x:zao) (r:Fr),r.fn=f→EvR f f' (zam fs rec k deep height ws x r) (zam fs' rec' k deep height out x { r with fn:=f' })) (x:zao) {r:Fr} (hr:r.fn=f) :
  EvR f f' (zam fs rec k deep height (w::ws) x r) (zam fs' rec' k deep height (w'::out) x { r with fn:=f' }):=by
 rw[zam,zam]
 by_cases hx:x.steps<1
 ·rw[if_pos hx,if_pos hx]
  exact .over ..
 ·rw[if_neg hx,if_neg hx]
  have h:=hw { x with steps:=x.steps-1 } r hr
  revert h
  generalize zbR fs rec k deep w { x with steps:=x.steps-1 } r=u
  generalize zbR fs' rec' k deep w' { x with steps:=x.steps-1 } { r with fn:=f' }=u'
  intro h
  cases h with
  | bad=>exact .bad
  | over s c x=>exact .over ..
  | ok o x1 r1 h1 =>
   simp only
   split
   ·exact ih x1 r1 h1
   ·split
    ·exact .bad
    ·exact .ok _ _ { r1 with stack:=r1.stack.take height } h1
theorem zpC(hs:zeC rec rec')(hf:Ims fs fs')(im:Im f f'){d:Nat}{ws:List W}{acc acc':To}{toks:List Tok}{out:List W}(h:Pr f.lists d ws acc toks out acc'):acc'<+:f'.lists→∀(k:Nat) (deep:Int) (height:Nat) (x:zao) (r:Fr),r.fn=f →
  EvR f f' (zam fs rec k deep height ws x r) (zam fs' rec' k deep height out x { r with fn:=f' }):=by
 generalize hls:f.lists=ls at h
 induction h with
 | nil=>intro _ k deep height x r hr;exact .ok _ _ r hr
 | leaf hn hw hrg _ ih =>
  intro hp k deep height x r hr
  exact zkK (fun x r hr=>zrL hs hf im hw hn k deep x hr) (fun x r hr=>ih hp k deep height x r hr) x hr
 | @one d w b r0 acc tb b' acc1 t r' acc' ho hd hb0 hb p1 p2 ih1 ih2 =>
  intro hp k deep height x r hr
  have hp1:acc1++[b']<+:f'.lists:=(zbj p2).trans hp
  have hlk:Lk f f' w.body (acc1.length:Int):=⟨d+1,b,acc,tb,b',acc1,hb0,by rw[hls];exact hb,by rw[hls];exact p1,rfl,hp1⟩
  have hop:w.op=11∨w.op=12∨w.op=13:=by omega
  refine zkK (fun x r hr=>zml (w':=zX w.op acc1.length (if w.op=13 then -1 else 0)) hs im hop rfl (by simpa [zX]using hlk) (fun h13=>?_) k deep x hr) (fun x r hr=>ih2 hp k deep height x r hr) x hr
  rcases ho with e|e|e
  ·omega
  ·omega
  ·exact .inl ⟨e.2,by simp[zX,e.1]⟩
 | @two d w b e0 r0 acc tb b' acc1 te e' acc2 t r' acc' ho hoo hd hb0 hb hf0 p1 p2 p3 ih1 ih2 ih3 =>
  intro hp k deep height x r hr
  have hp2:acc2++[e']<+:f'.lists:=(zbj p3).trans hp
  have hp1:acc1++[b']<+:f'.lists:=(zbj p2).trans ((ycH _ _).trans hp2)
  have hlk:Lk f f' w.body (acc1.length:Int):=⟨d+1,b,acc,tb,b',acc1,hb0,by rw[hls];exact hb,by rw[hls];exact p1,rfl,hp1⟩
  have hlk2:Lk f f' w.other (acc2.length:Int):=⟨d+1,e0,_,te,e',acc2,hoo,by rw[hls];exact hf0,by rw[hls];exact p2,rfl,hp2⟩
  exact zkK (fun x r hr=>zml hs im (.inr (.inr ho)) (by simp[zX,ho]) (by simpa [zX]using hlk) (fun _=>.inr (by simpa [zX]using hlk2)) k deep x hr) (fun x r hr=>ih3 hp k deep height x r hr) x hr
end
theorem zoF{fs fs':List F}(hf:Ims fs fs'):∀k,zeC (zkE fs k) (zkE fs' k)
 | 0=>fun _ _ _ _ _ _ _ _ _ _=>.bad
 | k+1=>fun f f' im x r a a' deep hr hl=>by
  obtain⟨d,b,acc,toks,b',acc1,h0,h1,h2,rfl,h3⟩:=hl
  rw[zkE,zkE,if_neg (by omega),if_neg (by omega),hr,h1,ybe,zbA h3]
  simp only
  exact zpC (zoF hf k) hf im h2 ((ycH _ _).trans h3) k deep r.stack.length x r hr
theorem zu4{fs fs':List F}{toks:List Tok}(h:PrFs fs toks fs'):Ims fs fs':=by
 obtain⟨h1,h2⟩:=zkJ h
 refine⟨h1,fun i g hg=>?_⟩
 have hi:=(yaq.1 hg).1
 have h3:fs'[i]?=some (fs'[i]'(by omega)):=yau _
 obtain⟨f,t,ls',q1,q2,q3⟩:=h2 i _ h3
 obtain rfl:=yaR.inj (hg.symm.trans q1)
 exact⟨_,h3,t,ls',q2,q3⟩
theorem zyp{m:M}{toks:List Tok}{fs':List F}(h:PrFs m.funcs toks fs')(input:List Int)(steps:Int)(k:Nat):zpJ ⟨fs',m.memory,m.main⟩ input steps k=zpJ m input steps k:=by
 have hf:=zu4 h
 unfold zpJ
 simp only
 by_cases hm:m.main<0
 ·rw[if_pos hm,if_pos hm]
 ·rw[if_neg hm,if_neg hm]
  cases hg:m.funcs[m.main.toNat]? with
  | none =>
   rw[ydv]at hg
   rw[yb2 (by rw[hf.1];exact hg)]
  | some g =>
   obtain⟨g',hg',im⟩:=hf.2 _ g hg
   rw[hg']
   simp only
   have q:=zmk (f:=g) (f':=g') (zoF hf k) im (r:=⟨g,[],[],0⟩) rfl ⟨input,steps,yaj m.memory.toNat 0,[],0⟩ []
   revert q
   generalize zbQ (zkE m.funcs k) ⟨input,steps,yaj m.memory.toNat 0,[],0⟩ g [] ⟨g,[],[],0⟩=u
   generalize hu:zbQ (zkE fs' k) ⟨input,steps,yaj m.memory.toNat 0,[],0⟩ g' [] ⟨g',[],[],0⟩=u'
   intro q
   cases q with
   | bad=>rfl
   | over s c x=>rfl
   | ok v x r _=>rfl
end Go.Proofs.YtohfclafhegadaaGreatDoor
namespace Go.Proofs.YtohfclafhegadaaGreatDoor
open Go Go.Abs
structure Rd1(w:W)(c:UInt8):Prop where
 code:zI1 w=some c
 n11:c≠11
 n5:c≠5
 leaf:¬(2≤c.toNat∧c.toNat≤4)
 read:∀(st:Bool) (s:Rs) (r:List UInt8),s.b=zI0 w++r→zEz st c s=some (zaL w,{ s with b:=r })
end Go.Proofs.YtohfclafhegadaaGreatDoor
namespace Go.Proofs.YtohfclafhegadaaGreatDoor
open Go Go.Abs
theorem zrM{w:W}(hf:zR w=true)(hn:zbJ w=false):zR (zaL w)=true∧zcL (zaL w)=zcL w∧zaL (zaL w)=zaL w:=by
 obtain⟨op,ty,n,body,other,name⟩:=w
 simp only[zbJ,Bool.or_eq_false_iff,decide_eq_false_iff_not]at hn
 by_cases h1:op=1∨op=5
 ·rcases h1 with rfl|rfl<;>simpa [zR,zcL,zF,zaL,zaD]using hf
 ·by_cases h4:op=4
  ·subst h4
   simpa [zR,zcL,zF,zaL,zaD]using hf
  ·by_cases h8:op=8∨op=9
   ·rcases h8 with rfl|rfl<;>simpa [zR,zcL,zF,zaL,zaD]using hf
   ·have hf':=hf
    unfold zR at hf'
    simp only at hf'
    rw[if_neg h1,if_neg h4,if_neg h8]at hf'
    simp only[Bool.and_eq_true,decide_eq_true_eq]at hf'
    rcases(show op=2∨op=3∨op=10∨op=14∨op=15∨op=6∨op=7∨op=16∨op=17∨op=18 by omega)with rfl|rfl|rfl|rfl|rfl|rfl|rfl|rfl|rfl|rfl<;>simp[zR,zcL,zF,zaL,zaD]
theorem zrN{w:W}(h:RgW w):RgW (zaL w):=by
 have h1:=h.1
 have h2:=h.2
 unfold RgW zaL
 simp only
 split
 ·exact h
 ·omega
theorem zyq{ls fin:To}{d:Nat}{ws:List W}{acc acc':To}{toks:List Tok}{out:List W}(h:Pr ls d ws acc toks out acc'):acc'<+:fin→Pr fin d out acc toks out acc':=by
 induction h with
 | nil d acc=>intro _;exact .nil d acc
 | leaf hn hf hr _ ih =>
  intro hp
  obtain⟨e1,e2,e3⟩:=zrM hf hn
  have q:=Pr.leaf (w:=zaL _) hn e1 (zrN hr) (ih hp)
  rw[e2,e3]at q
  exact q
 | @one d w b r acc tb b' acc1 t r' acc' ho hd hb0 hb p1 p2 ih1 ih2 =>
  intro hp
  have hp1:acc1++[b']<+:fin:=(zbj p2).trans hp
  have hv:(zX w.op acc1.length (if w.op=13 then -1 else 0)).op=11∨(zX w.op acc1.length (if w.op=13 then -1 else 0)).op=12∨(zX w.op acc1.length (if w.op=13 then -1 else 0)).op=13∧(zX w.op acc1.length (if w.op=13 then -1 else 0)).other<0:=by
   simp only[zX]
   rcases ho with e|e|e
   ·exact .inl e
   ·exact .inr (.inl e)
   ·exact .inr (.inr ⟨e.1,by rw[if_pos e.1];omega⟩)
  exact Pr.one (w:=zX w.op acc1.length (if w.op=13 then -1 else 0)) hv hd (by simp[zX]) (by simpa [zX]using zbA hp1) (ih1 ((ycH _ _).trans hp1)) (ih2 hp)
 | @two d w b f r acc tb b' acc1 te e' acc2 t r' acc' ho hoo hd hb0 hb hf p1 p2 p3 ih1 ih2 ih3 =>
  intro hp
  have hp2:acc2++[e']<+:fin:=(zbj p3).trans hp
  have hp1:acc1++[b']<+:fin:=(zbj p2).trans ((ycH _ _).trans hp2)
  exact Pr.two (w:=zX 13 acc1.length acc2.length) rfl (by simp[zX]) hd (by simp[zX]) (by simpa [zX]using zbA hp1) (by simpa [zX]using zbA hp2) (ih1 ((ycH _ _).trans hp1)) (ih2 ((ycH _ _).trans hp2)) (ih3 hp)
theorem zu5{f:F}{toks:List Tok}{ls':To}(h:PrF f toks ls'):PrF { f with lists:=ls' } toks ls':=by
 obtain⟨row,out,acc,h1,h2,rfl⟩:=h
 exact⟨out,out,acc,by simp,zyq h2 (ycH _ _),rfl⟩
theorem zrO{fs fs':List F}{toks:List Tok}(h:PrFs fs toks fs'):PrFs fs' toks fs':=by
 induction h with
 | nil=>exact .nil
 | cons p _ ih=>exact .cons (zu5 p) ih
theorem zJo{gs:List F}{f:F}(h:zn gs f=.ok ())(ht:zhF 24 f.name=true):Pf 24 f:=by
 unfold zn at h
 split at h
 ·cases h
 rename_i hb
 simp only[Bool.not_eq_false,Bool.and_eq_true,List.all_append,decide_eq_true_eq]at hb
 obtain⟨⟨⟨h1,h2⟩,h3⟩,h4⟩:=hb
 have key:∀l:List Int,l.all zT=true→∀t∈l,t=1∨t=2:=fun l hl x hx=>by
  have:=yaM.1 hl x hx
  simpa only[zT,Bool.or_eq_true,decide_eq_true_eq]using this
 exact⟨ht,key _ h1,key _ h2,by omega⟩
theorem zyr{t:List UInt8}(h:zhF 24 t=true):t.length≤24:=by
 rw[zqG]at h
 simp only[Bool.and_eq_true,decide_eq_true_eq]at h
 exact h.1.2
theorem zu6(m:M)(toks:List Tok)(h1:-(2^63)≤m.memory)(h2:m.memory<2^63):(zfo (zbz m toks)).length≤(spT toks).length+400:=by
 have hw:=(zhO (m.main+3)).1
 have i1:=Lib.itoa_length_le m.memory (by omega) (by omega)
 have i2:=Lib.itoa_length_le (yb4 .i64 (m.main+3)) (by omega) (by omega)
 have hh:zbv.length=185:=by rfl
 have e1:(spT [Lib.itoa m.memory,zg,zg]).length=(Lib.itoa m.memory).length+5:=by simp[spT,zg]
 have e2:(spT [zA,zbw,zfO,zA,zbo,Lib.itoa (yb4 .i64 (m.main+3)),zg,zg,zg]).length≤(Lib.itoa (yb4 .i64 (m.main+3))).length+60:=by
  simp[spT,zg,zA,zbw,zfO,zbo]
 rw[zfY]
 simp only[yab,yac,ybl]
 omega
theorem zrP(op b o:Int):RgW { op:=op,ty:=0,n:=0,body:=b,other:=o,name:=[] }:=⟨by simp,by simp⟩
theorem zkL{acc:To}{b:List W}(h1:∀l∈acc,∀w∈l,RgW w)(h2:∀w∈b,RgW w):∀l∈acc++[b],∀w∈l,RgW w:=fun l hl=>by
 rcases ybh.1 hl with hl|hl
 ·exact h1 l hl
 ·simp at hl;subst hl;exact h2
theorem znC{w:W}{l:List W}(h1:RgW w)(h2:∀w∈l,RgW w):∀v∈w::l,RgW v:=fun v hv=>by
 rcases ybC.1 hv with rfl|hv
 ·exact h1
 ·exact h2 v hv
theorem zJp{ls:To}{d:Nat}{ws:List W}{acc acc':To}{toks:List Tok}{out:List W}(h:Pr ls d ws acc toks out acc'):(∀l∈acc,∀w∈l,RgW w)→(∀w∈out,RgW w)∧∀l∈acc',∀w∈l,RgW w:=by
 induction h with
 | nil=>exact fun h=>⟨by simp,h⟩
 | leaf hn hf hr _ ih =>
  intro h
  obtain⟨a,b⟩:=ih h
  exact⟨znC (zrN hr) a,b⟩
 | one _ _ _ _ _ _ ih1 ih2 =>
  intro h
  obtain⟨a1,b1⟩:=ih1 h
  obtain⟨a2,b2⟩:=ih2 (zkL b1 a1)
  exact⟨znC (zrP ..) a2,b2⟩
 | two _ _ _ _ _ _ _ _ _ ih1 ih2 ih3 =>
  intro h
  obtain⟨a1,b1⟩:=ih1 h
  obtain⟨a2,b2⟩:=ih2 (zkL b1 a1)
  obtain⟨a3,b3⟩:=ih3 (zkL b2 a2)
  exact⟨znC (zrP ..) a3,b3⟩
theorem zmm{l:List W}:∀{ls:To},l∈ls→l.length≤zeS ls
 | x::ls,h=>by
  simp only[zeS,yaL,List.sum_cons]
  rcases ybC.1 h with rfl|h
  ·omega
  ·have:=zmm h
   simp only[zeS]at this
   omega
structure zrQ(f:F):Prop where
 params:f.params.length≤3000
 locals:f.locals.length≤3000
 lists:f.lists.length≤6001
 rows:∀l∈f.lists,l.length≤3000
 rg:∀l∈f.lists,∀w∈l,RgW w
 pf:Pf 24 f
theorem zrR{m:M}(hF:Few m)(hrg:∀f∈m.funcs,RgL f.lists)(h4:∀f∈m.funcs,f.lists.length≤400):∃toks fs2,PrFs m.funcs toks fs2∧(spT toks).length≤8000000∧(∀f∈m.funcs,zrQ f)∧fs2.length≤40∧∀f∈fs2,zrQ f:=by
 have hfn:=zbP hF.good
 have key:∀f∈m.funcs,zrQ f:=fun f hf=>by
  obtain⟨e1,e2⟩:=hF.each f hf
  have h400:=h4 f hf
  exact⟨by omega,by omega,by omega,fun l hl=>by have:=zuv hl;omega,hrg f hf,zJo (hfn f hf) e2⟩
 obtain⟨toks,fs2,h1,h2,h3⟩:=zmh (gs:=m.funcs) m.funcs fun f hf=>⟨hfn f hf,hrg f hf,h4 f hf,zyr (hF.each f hf).2,by have:=(hF.each f hf).1;omega⟩
 have hl:=(zkJ h1).1
 have h40:=hF.funcs
 refine⟨toks,fs2,h1,by omega,key,by omega,fun f' hf'=>?_⟩
 obtain⟨f,hf,t,ls',p,rfl,r1,r2⟩:=h3 f' hf'
 have k:=key f hf
 obtain⟨row,out,acc,q1,q2,rfl⟩:=p
 obtain⟨g1,g2⟩:=zJp q2 (fun l hl=>by cases hl)
 exact⟨k.params,k.locals,r2,fun l hl=>yai (zmm hl) r1,zkL g2 g1,⟨k.pf.name,k.pf.params,k.pf.locals,k.pf.type⟩⟩
theorem zrS{fs:List F}(h:∀f∈fs,zrQ f):zpK fs:=fun f hf=>by
 obtain⟨h1,h2,h3,h4,h5,_⟩:=h f hf
 exact⟨by omega,by omega,by omega,fun l hl=>by have:=h4 l hl;omega,fun l hl w hw=>by have:=(h5 l hl w hw).2;omega⟩
theorem zpD{m:M}(hl:m.funcs.length≤40)(h:∀f∈m.funcs,zrQ f):zpa m :=
 ⟨by omega,fun f hf=>by have:=(h f hf).params;omega,fun f hf=>by have:=(h f hf).locals;omega,fun f hf=>by have:=(h f hf).lists;omega,fun f hf l hl=>by have:=(h f hf).rows l hl;omega,fun f hf l hl w hw=>by have:=((h f hf).rg l hl w hw).2;omega⟩
section
variable {G : Env} {σ : AS} {R : Out → AS → Prop}
theorem zE7{n k:Int}(hn:-(2^63)≤n∧n<2^63)(hk:1≤k∧k≤2^40)(h:∀r,0≤r→r<k→R (.ret (.int .i64 r)) σ):zzQ G 26 [.int .i64 n,.int .i64 k] σ R:=by
 refine zw3 rfl ?_
 have h1:¬k<1:=by omega
 have h0:¬k=0:=by omega
 have t1:=ydw n (show 0<k by omega)
 have t2:-k<n.tmod k:=by
  have:=ydw (-n) (show 0<k by omega)
  rw[Int.neg_tmod]at this
  omega
 have w1:yb4 .i64 (n.tmod k)=n.tmod k:=by rw[zc]<;>omega
 by_cases hneg:n.tmod k<0
 ·have w2:yb4 .i64 (n.tmod k+k)=n.tmod k+k:=by rw[zc]<;>omega
  simp[zIi,h1,h0,w1,hneg,w2]
  exact h _ (by omega) (by omega)
 ·simp[zIi,h1,h0,w1,hneg]
  exact h _ (by omega) (by omega)
theorem zrT{va vb:AV}{p:List Int}{s c:Int}(ha:zZ va p)(hb:zZ vb p)(hl:p.length≤2^40)(h:∀σ',zh σ σ'→R (.ret (.bool true)) σ'):
  zzQ G 27 [.agg [va,.int .i64 s,.int .i64 c],.agg [vb,.int .i64 s,.int .i64 c]] σ R:=by
 refine zw4 rfl ?_
 have a1:=ha.one
 have b1:=hb.one
 have A:zh σ ((σ.newO [va,.int .i64 s,.int .i64 c]).newO [vb,.int .i64 s,.int .i64 c]):=(zh.refl σ).newO.newO
 have k:=h _ A
 simp[zJK,a1,b1]
 refine ziD ha hb hl ?_
 simp
 exact k
end
@[simp] theorem zAE(σ:AS):(zl8 σ).objs=σ.objs:=rfl
@[simp] theorem zHA(σ:AS):(zl8 σ).no=σ.no:=rfl
section
variable {G : Env} {σ : AS} {R : Out → AS → Prop}
theorem zoG(V:zb6 G)(hG:∀k,StillI (G.g k))(hy:∀l,¬G.has l)(h:R (.ret (.bool true)) σ):zzQ G 12 [] σ R :=
 zqO (vs:=[]) (Q:=fun x=>x=.bool true) hG hy (fun v hv=>by cases hv) (zyg V ⟨by decide,rfl⟩ fun _ _=>⟨_,rfl,.bool _,rfl⟩) fun x hx=>by rw[hx];exact h
theorem zE8:∀{iv:AV} {input:List Int},zZ iv input→∀K:AV→Prop,zgF yb9 44 iv K=K (.int .i64 (input.length:Int)):=fun h=>zZ.len h
theorem zrU(VT:zb6 G)(VC:zkj G)(hG:∀k,StillI (G.g k))(hy:∀l,¬G.has l)(h00:0<σ.nf∧σ.F 0=.alive){mv iv:AV}{m:M}{input:List Int}{steps:Int}(hm:MV mv m)(hfl:m.funcs.length≤2^20)(hf:∀f∈m.funcs,zyh f)(hrg:∀f∈m.funcs,RgL f.lists)(hi:zZ iv input)(hst:-(2^63)≤steps∧steps<2^63)(h:∀σ',R (.ret (.bool true)) σ'):zzQ G 9 [mv,iv,.int .i64 steps] σ R:=by
 refine zBK rfl ?_
 have hm0:=hm
 obtain⟨fv,rfl,hfs⟩:=hm
 have f1:=hfs.one
 have il:=zE8 hi
 have i1:=hi.one
 have A1:zh σ (σ.newO [fv,.int .i64 m.memory,.int .i64 m.main]):=(zh.refl σ).newO
 have o1:(σ.newO [fv,.int .i64 m.memory,.int .i64 m.main]).objs σ.no=some [fv,.int .i64 m.memory,.int .i64 m.main]:=by simp
 have hl1:σ.no<(σ.newO [fv,.int .i64 m.memory,.int .i64 m.main]).no:=by simp
 have h01:0<(σ.newO [fv,.int .i64 m.memory,.int .i64 m.main]).nf∧(σ.newO [fv,.int .i64 m.memory,.int .i64 m.main]).F 0=.alive:=⟨by have:=A1.nf;omega,(A1.fam 0 h00.1).trans h00.2⟩
 simp[pc9,f1]
 generalize σ.newO [fv,.int .i64 m.memory,.int .i64 m.main]=σ1 at *
 refine zJh VC hG hy (Al.m_o hm0) hfl hf fun b σ2 hb A2=>?_
 have ho2:=(A2.obj σ.no hl1).trans o1
 cases b with
 | true =>
  simp[ho2,f1]
  refine zoG VT hG hy ?_
  simp
  exact h _
 | false =>
  have hF:=hb rfl
  by_cases hin:(100:Int)<(input.length:Int)
  ·have hin':100<input.length:=by omega
   simp[ho2,f1,il,hin,hin']
   refine zoG VT hG hy ?_
   simp
   exact h _
  ·have hin':¬100<input.length:=by omega
   simp[ho2,f1,il,hin,hin']
   refine zE0 (Al.m_o hm0) (by omega) (fun f q=>by have:=(hf f q).lists;omega) fun b2 σ3 hb2 A3=>?_
   have A13:=A2.trans A3
   have ho3:=(A13.obj σ.no hl1).trans o1
   cases b2 with
   | true =>
    simp[ho3,f1]
    refine zoG VT hG hy ?_
    simp
    exact h _
   | false =>
    obtain⟨toks,fs2,w1,w2,w3,w4,w5⟩:=zrR hF hrg (hb2 rfl)
    have hmem:=zgr hF.good
    obtain⟨mn0,g0,hg0,_,_⟩:=zjp hF.good
    have hmn1:m.main.toNat<m.funcs.length:=(yaq.1 hg0).1
    have h40:=hF.funcs
    have htl:=zu6 m toks (by omega) (by omega)
    have hpf:∀f∈m.funcs,Pf 24 f:=fun f q=>(w3 f q).pf
    have hsz:∀f∈m.funcs,f.lists.length≤2^40∧∀ws∈f.lists,ws.length≤2^40:=fun f q=>⟨by have:=(w3 f q).lists;omega,fun ws hw=>by have:=(w3 f q).rows ws hw;omega⟩
    have hback:=zlR w1 hpf ⟨by omega,by omega⟩ ⟨by omega,by omega⟩
    simp[ho3,f1]
    refine znn VT (Al.m_o hm0) w1 hpf (by decide) hsz (by omega) ⟨by omega,by omega⟩ (by omega) fun σ4 A4=>?_
    have A14:=A13.trans A4
    have ho4:=(A14.obj σ.no hl1).trans o1
    have hl4:σ.no<σ4.no:=by have:=A14.no;omega
    have h04:0<σ4.nf∧σ4.F 0=.alive:=⟨by have:=A14.nf;omega,(A14.fam 0 h01.1).trans h01.2⟩
    simp
    refine zE2 (zkx VT h04 (zya m toks) (by omega) (fun e q=>by rw[hback]at q;cases q) fun n hn nv σ5 hnv A5=>?_)
    rw[hback]at hn
    obtain rfl:n=⟨fs2,m.memory,m.main⟩:=by cases hn;rfl
    have h05:0<σ5.nf∧σ5.F 0=.alive:=⟨by have:=A5.nf;omega,(A5.fam 0 h04.1).trans h04.2⟩
    obtain⟨hcb,hmv⟩:=zvZ (Al.m_e h05 hnv)
    refine .inr (.inr ⟨[nv,.int .i64 0],rfl,fun v hv=>?_,?_⟩)
    ·simp at hv
     rcases hv with rfl|rfl
     ·exact hcb
     ·exact .int _ _
    ·have ho5:(zl8 σ5).objs σ.no=some [fv,.int .i64 m.memory,.int .i64 m.main]:=by simpa using (A5.obj σ.no hl4).trans ho4
     have hl5:σ.no<(zl8 σ5).no:=by have:=A5.no;simp;omega
     simp only[yaL,List.map_nil,zqM]
     generalize clm nv=pv at hmv ⊢
     generalize zl8 σ5=σ6 at *
     have hpv:=hmv
     obtain⟨gv,rfl,hgs⟩:=hmv
     have g1:=hgs.one
     simp[g1,splice]
     have B6:zh σ6 ((σ6.newO [ycu,.int .i64 0,.int .i64 0]).setO σ6.no [gv,.int .i64 m.memory,.int .i64 m.main]):=(zh.refl σ6).newO.setO (yah _)
     have hp7:((σ6.newO [ycu,.int .i64 0,.int .i64 0]).setO σ6.no [gv,.int .i64 m.memory,.int .i64 m.main]).objs σ6.no=some [gv,.int .i64 m.memory,.int .i64 m.main]:=by simp
     have ho7:=(B6.obj σ.no hl5).trans ho5
     have hn7:σ6.no<((σ6.newO [ycu,.int .i64 0,.int .i64 0]).setO σ6.no [gv,.int .i64 m.memory,.int .i64 m.main]).no:=by simp
     have hl7:σ.no<((σ6.newO [ycu,.int .i64 0,.int .i64 0]).setO σ6.no [gv,.int .i64 m.memory,.int .i64 m.main]).no:=by simp;omega
     have hne:¬σ.no=σ6.no:=by omega
     generalize (σ6.newO [ycu,.int .i64 0,.int .i64 0]).setO σ6.no [gv,.int .i64 m.memory,.int .i64 m.main]=σ7 at *
     refine zE7 (k:=2000) hst ⟨by decide,by decide⟩ fun r hr0 hr1=>?_
     have hpf2:∀f∈fs2,Pf 24 f:=fun f q=>(w5 f q).pf
     have hsz2:∀f∈fs2,f.lists.length≤2^40∧∀ws∈f.lists,ws.length≤2^40:=fun f q=>⟨by have:=(w5 f q).lists;omega,fun ws hw=>by have:=(w5 f q).rows ws hw;omega⟩
     have htx:zfo (zbz ⟨fs2,m.memory,m.main⟩ toks)=zfo (zbz m toks):=by rw[zfY,zfY]
     have hck2:zaB ⟨fs2,m.memory,m.main⟩=.ok ():=zrI hF.good w1
     simp[hp7,g1]
     refine znn VT (Al.m_o hpv) (zrO w1) hpf2 (by decide) hsz2 (by simp only;omega) ⟨by simp only;omega,by simp only;omega⟩ (by rw[htx];omega) fun σ8 A8=>?_
     rw[htx]
     have hp8:=(A8.obj _ hn7).trans hp7
     have ho8:=(A8.obj _ hl7).trans ho7
     simp[hp8,g1]
     refine zlK VC hG hy (m:=⟨fs2,m.memory,m.main⟩) (Al.m_o hpv) (zpD (by simp only;omega) w5) ?_
     rw[hck2]
     simp[zmW,hp8,ho8,g1,f1]
     refine zme (steps:=r) VC hpv hck2 (zrS w5) hi (by omega) (by omega) fun ov out st code σ9 he ho A9=>?_
     rw[zyp w1]at he
     have A79:=A8.trans A9
     have ho9:=(A79.obj _ hl7).trans ho7
     have ov1:=ho.one
     simp[ho9,f1]
     refine zme (steps:=r) VC hm0 hF.good (zrS w3) hi (by omega) (by omega) fun ov2 out2 st2 code2 σ10 he2 ho2 A10=>?_
     rw[he]at he2
     cases he2
     have ov2':=ho2.one
     obtain⟨_,_,_,q1,_,q2⟩:=zjk hF.good input r (r.toNat+1) (by omega)
     rw[he]at q1
     cases q1
     simp
     refine zrT ho ho2 (by omega) fun σ11 A11=>?_
     simp
     refine zoG VT hG hy ?_
     simp
     exact h _
end
end Go.Proofs.YtohfclafhegadaaGreatDoor
