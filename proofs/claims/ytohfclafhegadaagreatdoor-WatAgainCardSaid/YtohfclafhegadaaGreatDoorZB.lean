/- Parts of the proof of the row WatAgain: contracts of functions, each under the conditions that its theorem names. -/
import Derived.Test.YtohfclafhegadaaGreatDoorZA
import Derived.Test.YtohfclafhegadaaGreatDoorShelf
import Derived.Lib.AppendIntMem
import Derived.Deep.LoopGhost
import Derived.Laws.Runes
import Derived.Laws.RangeString
import Derived.RegionTactic
import Derived.ChangeAlike
import Derived.Deep.RegionWith
import Derived.Lib.ItoaLen
import Derived.Test.YtohfclafhegadaaGreatDoorTie
import Derived.ProofKit
import Derived.OpenShut
import Derived.ChangeOld
import Derived.ChangeSame
import Derived.ChangeVars
import Derived.Lib.LaidTab
import Derived.LaidLaws
import Derived.LaidHandle
import Derived.ShapedOpen
import Derived.Lay
import Derived.LaidMore
import Derived.Test.YtohfclafhegadaaGreatDoorCards
import Derived.Test.YtohfclafhegadaaGreatDoorRows
import Derived.Test.YtohfclafhegadaaGreatDoorAbsB
set_option linter.unusedSimpArgs false
set_option linter.unusedVariables false
set_option maxRecDepth 100000
open List renaming getElem_cons_zero→yaz,mem_cons→ybC,getElem_of_mem→ya9,getElem?_eq_getElem→yau,getElem?_eq_some_iff→yaq,mem_of_getElem?→ycx,drop_eq_getElem_cons→ycu,take_append_drop→yc0,length_take→ybf,take_succ_eq_append_getElem→ycp,mem_append→ybh,mem_singleton→ycF,take_of_length_le→ycS,findIdx?_eq_some_iff_getElem→yc1,findIdx?_eq_none_iff→ycU,length_cons→yac,suffix_cons→yc2,all_eq_true→yaM,append_nil→yb7,length_pos_iff→ybm,findIdx?_cons→yc4,getElem_mem→yaw,find?_eq_none→yc5,map_cons→yaL,mem_of_find?_eq_some→yc6,find?_some→yc7,length_append→yab,length_nil→ybl,all_cons→yca,map_nil→ycM,map_append→yc8,getElem?_cons_zero→ydc,flatMap_cons→yaa,cons_append→yct,append_assoc→ycL,length→yce,drop_eq_nil_of_le→ycG,replicate→yaj,getElem?_map→yde,getElem?_eq_none→yb2,flatten_cons→ydf,nil_append→ycK,mem_map→yaV,getD_eq_getElem?_getD→ycg,take_length→ycq
open Nat renaming le_refl→yah,lt_of_le_of_lt→yc3,lt_of_lt_of_le→yag,add_zero→yaK,le_trans→yai,zero_add→ydb,not_lt_zero→yaA
open Option renaming some→yaR,map_eq_some_iff→ybB
open Array renaming getElem?_eq_some_iff→yaU
open Int renaming toNat_natCast→ybe
open Go.Proofs.Tryz renaming prog→yb9,func236→ycV,ntmps236→ycW,func205→ycX,ntmps205→ycY,underlying9→ycZ,func175→yc9,ntmps175→yda
open Go.IntKind renaming wrap→yb4,i64→yam
open Go.Abs.AV renaming str→ycr,int→ycs,ptr→ycv,nilsl→ycz,pv→ydd
namespace Go.Proofs.YtohfclafhegadaaGreatDoor
open Go Go.Abs
structure zbk(G:Env):Prop where
 pow:G.fix 9=some (Lib.pow10Tab.map fun z=>Value.int .u64 z).toArray
 errR:∃t v,G.g 6=.pv (.stat true) (.iface t v)
 space:G.g 0=.pv (.stat true) (.agg zdP)
section
variable {G : Env} {σ : AS} {R : Out → AS → Prop}
theorem zfc{s p:List UInt8}(h:R (.ret (.bool (decide (p.length≤s.length∧s.take p.length=p)))) σ):zzQ G 199 [.str s,.str p] σ R:=by
 refine zqY rfl ?_
 by_cases hl:p.length≤s.length
 ·have hl':(p.length:Int)≤(s.length:Int):=by omega
  simp[zub,hl']
  simpa [hl]using h
 ·have hl':¬(p.length:Int)≤(s.length:Int):=by omega
  simp[zub,hl']
  simpa [hl]using h
def zhj(p s:List UInt8):Bool:=decide (p.length≤s.length∧s.take p.length=p)
theorem zgC(c:UInt8)(s:List UInt8):zhj [c] s=decide (s.head?=some c):=by
 cases s with
 | nil=>simp[zhj]
 | cons d s=>simp[zhj,eq_comm]
theorem zfd{s p:List UInt8}(h:R (.ret (.tuple [.str (if zhj p s=true then s.drop p.length else s),.bool (zhj p s)])) σ):zzQ G 116 [.str s,.str p] σ R:=by
 refine zqm rfl ?_
 simp[zw8]
 refine zqM rfl ?_
 simp[zxn]
 refine zfc ?_
 rw[show decide (p.length≤s.length∧s.take p.length=p)=zhj p s from rfl]
 cases hp:zhj p s with
 | false =>
  rw[hp]at h
  simp
  simpa using h
 | true =>
  rw[hp]at h
  have hl:p.length≤s.length:=(of_decide_eq_true hp).1
  simp
  exact⟨by omega,by simpa using h⟩
theorem ziT{s p:List UInt8}(h:R (.ret (.str (if zhj p s=true then s.drop p.length else s))) σ):zzQ G 113 [.str s,.str p] σ R:=by
 refine zqk rfl ?_
 simp[zw6]
 refine zqK rfl ?_
 simp[zxm]
 refine zfc ?_
 rw[show decide (p.length≤s.length∧s.take p.length=p)=zhj p s from rfl]
 cases hp:zhj p s with
 | false =>
  rw[hp]at h
  simp
  simpa using h
 | true =>
  rw[hp]at h
  have hl:p.length≤s.length:=(of_decide_eq_true hp).1
  simp
  exact⟨by omega,by simpa using h⟩
theorem zus{M:Mp}{F:Nat→FSt}{w:World}{v:AV}{cargs:Array Value}(hc:Cells M F w [v] cargs):∃c,cargs=#[c]∧VR M F w v c:=by
 obtain⟨c0,e0,v0⟩:=hc.2 0 _ rfl
 refine⟨c0,?_,v0⟩
 have hsz:cargs.size=1:=hc.1
 apply Array.ext
 ·simpa using hsz
 ·intro i h1 h2
  match i,h1 with
  | 0,_=>simpa using (yaU.1 e0).2
  | i+1,h=>omega
theorem zut{M:Mp}{F:Nat→FSt}{w:World}{v u:AV}{cargs:Array Value}(hc:Cells M F w [v,u] cargs):∃c d,cargs=#[c,d]∧VR M F w v c∧VR M F w u d:=by
 obtain⟨c0,e0,v0⟩:=hc.2 0 _ rfl
 obtain⟨c1,e1,v1⟩:=hc.2 1 _ rfl
 refine⟨c0,c1,?_,v0,v1⟩
 have hsz:cargs.size=2:=hc.1
 apply Array.ext
 ·simpa using hsz
 ·intro i h1 h2
  match i,h1 with
  | 0,_=>simpa using (yaU.1 e0).2
  | 1,_=>simpa using (yaU.1 e1).2
  | i+2,h=>omega
theorem zdk(V:zbk G){n:Int}(hn:-(2^63)≤n∧n<2^63)(h:R (.ret (.str (Lib.itoa n))) σ):zzQ G 64 [.int .i64 n] σ R:=by
 refine ACalls.of_below fun M w cargs S g hc=>?_
 obtain⟨c,rfl,hv⟩:=zus hc
 rw[hv.int_inv]
 obtain⟨_,t,fr,hh⟩:=g.fixed 9 _ V.pow
 have hn9 : Tryz.prog.globalNamed "internal/strconv.uint64pow10" = some 9 := by kernel_rfl
 have htab : Lib.TabIs Tryz.prog w "internal/strconv.uint64pow10" .u64 Lib.pow10Tab := by simp [Lib.TabIs, World.var?, hn9, hh]
 refine(Tryz.strconv_Itoa n (by omega) (by omega) w htab).mono fun e w' ⟨he,k,os,hw'⟩=>?_
 subst he hw'
 exact⟨⟨.str (Lib.itoa n),_,rfl,fun M F w=>VR.str' rfl,h⟩,Lib.below_grow _ w (yah _) k os⟩
theorem znd(V:zbk G){t:List UInt8}(h0:zaL t≠[])(h1:(zaL t).all zE=true)(hl:t.length<2^40)
  (hs:∀n,Lib.atoiAll t=.ok n→R (.ret (.tuple [.int .i64 n,.nilif])) σ) (hr:Lib.atoiAll t=.range→∀k,R (.ret (.tuple [.int .i64 k,.iface 238 .undef])) σ):zzQ G 114 [.str t] σ R:=by
 refine ACalls.of_below fun M w cargs S g hc=>?_
 obtain⟨c,rfl,hv⟩:=zus hc
 obtain⟨b,rfl,rfl⟩:=hv.str_inv
 have hbl:b.size=b.data.toList.length:=by simp
 cases hq:Lib.atoiAll b.data.toList with
 | ok n =>
  refine(Tryz.strconv_Atoi_ok b (by omega) n hq w).mono fun e w' ⟨he,hw'⟩=>?_
  subst he
  refine⟨⟨.tuple [.int .i64 n,.nilif],_,rfl,fun M F w=>.tuple _ _ rfl fun j h h'=>?_,hs n hq⟩,?_⟩
  ·match j,h with
   | 0,_=>exact .int ..
   | 1,_=>exact .nilif
  ·rcases hw' with rfl|⟨t,rfl⟩
   ·exact RowKit.Below.refl _ _
   ·exact⟨rfl,rfl,rfl,by rw[Lib.bytesWorld_size];omega,fun k hk=>Lib.bytesWorld_at_old w 5 t k hk⟩
 | range =>
  obtain⟨te,v,he6⟩:=V.errR
  have h6:=g.vars 6
  rw[he6]at h6
  obtain⟨ev,hcell,hev⟩:∃ev,w.cell? ⟨6,0,none⟩=some ev∧(ev=.nilIface∨∃te pe,ev=.iface te pe):=by
   cases h6 with
   | pv φ v B off cs hmem hc hv =>
    have h1:=hc trivial 0 (by simp[AV.cells])
    have h2:=hv trivial 0 (by simp[AV.cells])
    simp only[AV.cells,yaz]at h2
    generalize cs 0=c at h1 h2
    cases h2
    exact⟨_,h1,.inr ⟨_,_,rfl⟩⟩
  refine(Tryz.strconv_Atoi_range b (by omega) hq ev w hcell hev).mono fun e w' ⟨N,he,_,_,hb⟩=>?_
  subst he
  refine⟨⟨.tuple [.int .i64 (Lib.atoiSat b.data.toList),.iface 238 .undef],_,rfl,fun M F w=>.tuple _ _ rfl fun j h h'=>?_,hr hq _⟩,hb⟩
  match j,h with
  | 0,_=>exact .int ..
  | 1,_=>exact .iface _ _ _ (.undef _)
 | _ =>
  rw[ziG h0 h1]at hq
  split at hq<;>cases hq
theorem zeg{s:List UInt8}{c:UInt8}(hc:c.toNat<128)(h:R (.ret (.bool (s.contains c))) σ):zzQ G 170 [.str s,.int .i32 (c.toNat:Int)] σ R:=by
 refine ACalls.of_below fun M w cargs S g hcc=>?_
 obtain⟨x,y,rfl,hv,hu⟩:=zut hcc
 obtain⟨b,rfl,rfl⟩:=hv.str_inv
 rw[hu.int_inv]
 refine(Tryz.strings_ContainsRune_ascii b (c.toNat:Int) w (by omega) (by omega)).mono fun e w' ⟨he,hw'⟩=>?_
 subst he hw'
 refine⟨⟨.bool _,_,rfl,fun M F w=>.bool _,?_⟩,RowKit.Below.refl _ _⟩
 have e0:∀l:List UInt8,(0≤Lib.indexByte l c)↔c∈l:=fun l=>by
  induction l with
  | nil=>simp[Lib.indexByte]
  | cons x l ih =>
   have hge:=Lib.indexByte_ge l c
   by_cases hx:x=c
   ·subst hx;simp[Lib.indexByte]
   ·have hx':¬c=x:=fun e=>hx e.symm
    simp only[Lib.indexByte,beq_iff_eq,hx,if_false,ybC,hx',false_or,←ih]
    split<;>omega
 have e:decide (0≤Lib.indexByte b.data.toList ((c.toNat:Int).toNat.toUInt8))=b.data.toList.contains c:=by
  have e1:((c.toNat:Int).toNat.toUInt8)=c:=by simp
  rw[e1,Bool.eq_iff_iff]
  simp[e0]
 rw[e]
 exact h
end
end Go.Proofs.YtohfclafhegadaaGreatDoor
namespace Go.Proofs.YtohfclafhegadaaGreatDoor
open Go Go.Abs Go.Shelf Go.RowKit Go.Lib
set_option maxHeartbeats 1000000 in
theorem zne(r:Int)(w:World)(h1:128≤r)(h2:r≤1114111)(h3:r<55296∨57343<r):
  Calls yb9 236 #[.int .i32 r] w fun e w'=>e=.returned (.bool true)∧w'=w:=by
 by_cases h4:r<55296
 ·go_enter ycV,ycW
  go_wp2
  go_ret
  exact⟨rfl,rfl⟩
 ·have h5:57343<r:=by omega
  go_enter ycV,ycW
  go_wp2
  go_ret
  exact⟨rfl,rfl⟩
theorem zoH:∀{l:List UInt8} {c:UInt8},(∀b∈l,b≠c)→Lib.indexByte l c=-1
 | [],_,_=>rfl
 | x::l,c,h=>by
  have hx:¬x=c:=h x (by simp)
  have ih:=zoH (l:=l) (c:=c) fun b hb=>h b (by simp[hb])
  simp[Lib.indexByte,hx,ih]
set_option maxHeartbeats 2000000 in
theorem zrv(s:ByteArray)(r:Int)(w:World)(h1:128≤r)(h2:r≤1114111)(h3:r<55296∨57343<r)(h4:r≠65533)(hs:∀(j:Nat) b,s.data.toList[j]?=some b→b.toNat<128):
  Calls yb9 205 #[.string s,.int .i32 r] w fun e w'=>e=.returned (.int .i64 (-1))∧Below w.heap.size w w':=by
 have e236:∀args w,(callFunc 236 args).run yb9 w=.ok (.enter 236 args) w:=enters_of ycV (by kernel_rfl) rfl
 have e227:∀args w,(callFunc 227 args).run yb9 w=.ok (.enter 227 args) w:=enters_of Tryz.func227 (by kernel_rfl) rfl
 have HA:Aside (∀(j:Nat) b,s.data.toList[j]?=some b→b.toNat<128):=hs
 clear hs
 obtain⟨q1,q2,q3⟩:=encode_facts r (by rw[validRune_eq];unfold validRune;exact decide_eq_true (by omega)) h1
 generalize hrs:Utf8.encode r=rs at q1 q2 q3
 obtain⟨n,hn⟩:∃n,rs.size=n+1:=⟨rs.size-1,by omega⟩
 have hz:(rs.size:Int)-1=(n:Int):=by omega
 have hnr:n<rs.size:=by omega
 have q4:128≤(rs[n]'hnr).toNat:=by
  have:=q3 (by omega)
  simpa [hn]using this
 clear q3
 go_enter ycX,ycY
 go_wp2_with (go_at_fn 236;refine(zne r _ h1 h2 h3).mono ?_;rintro e w' ⟨rfl,hw⟩;rw[hw])
 subst hw
 go_step3
 go_wp2
 go_loopg [4,9,10,11,12] 0 (fun g _ v9 _ _ _ wx=>v9=.int .i64 (n:Int)∧wx=w')
 case atStart=>exact⟨rfl,rfl⟩
 case round =>
  obtain⟨rfl,rfl⟩:=hrel
  by_cases hlt:n<s.size
  ·have hlt':(n:Int)<(s.size:Int):=by omega
   go_wp2
   go_step3
   go_wp2
   have hnr':(n:Int)<(rs.size:Int):=by omega
   have hne:(((s[n]'hlt).toNat:Int) != ((rs[n]'hnr).toNat:Int))=true:=by
    have:=HA.out n (s[n]'hlt) (Lib.data_getElem? s n hlt)
    simp only[bne_iff_ne,ne_eq]
    omega
   have hib:∀a e:Nat,Lib.indexByte (s.extract a e).data.toList (((rs[n]'hnr).toNat:Int).toNat.toUInt8)=-1:=fun a e=>zoH fun b hb q=>by
    obtain⟨j,hj,e⟩:=ya9 (mem_extract hb)
    have:=HA.out j b (by rw[yau hj,e])
    rw[q]at this
    simp at this
    omega
   have hle1:((n:Int)+1)≤(s.size:Int):=by omega
   have hle2:n+1≤s.size:=by omega
   have hwr:yb4 .i64 ((n:Int)+1)=(n:Int)+1:=by rw[Go.Abs.wrap_i64]<;>omega
   have hn3:(n:Int)≤3:=by omega
   have hle0:(0:Int)≤(n:Int)+1:=by omega
   have hle3:(0:Int)≤(n:Int)+1∧(n:Int)+1≤(s.size:Int):=⟨hle0,hle1⟩
   clear hn hz hrs q1 q2
   go_region
   go_wp2
   go_region_with (go_at_call 227;refine(Tryz.strings_IndexByte _ _ _).mono ?_;rintro e w' ⟨rfl,hw⟩;rw[hw,hib])
   go_wp2
   try rw[Exit.noGoto_ret]
   go_wp2
   try rw[Exit.noGoto_ret]
   go_ret
   exact⟨rfl,((Below.refl _ _).drew).drew⟩
  ·have hlt':¬(n:Int)<(s.size:Int):=by omega
   go_wp2
   go_ret
   exact⟨rfl,.refl ..⟩
set_option maxHeartbeats 2000000 in
theorem zuu(s:ByteArray)(w:World)(hs:∀(j:Nat) b,s.data.toList[j]?=some b→b.toNat<128):
  Calls yb9 205 #[.string s,.int .i32 65533] w fun e w'=>e=.returned (.int .i64 (-1))∧Below w.heap.size w w':=by
 have HA:Aside (∀(j:Nat) b,s.data.toList[j]?=some b→b.toNat<128):=hs
 clear hs
 go_enter ycX,ycY
 go_wp2
 go_loopg [4,5,6] s.size (fun g _ _ _ wx=>∃i:Nat,i+g=s.size∧wx=w.iter s i)
 case atStart=>exact⟨0,by omega,rfl⟩
 case round =>
  obtain⟨i,hig,rfl⟩:=hrel
  cases gk with
  | zero =>
   obtain rfl:i=s.size:=by omega
   have hnx:=run_next_end (P:=yb9) w s s.size
   go_wp2
   try rw[Exit.noGoto_ret]
   go_ret
   exact⟨rfl,(Below.refl _ _).alloc (yah _) _⟩
  | succ g =>
   have hi:i<s.size:=by omega
   obtain⟨x,hx⟩:∃x:UInt8,s[i]'hi=x:=⟨_,rfl⟩
   have hxl:s.data.toList[i]?=some x:=by rw[←hx];exact Lib.data_getElem? s i hi
   have hx128:x.toNat<128:=HA.out i x hxl
   have hnx:=fun ty=>run_next_ascii (P:=yb9) w s i ty hi (by rw[hx];exact hx128)
   rw[hx]at hnx
   have hxe:((x.toNat:Int)==65533)=false:=by rw[beq_eq_false_iff_ne];omega
   clear hxl hx
   go_wp2
   go_roundg g
   case measure=>omega
   case rel=>exact⟨i+1,by omega,rfl⟩
structure zsK(bs:List UInt8)(pos:Nat)(d:Nat × Nat):Prop where
 lo:128≤d.1
 hi:d.1≤1114111
 ok:d.1<55296∨57343<d.1
 w1:1≤d.2
 wl:pos+d.2≤bs.length
 all:∀j c,pos≤j→j<pos+d.2→bs[j]?=some c→128≤c.toNat
theorem zsL{bs:List UInt8}{j:Nat}{c:UInt8}(h:bs[j]?=some c):ByteArray.get! ⟨bs.toArray⟩ j=c:=by
 obtain⟨h1,h2⟩:=yaq.1 h
 show bs.toArray[j]! = c
 rw[getElem!_pos bs.toArray j (by simpa using h1)]
 simpa using h2
theorem zoI{bs:List UInt8}{pos:Nat}(h:pos<bs.length):(bs[pos].toNat<128∧Utf8.decode ⟨bs.toArray⟩ pos=(bs[pos].toNat,1))∨(128≤bs[pos].toNat∧zsK bs pos (Utf8.decode ⟨bs.toArray⟩ pos)):=by
 have h0:ByteArray.get! ⟨bs.toArray⟩ (pos+0)=bs[pos]:=zsL (yau h)
 have hsz:ByteArray.size ⟨bs.toArray⟩=bs.length:=by simp[ByteArray.size]
 have hb:bs[pos].toNat<256:=bs[pos].toNat_lt
 have one:∀j c,pos≤j→j<pos+1→bs[j]?=some c→128≤bs[pos].toNat→128≤c.toNat:=fun j c q1 q2 q3 q4=>by
  obtain rfl:j=pos:=by omega
  rw[yau h]at q3
  cases q3;exact q4
 have cont:∀k,(decide (pos+k<bs.length)&&(ByteArray.get! ⟨bs.toArray⟩ (pos+k)).toNat/64==2)=true→pos+k<bs.length∧128≤(ByteArray.get! ⟨bs.toArray⟩ (pos+k)).toNat∧(ByteArray.get! ⟨bs.toArray⟩ (pos+k)).toNat<192∧∀c,bs[pos+k]?=some c→128≤c.toNat:=fun k q=>by
  simp only[Bool.and_eq_true,decide_eq_true_eq,beq_iff_eq]at q
  refine⟨q.1,by omega,by omega,fun c hc=>?_⟩
  rw[zsL hc]at q
  omega
 by_cases hlt:bs[pos].toNat<128
 ·refine .inl ⟨hlt,?_⟩
  unfold Utf8.decode
  simp only[h0,hlt,if_true]
 ·refine .inr ⟨by omega,?_⟩
  have bad:zsK bs pos (Utf8.runeError,1):=⟨by decide,by decide,by decide,by decide,by simp only;omega,fun j c q1 q2 q3=>one j c q1 q2 q3 (by omega)⟩
  unfold Utf8.decode
  simp only[h0,hlt,if_false,hsz]
  generalize hf:(fun k=>(ByteArray.get! ⟨bs.toArray⟩ (pos+k)).toNat)=f at *
  have hfk:∀k,(ByteArray.get! ⟨bs.toArray⟩ (pos+k)).toNat=f k:=fun k=>by rw[←hf]
  simp only[hfk]at cont ⊢
  split
  ·rename_i c1
   rw[Bool.and_eq_true]at c1
   obtain⟨k1,k2,k3,k4⟩:=cont 1 c1.2
   have c0:bs[pos].toNat/32=6:=by simpa using c1.1
   split
   ·refine⟨by simp only;omega,by simp only;omega,by simp only;omega,by simp,by simp only;omega,fun j c q1 q2 q3=>?_⟩
    simp only at q2
    by_cases e:j=pos
    ·exact one j c q1 (by omega) q3 (by omega)
    ·obtain rfl:j=pos+1:=by omega
     exact k4 c q3
   ·exact bad
  ·split
   ·rename_i _ c1
    simp only[Bool.and_eq_true]at c1
    obtain⟨⟨c0,c1⟩,c2⟩:=c1
    obtain⟨k1,k2,k3,k4⟩:=cont 1 (by simpa using c1)
    obtain⟨l1,l2,l3,l4⟩:=cont 2 (by simpa using c2)
    have c0:bs[pos].toNat/16=14:=by simpa using c0
    split
    ·rename_i hv
     rw[Bool.and_eq_true]at hv
     have hv1:2048≤bs[pos].toNat%16*4096+f 1%64*64+f 2%64:=by simpa using hv.1
     have hv2:=hv.2
     rw[validRune_eq]at hv2
     have hv2:=of_decide_eq_true hv2
     refine⟨by simp only;omega,by simp only;omega,by simp only;omega,by simp,by simp only;omega,fun j c q1 q2 q3=>?_⟩
     simp only at q2
     by_cases e:j=pos
     ·exact one j c q1 (by omega) q3 (by omega)
     ·by_cases e1:j=pos+1
      ·subst e1;exact k4 c q3
      ·obtain rfl:j=pos+2:=by omega
       exact l4 c q3
    ·exact bad
   ·split
    ·rename_i _ _ c1
     simp only[Bool.and_eq_true]at c1
     obtain⟨⟨⟨c0,c1⟩,c2⟩,c3⟩:=c1
     obtain⟨k1,k2,k3,k4⟩:=cont 1 (by simpa using c1)
     obtain⟨l1,l2,l3,l4⟩:=cont 2 (by simpa using c2)
     obtain⟨m1,m2,m3,m4⟩:=cont 3 (by simpa using c3)
     have c0:bs[pos].toNat/8=30:=by simpa using c0
     split
     ·rename_i hv
      rw[Bool.and_eq_true]at hv
      have hv1:65536≤bs[pos].toNat%8*262144+f 1%64*4096+f 2%64*64+f 3%64:=by simpa using hv.1
      have hv2:=hv.2
      rw[validRune_eq]at hv2
      have hv2:=of_decide_eq_true hv2
      refine⟨by simp only;omega,by simp only;omega,by simp only;omega,by simp,by simp only;omega,fun j c q1 q2 q3=>?_⟩
      simp only at q2
      by_cases e:j=pos
      ·exact one j c q1 (by omega) q3 (by omega)
      ·by_cases e1:j=pos+1
       ·subst e1;exact k4 c q3
       ·by_cases e2:j=pos+2
        ·subst e2;exact l4 c q3
        ·obtain rfl:j=pos+3:=by omega
         exact m4 c q3
     ·exact bad
    ·exact bad
theorem zuv{σ:AS}(bs:List UInt8)(K:AV→AS→Prop):zeY yb9 9 (.str bs) σ K=K (.sit σ.nf bs 0) σ.newF:=by
 unfold zeY
 rw[ycZ]
theorem zoJ{σ τ:AS}{f:Nat}(A:zg σ τ)(hf:σ.nf≤f):zg σ (τ.turn f):=by
 have hn:=A.nf
 refine⟨A.no,by simp[AS.turn];omega,A.obj,fun g hg=>?_⟩
 have h1:¬g=τ.nf:=by omega
 have h2:¬g=f:=by omega
 simp[AS.turn,h1,h2]
 exact A.fam g hg
theorem zmc{τ:AS}{f:Nat}:(τ.turn f).F τ.nf=.alive:=by simp[AS.turn]
section
variable {G : Env} {σ : AS} {R : Out → AS → Prop}
theorem zll{l:List UInt8}{r:Int}(hl:∀c∈l,c.toNat<128)(h1:128≤r)(h2:r≤1114111)(h3:r<55296∨57343<r)(h:R (.ret (.int .i64 (-1))) σ):zzQ G 205 [.str l,.int .i32 r] σ R:=by
 refine ACalls.of_below fun M w cargs S g hcc=>?_
 obtain⟨x,y,rfl,hv,hu⟩:=zut hcc
 obtain⟨b,rfl,rfl⟩:=hv.str_inv
 rw[hu.int_inv]
 have hs:∀(j:Nat) c,b.data.toList[j]?=some c→c.toNat<128:=fun j c hj=>hl c (ycx hj)
 have key:Calls yb9 205 #[.string b,.int .i32 r] w fun e w'=>e=.returned (.int .i64 (-1))∧RowKit.Below w.heap.size w w':=by
  by_cases e:r=65533
  ·subst e;exact zuu b w hs
  ·exact zrv b r w h1 h2 h3 e hs
 refine key.mono fun e w' ⟨he,hw'⟩=>?_
 subst he
 exact⟨⟨.int .i64 (-1),_,rfl,fun M F w=>.int ..,h⟩,hw'⟩
theorem zlm{l:List UInt8}{c:UInt8}(hc:c.toNat<128)(h:∀n:Int,(0≤n↔inS l c=true)→R (.ret (.int .i64 n)) σ):zzQ G 205 [.str l,.int .i32 (c.toNat:Int)] σ R:=by
 refine ACalls.of_below fun M w cargs S g hcc=>?_
 obtain⟨x,y,rfl,hv,hu⟩:=zut hcc
 obtain⟨b,rfl,rfl⟩:=hv.str_inv
 rw[hu.int_inv]
 refine(Tryz.strings_IndexRune_ascii b (c.toNat:Int) w (by omega) (by omega)).mono fun e w' ⟨he,hw'⟩=>?_
 subst he hw'
 have e1:((c.toNat:Int).toNat.toUInt8)=c:=by simp
 rw[e1]
 refine⟨⟨.int .i64 _,_,rfl,fun M F w=>.int ..,h _ ?_⟩,RowKit.Below.refl _ _⟩
 have:=Lib.contains_iff_indexByte b.data.toList c
 unfold inS
 rw[this]
 exact(decide_eq_true_iff).symm
def IrI(l s:List UInt8)(σ:AS)(a:Nat→AV)(τ:AS):Prop:=∃(pos f:Nat),pos≤s.length∧(∀c∈s.take pos,inS l c=false)∧a 1=.str l∧a 45=.sit f s pos∧zg σ τ∧σ.nf≤f∧τ.F f=.alive
def IrM(s:List UInt8)(a:Nat→AV)(_:AS):Nat:=match a 45 with
 | .sit _ _ pos=>s.length-pos
 | _=>0
theorem zj9{l s:List UInt8}(hl:∀c∈l,c.toNat<128)(h2:2≤l.length)(hL:l.length≤1000)(hs:s.length<2^62)(h:∀σ',zg σ σ'→R (.ret (.int .i64 (zkr l s))) σ'):zzQ G 168 [.str s,.str l] σ R:=by
 by_cases h8:8<s.length
 ·exact zgB hl h2 hL h8 hs h
 ·refine zlV rfl ?_
  have hne:¬l=[]:=by intro e;rw[e]at h2;simp at h2
  have h1:¬(l.length:Int)=1:=by omega
  have h8':¬(8:Int)<(s.length:Int):=by omega
  simp[zua,hne,h1]
  refine zlZ rfl ?_
  simp[zuc,h8']
  simp[zlU,zuv]
  refine zae (IrI l s σ) (IrM s) ⟨0,σ.nf,by omega,by simp,by simp,by simp,(zg.refl σ).newF,by simp,by simp⟩ fun a τ hI=>?_
  obtain⟨pos,f,hp,hd,a1,a45,hA,hf,ha⟩:=hI
  by_cases hlt:pos<s.length
  ·have hi:s[pos]?=some s[pos]:=yau hlt
   have hsplit:s=s.take pos++s[pos]::s.drop (pos+1):=by rw[←ycu hlt,yc0]
   have htl:(s.take pos).length=pos:=by rw[ybf];omega
   have hge:¬s.length≤pos:=by omega
   have hAt:=zoJ hA hf
   have hnf:=hA.nf
   rcases zoI hlt with ⟨hc,hdec⟩|⟨hc,hdec⟩
   ·simp[zfD,a1,a45,ha,hlt,hge,hdec]
    refine zlm hc fun n hn=>?_
    cases hin:inS l s[pos]with
    | true =>
     rw[hin]at hn
     have hn0:0≤n:=hn.2 rfl
     have:=zoG (r:=s.drop (pos+1)) hd hin
     rw[←hsplit,htl]at this
     have hh:=h _ hAt
     rw[this]at hh
     simp[hn0]
     exact hh
    | false =>
     rw[hin]at hn
     have hn0:¬0≤n:=fun q=>by have:=hn.1 q;cases this
     simp[hn0]
     refine⟨⟨pos+1,τ.nf,by omega,fun c hc'=>?_,by simp[a1],by simp,hAt,by omega,zmc⟩,?_⟩
     ·rw[ycp hlt,ybh,ycF]at hc'
      rcases hc' with hc'|rfl
      ·exact hd c hc'
      ·exact hin
     ·simp[IrM,a45];omega
   ·generalize hD:Utf8.decode ⟨s.toArray⟩ pos=D at hdec
    have hw1:=hdec.w1
    have hwl:=hdec.wl
    simp[zfD,a1,a45,ha,hlt,hge,hD]
    refine zll hl (by have:=hdec.lo;omega) (by have:=hdec.hi;omega) (by have:=hdec.ok;omega) ?_
    simp
    refine⟨⟨pos+D.2,τ.nf,hwl,fun c hc'=>?_,by simp[a1],by simp,hAt,by omega,zmc⟩,?_⟩
    ·obtain⟨j,hj,e⟩:=ya9 hc'
     have hjl:j<pos+D.2∧j<s.length:=by rw[ybf]at hj;omega
     have hjc:s[j]?=some c:=by
      rw[yau hjl.2,←e]
      simp
     by_cases hjp:j<pos
     ·exact hd c (ycx (by rw[List.getElem?_take_of_lt hjp];exact hjc))
     ·have h128:=hdec.all j c (by omega) hjl.1 hjc
      cases hin:inS l c with
      | false=>rfl
      | true =>
       have:=hl c (by simpa [inS]using hin)
       omega
    ·simp[IrM,a45];omega
  ·have e:pos=s.length:=by omega
   subst e
   rw[ycS (yah _)]at hd
   have hh:=h _ hA
   rw[zj8 hd]at hh
   simp[zfD,zlT,a1,a45,ha]
   exact hh
end
def zhk(_:List UInt8):Prop:=True
theorem zhk.end{s t:List UInt8}(h:zhk s)(ht:t<:+s):zhk t:=trivial
section
variable {G : Env} {σ : AS} {R : Out → AS → Prop}
def zcv:List UInt8:=[32,10]
def zdS:List UInt8:=[32,10,40,41,34]
def zc4:List UInt8:=[34,10]
theorem zbl(p:UInt8→Bool)(s:List UInt8):s.dropWhile p<:+s:=List.dropWhile_suffix p
theorem zka{l s:List UInt8}(h:0≤zkr l s):∃d c r,s=d++c::r∧(∀x∈d,inS l x=false)∧inS l c=true∧zkr l s=d.length:=by
 unfold zkr at h ⊢
 cases hf:s.findIdx? (inS l)with
 | none=>rw[hf]at h;simp at h
 | some i =>
  rw[yc1]at hf
  obtain⟨hi,hc,hd⟩:=hf
  refine⟨s.take i,s[i],s.drop (i+1),by simp,fun x hx=>?_,hc,by simp;omega⟩
  obtain⟨j,hj,rfl⟩:=ya9 hx
  simp only[List.getElem_take]
  have hj':j<i:=by simp at hj;omega
  have:=hd j hj'
  simpa using this
theorem zsM{l s:List UInt8}(h:zkr l s<0):∀x∈s,inS l x=false:=by
 unfold zkr at h
 cases hf:s.findIdx? (inS l)with
 | none=>exact ycU.1 hf
 | some i=>rw[hf]at h;simp at h;omega
theorem zfe{p:UInt8→Bool}{d r:List UInt8}{c:UInt8}(hd:∀x∈d,p x=true)(hc:p c=false):(d++c::r).takeWhile p=d∧(d++c::r).dropWhile p=c::r:=by
 induction d with
 | nil=>simp[hc]
 | cons x d ih =>
  have hx:=hd x (by simp)
  obtain⟨i1,i2⟩:=ih fun y hy=>hd y (by simp[hy])
  simp[hx,i1,i2]
theorem zff{L t r:List UInt8}(h:L=t++r){n m:Int}(hn:n=(t.length:Int))(hm:m=(L.length:Int)):L.take n.toNat=t∧(L.take m.toNat).drop n.toNat=r:=by
 subst hn hm h
 refine⟨by simp,?_⟩
 rw[ybe,ybe,ycS (yah _),List.drop_left]
theorem zeh{s:List UInt8}(hok:zhk s)(hl:s.length<2^40)(hn:zcz s=none→∀r σ',r<:+s→zg σ σ'→R (.ret (.tuple [.str [],.str r])) σ')(hs:∀t r,zcz s=some (t,r)→∀σ',zg σ σ'→R (.ret (.tuple [.str t,.str r])) σ'):zzQ G 115 [.str s] σ R:=by
 refine zql rfl ?_
 simp[zw7]
 refine zlk (l:=zcv) (by decide) (by decide) (by decide) fun σ1 A1=>?_
 have hcut:zcz s=match s.dropWhile (inS zcv)with
  | []=>none
  | c::r=>if c=40∨c=41 then some ([c],r)else if c=34 then zjO r else some (c::r.takeWhile (fun x=>!zaF x),r.dropWhile fun x=>!zaF x):=rfl
 have hsuf:=zbl (inS zcv) s
 have hlen:=hsuf.length_le
 have hhd:∀c r,s.dropWhile (inS zcv)=c::r→inS zcv c=false:=fun c r e=>by
  have:=List.head?_dropWhile_not (inS zcv) s
  rw[e]at this
  exact this
 generalize s.dropWhile (inS zcv)=s1 at *
 have hok1:=hok.end hsuf
 cases s1 with
 | nil =>
  simp
  exact hn hcut _ _ hsuf A1
 | cons c r =>
  simp only at hcut
  simp only[yac]at hlen
  have hc0:=c.toNat_lt
  have hc2:(c=40↔(c.toNat:Int)=40)∧(c=41↔(c.toNat:Int)=41)∧(c=34↔(c.toNat:Int)=34):=by
   refine⟨⟨fun e=>by rw[e];rfl,fun e=>UInt8.toNat_inj.1 (by show c.toNat=40;omega)⟩,⟨fun e=>by rw[e];rfl,fun e=>UInt8.toNat_inj.1 (by show c.toNat=41;omega)⟩,⟨fun e=>by rw[e];rfl,fun e=>UInt8.toNat_inj.1 (by show c.toNat=34;omega)⟩⟩
  by_cases h40:c=40∨c=41
  ·rw[if_pos h40]at hcut
   have hres:=hs _ _ hcut σ1 A1
   have h40':(c.toNat:Int)=40∨¬(c.toNat:Int)=40∧(c.toNat:Int)=41:=by
    rcases h40 with e|e
    ·exact .inl (hc2.1.1 e)
    ·have:=hc2.2.1.1 e
     exact .inr ⟨by omega,this⟩
   rcases h40' with e|⟨e1,e2⟩
   ·simp[e]
    exact⟨by omega,hres⟩
   ·simp[e2]
    exact⟨by omega,hres⟩
  ·rw[if_neg h40]at hcut
   have n40:¬(c.toNat:Int)=40:=fun e=>h40 (.inl (hc2.1.2 e))
   have n41:¬(c.toNat:Int)=41:=fun e=>h40 (.inr (hc2.2.1.2 e))
   by_cases h34:c=34
   ·rw[if_pos h34]at hcut
    have e34:=hc2.2.2.1 h34
    have hr:r<:+c::r:=yc2 _ _
    simp[n40,n41,e34]
    refine⟨by omega,zj9 (l:=zc4) (by decide) (by decide) (by decide) (by omega) fun σ2 A2=>?_⟩
    have A12:=A1.trans A2
    have hq:zjO r=match r.dropWhile (fun c=>!zoh c)with
     | []=>none
     | x::z=>if x=34 then some (34::(r.takeWhile (fun c=>!zoh c)++[34]),z)else none:=rfl
    by_cases hi:0≤zkr zc4 r
    ·obtain⟨d,x,z,rfl,hd,hx,he⟩:=zka hi
     obtain⟨t1,t2⟩:=zfe (p:=fun c=>!zoh c) (d:=d) (r:=z) (c:=x) (fun y hy=>by have:=hd y hy;simpa [inS,zc4,zoh]using this) (by
      simp[inS,zc4,zoh]at hx ⊢
      intro q
      exact hx.resolve_left q)
     rw[hq,t2,t1]at hcut
     simp only at hcut
     have w2:yb4 .i64 ((d.length:Int)+2)=(d.length:Int)+2:=by rw[wrap_i64]<;>simp at hlen<;>omega
     have w1:yb4 .i64 ((d.length:Int)+2-1)=((d.length+1:Nat):Int):=by rw[wrap_i64]<;>simp at hlen<;>omega
     have hlt:¬(d.length:Int)+2<2:=by omega
     have hx34:x=34↔(x.toNat:Int)=34:=⟨fun e=>by rw[e];rfl,fun e=>UInt8.toNat_inj.1 (by show x.toNat=34;omega)⟩
     have hxi:(c::(d++x::z))[d.length+1]?=some x:=by simp
     by_cases hx3:x=34
     ·rw[if_pos hx3]at hcut
      have hx4:=hx34.1 hx3
      have hres:=hs _ _ hcut σ2 A12
      simp[he,w2,w1,hlt,hx4]
      refine⟨by omega,by omega,?_⟩
      obtain⟨e1,e2⟩:=zff (L:=c::(d++x::z)) (t:=34::(d++[34])) (r:=z) (n:=(d.length:Int)+2) (m:=(d.length:Int)+((z.length:Int)+1)+1) (by rw[hx3,h34];simp) (by simp;omega) (by simp)
      rw[e1,e2]
      exact⟨by omega,by omega,by omega,hres⟩
     ·rw[if_neg hx3]at hcut
      have hx4:¬(x.toNat:Int)=34:=fun e=>hx3 (hx34.2 e)
      simp[he,w2,w1,hlt,hx4]
      exact⟨by omega,hn hcut _ _ hsuf A12⟩
    ·have he:zkr zc4 r=-1:=by
      unfold zkr at hi ⊢
      cases hf:r.findIdx? (inS zc4)with
      | none=>rfl
      | some i=>rw[hf]at hi;simp at hi
     have hno:=zsM (l:=zc4) (s:=r) (by omega)
     have hdw:r.dropWhile (fun c=>!zoh c)=[]:=by
      rw[zc3,yaM]
      intro y hy
      have:=hno y hy
      simpa [inS,zc4,zoh]using this
     rw[hq,hdw]at hcut
     simp[he,show yb4 .i64 1=1 from rfl]
     exact hn hcut _ _ hsuf A12
   ·rw[if_neg h34]at hcut
    have n34:¬(c.toNat:Int)=34:=fun e=>h34 (hc2.2.2.2 e)
    simp[n40,n41,n34]
    refine zj9 (l:=zdS) (by decide) (by decide) (by decide) (by simp;omega) fun σ2 A2=>?_
    have A12:=A1.trans A2
    have hcs:zk5 c=false:=hhd c r rfl
    have hcn:inS zdS c=false:=by
     have e10:¬c=10∧¬c=32:=by simpa [zk5,not_or,and_comm]using hcs
     simp[inS,zdS,e10,fun e=>h40 (.inl e),fun e=>h40 (.inr e),h34]
     exact⟨fun e=>h40 (.inl e),fun e=>h40 (.inr e)⟩
    have hst:∀y,inS zdS y=zaF y:=fun y=>rfl
    by_cases hi:0≤zkr zdS (c::r)
    ·obtain⟨d,x,z,hcr,hd,hx,he⟩:=zka hi
     obtain⟨d',rfl⟩:∃d',d=c::d':=by
      cases d with
      | nil =>
       simp at hcr
       rw[←hcr.1,hcn]at hx
       cases hx
      | cons y d' =>
       simp at hcr
       exact⟨d',by rw[hcr.1]⟩
     have hr2:r=d'++x::z:=by simpa using hcr
     subst hr2
     obtain⟨t1,t2⟩:=zfe (p:=fun c=>!zaF c) (d:=d') (r:=z) (c:=x) (fun y hy=>by have:=hd y (by simp[hy]);rw[hst]at this;simp[this]) (by rw[hst]at hx;simp[hx])
     rw[t1,t2]at hcut
     have hres:=hs _ _ hcut σ2 A12
     have hlt:¬(d'.length:Int)+1<0:=by omega
     simp[he,hlt]
     obtain⟨e1,e2⟩:=zff (L:=c::(d'++x::z)) (t:=c::d') (r:=x::z) (n:=(d'.length:Int)+1) (m:=(d'.length:Int)+((z.length:Int)+1)+1) (by simp) (by simp) (by simp)
     have e3:((d'.length:Int)+1).toNat=d'.length+1:=by omega
     rw[e3]at e2
     rw[e2]
     exact⟨by omega,by omega,by omega,by omega,hres⟩
    ·have hno:=zsM (l:=zdS) (s:=c::r) (by omega)
     have hw:r.takeWhile (fun x=>!zaF x)=r∧r.dropWhile (fun x=>!zaF x)=[]:=by
      have h1:∀y∈r,(!zaF y)=true:=fun y hy=>by have:=hno y (by simp[hy]);rw[hst]at this;simp[this]
      have h2:r.dropWhile (fun x=>!zaF x)=[]:=by rw[zc3,yaM];exact h1
      have h3:=List.takeWhile_append_dropWhile (p:=fun x=>!zaF x) (l:=r)
      rw[h2,yb7]at h3
      exact⟨h3,h2⟩
     rw[hw.1,hw.2]at hcut
     have hres:=hs _ _ hcut σ2 A12
     have hlt:zkr zdS (c::r)<0:=by omega
     simp[hlt]
     exact⟨by omega,hres⟩
end
def zuw(e:Int):AV:=.iface 33 (.int .i64 e)
structure Wr(base x:Nat)(s:Ts)(σ:AS):Prop where
 hx:x<σ.no
 hb:0<base∧base≤σ.nf
 h0:σ.F 0=.alive
 ok:zhk s.b
 len:s.b.length<2^36
 cells:∃lv,σ.objs x=some [.str s.b,lv]∧ToR base σ lv s.ls
theorem ziU{s t r:List UInt8}(h:zcz s=some (t,r)):r<:+s:=by
 have h0:=zbl zk5 s
 unfold zcz at h
 split at h
 ·cases h
 ·rename_i c z e
  rw[e]at h0
  have h1:=(yc2 c z).trans h0
  split at h
  ·cases h;exact h1
  ·split at h
   ·unfold zjO at h
    have h2:=zbl (fun c=>!zoh c) z
    split at h
    ·cases h
    ·rename_i x y e2
     rw[e2]at h2
     split at h
     ·cases h;exact((yc2 x r).trans h2).trans h1
     ·cases h
   ·cases h;exact(zbl _ z).trans h1
theorem Wr.uses{base x s σ}(h:Wr base x s σ){f:Nat}(hf:f<base):¬zbx σ x f:=fun⟨cs,v,h1,h2,h3⟩=>by
 obtain⟨lv,ho,hl⟩:=h.cells
 rw[ho]at h1
 cases h1
 simp at h2
 subst h2
 rcases hl with ⟨_,rfl⟩|⟨g,tos,rfl,hg,_⟩
 ·cases h3
 ·simp only[zbX,yaR.injEq]at h3
  omega
theorem Wr.lt{base x s σ}(h:Wr base x s σ){f:Nat}(u:zbx σ x f):f<σ.nf:=by
 obtain⟨cs,v,h1,h2,h3⟩:=u
 obtain⟨lv,ho,hl⟩:=h.cells
 rw[ho]at h1
 cases h1
 simp at h2
 subst h2
 rcases hl with ⟨_,rfl⟩|⟨g,tos,rfl,hg,hg2,_⟩
 ·cases h3
 ·simp only[zbX,yaR.injEq]at h3
  omega
theorem Wr.set{base x s σ lv b}(h:Wr base x s σ)(hb:b<:+s.b)(hl:ToR base σ lv s.ls):Wr base x { s with b:=b } (σ.setO x [.str b,lv]):=by
 refine⟨h.hx,h.hb,h.h0,h.ok.end hb,yc3 hb.length_le h.len,lv,by simp,?_⟩
 rcases hl with h1|⟨g,tos,h1,h2,h3,h4,h5⟩
 ·exact .inl h1
 ·exact .inr ⟨g,tos,h1,h2,h3,h4,h5⟩
theorem Wr.adds{base x s σ σ'}(h:Wr base x s σ)(A:zg σ σ'):Wr base x s σ':=by
 obtain⟨lv,ho,hl⟩:=h.cells
 have hn:=A.nf
 have hb:=h.hb
 refine⟨yag h.hx A.no,⟨hb.1,by omega⟩,(A.fam 0 (by omega)).trans h.h0,h.ok,h.len,lv,(A.obj x h.hx).trans ho,?_⟩
 rcases hl with h1|⟨g,tos,h1,h2,h3,h4,h5⟩
 ·exact .inl h1
 ·exact .inr ⟨g,tos,h1,h2,by omega,(A.fam g h3).trans h4,h5⟩
def zbN(R:Out→AS→Prop)(x:Nat)(σ:AS)(e:Int):Prop:=∀σ',zM x σ σ'→R (.panic (zuw e)) σ'
theorem zbN.mono{R x σ σ' e}(h:zbN R x σ e)(K:zM x σ σ'):zbN R x σ' e:=fun τ k=>h τ (K.trans k)
section
variable {G : Env} {σ : AS} {R : Out → AS → Prop}
theorem zN{b:Bool}{e:Int}(h1:b=true→R (.ret (.tuple [])) σ)(h2:b=false→R (.panic (zuw e)) σ):zzQ G 61 [.bool b,.int .i64 e] σ R:=by
 refine ztV rfl ?_
 cases b with
 | true =>
  simp[zC2]
  exact h1 rfl
 | false =>
  simp[zC2]
  exact h2 rfl
theorem zhN{base x s}(h:Wr base x s σ)(hn:zaG s=.error 2→zbN R x σ 2)(hs:∀t s',zaG s=.ok (t,s')→∀σ',Wr base x s' σ'→zQ x σ σ'→R (.ret (.str t)) σ'):zzQ G 110 [.ptr x 0] σ R:=by
 refine zqj rfl ?_
 obtain⟨lv,ho,hl⟩:=h.cells
 have l1:=hl.one
 have hx:=h.hx
 simp[zw5,ho]
 refine zeh h.ok (yag h.len (by decide)) (fun hq r σ1 hr A1=>?_) (fun t r hq σ1 A1=>?_)
 ·simp
  refine zN (fun q=>by simp at q) (fun _=>?_)
  simp
  exact hn (by unfold zaG;rw[hq]) _ (A1.keepR hx)
 ·obtain⟨_,hne⟩:=zbI hq
  have h1:=h.adds A1
  have hsuf:=ziU hq
  simp[hne]
  refine zN (fun _=>?_) (fun q=>by simp at q)
  obtain⟨lv1,ho1,hl1⟩:=h1.cells
  have l2:=hl1.one
  simp[ho1,splice]
  have hnx:zaG s=.ok (t,{ s with b:=r }):=by unfold zaG;rw[hq]
  exact hs t _ hnx _ (h1.set hsuf hl1) ((A1.keepS hx ho).trans (.set ho1 rfl))
end
@[simp] theorem zux:zaa yb9 139=some true:=by kernel_rfl
@[simp] theorem zvW(t:Nat)(v:AV)(K:AV→Prop):zbA yb9 .eql 139 (.iface t v) .nilif K=K (.bool false):=by
 have h:=zux
 unfold zaa at h
 split at h
 ·rename_i ms hu
  simp[zbA,aeq,zhV,hu]
 ·cases h
 ·cases h
def LW(x:Nat)(σ:AS)(v:AV)(ts:List (List UInt8)):Prop:=(∃b,v=.sl (.stat b) 1 (ts.map ycr))∨∃ob,v=.slm ob 0 1 ts.length∧ob<σ.no∧ob≠x∧σ.objs ob=some (ts.map ycr)
theorem LW.keep{x σ σ' v ts}(h:LW x σ v ts)(K:zQ x σ σ'):LW x σ' v ts:=by
 rcases h with h|⟨ob,h1,h2,h3,h4⟩
 ·exact .inl h
 ·exact .inr ⟨ob,h1,yag h2 K.no,h3,(K.obj ob h2 h3).trans h4⟩
theorem Wr.isSome{base x s σ}(h:Wr base x s σ):∃cs,σ.objs x=some cs:=by obtain⟨lv,ho,_⟩:=h.cells;exact⟨_,ho⟩
section
variable {G : Env} {σ : AS} {R : Out → AS → Prop}
def WdI(base x:Nat)(ts:List (List UInt8))(s0:Ts)(σ:AS)(v:AV)(a:Nat→AV)(τ:AS):Prop:=∃(d r:List (List UInt8)) (s:Ts),ts=d++r∧zP ts s0=zP r s∧a 0=.ptr x 0∧a 6=v∧a 7=.int .i64 (ts.length:Int)∧a 8=.int .i64 (d.length:Int)∧Wr base x s τ∧zQ x σ τ∧LW x τ v ts
theorem ziV{base x s v ts}(h:Wr base x s σ)(hv:LW x σ v ts)(hl:ts.length<1000)(hn:∀e,zP ts s=.error e→zbN R x σ e)(hs:∀s',zP ts s=.ok s'→∀σ',Wr base x s' σ'→zQ x σ σ'→R (.ret (.tuple [])) σ'):zzQ G 56 [.ptr x 0,v] σ R:=by
 refine ztQ rfl ?_
 obtain⟨cs0,hcs0⟩:=h.isSome
 have hlen:(∃b,v=.sl (.stat b) 1 (ts.map ycr))∨∃ob,v=.slm ob 0 1 ts.length:=by
  rcases hv with h|⟨ob,h,_⟩
  ·exact .inl h
  ·exact .inr ⟨ob,h⟩
 have go:avc yb9 G 18 (.block 0 (.loop zgl)) (zg5 yb9 [] R) (upd (upd (upd (zaZ [.ptr x 0,v]) 6 v) 7 (.int .i64 (ts.length:Int))) 8 (.int .i64 0)) σ:=by
  simp
  refine zae (WdI base x ts s σ v) (MU 8 (ts.length+1)) ⟨[],ts,s,rfl,rfl,by simp,by simp,by simp,by simp,h,.refl hcs0,hv⟩ fun a τ hI=>?_
  obtain⟨d,r,s1,hdr,he,a0,a6,a7,a8,hW,hK,hV⟩:=hI
  cases r with
  | nil =>
   have e:ts.length=d.length:=by simp[hdr]
   rw[e]at a7
   simp[zgl,a0,a6,a7,a8]
   exact hs s1 he _ hW hK
  | cons t r =>
   have hlt:(d.length:Int)<(ts.length:Int):=by simp[hdr];omega
   have hi:ts[d.length]?=some t:=by simp[hdr]
   have w1:yb4 .i64 ((d.length:Int)+1)=((d.length+1:Nat):Int):=by rw[wrap_i64]<;>omega
   have rest:∀(t':List UInt8) (s2:Ts) (τ2:AS),zaG s1=.ok (t',s2)→Wr base x s2 τ2→zQ x τ τ2→zP ts s=(if t'=t then zP r s2 else .error 2):=fun t' s2 τ2 q _ _=>by
    rw[he,zP,q]
    rfl
   have hno:zaG s1=.error 2→zbN R x σ 2:=fun q=>hn 2 (by rw[he,zP,q];rfl)
   rcases hV with ⟨b,hv'⟩|⟨ob,hv',g1,g2,g3⟩
   ·subst hv'
    have hv':True:=trivial
    simp[zgl,a0,a6,a7,a8,hv',hlt,hi]
    refine zhN hW (fun q=>(hno q).mono hK.r) (fun t' s2 q τ2 hW2 hK2=>?_)
    have hr:=rest t' s2 τ2 q hW2 hK2
    have hK12:=hK.trans hK2
    by_cases ht:t'=t
    ·rw[if_pos ht]at hr
     simp[ht]
     refine zN (fun _=>?_) (fun q=>by cases q)
     simp[a0,a6,a7,a8,w1]
     refine⟨⟨d++[t],r,s2,by simp[hdr],hr,by simp[a0],by simp[a6,hv'],by simp[a7],by simp,hW2,hK12,(LW.keep (.inl ⟨b,rfl⟩) hK2)⟩,?_⟩
     simp[MU,a8];omega
    ·rw[if_neg ht]at hr
     simp[ht]
     refine zN (fun q=>by cases q) (fun _=>?_)
     simp
     exact hn 2 hr _ hK12.r
   ·subst hv'
    have hv':True:=trivial
    simp[zgl,a0,a6,a7,a8,hv',hlt,hi,g3]
    refine zhN hW (fun q=>(hno q).mono hK.r) (fun t' s2 q τ2 hW2 hK2=>?_)
    have hr:=rest t' s2 τ2 q hW2 hK2
    have hK12:=hK.trans hK2
    by_cases ht:t'=t
    ·rw[if_pos ht]at hr
     simp[ht]
     refine zN (fun _=>?_) (fun q=>by cases q)
     simp[a0,a6,a7,a8,w1]
     refine⟨⟨d++[t],r,s2,by simp[hdr],hr,by simp[a0],by simp[a6,hv'],by simp[a7],by simp,hW2,hK12,(LW.keep (.inr ⟨ob,rfl,g1,g2,g3⟩) hK2)⟩,?_⟩
     simp[MU,a8];omega
    ·rw[if_neg ht]at hr
     simp[ht]
     refine zN (fun q=>by cases q) (fun _=>?_)
     simp
     exact hn 2 hr _ hK12.r
 rcases hlen with ⟨b,rfl⟩|⟨ob,rfl⟩
 ·simp[zC1]
  simpa using go
 ·simp[zC1]
  simpa using go
theorem zrw{base x s w}(h:Wr base x s σ)(hw:w≠[])(hn:zeI w s=none→∀σ',Wr base x s σ'→zQ x σ σ'→R (.ret (.bool false)) σ')(hs:∀s',zeI w s=some s'→∀σ',Wr base x s' σ'→zQ x σ σ'→R (.ret (.bool true)) σ'):zzQ G 59 [.ptr x 0,.str w] σ R:=by
 refine ztT rfl ?_
 obtain⟨lv,ho,hl⟩:=h.cells
 have l1:=hl.one
 have hx:=h.hx
 have hlen:=h.len
 have hm:zeI w s=match zcz s.b with
  | none=>none
  | some p=>if p.1=zu then(match zcz p.2 with
   | none=>none
   | some q=>if q.1=w then some { s with b:=q.2 }else none)else none:=rfl
 simp[zD8,ho]
 refine zeh h.ok (by omega) (fun hq r σ1 hr A1=>?_) (fun t r hq σ1 A1=>?_)
 ·rw[hq]at hm
  simp
  have hrl:=hr.length_le
  refine zeh (h.ok.end hr) (by omega) (fun hq2 r2 σ2 hr2 A2=>?_) (fun t2 r2 hq2 σ2 A2=>?_)
  ·simp
   exact hn hm _ (h.adds (A1.trans A2)) ((A1.trans A2).keepS hx ho)
  ·simp
   exact hn hm _ (h.adds (A1.trans A2)) ((A1.trans A2).keepS hx ho)
 ·rw[hq]at hm
  simp only at hm
  have hr:=ziU hq
  have hrl:=hr.length_le
  simp
  refine zeh (h.ok.end hr) (by omega) (fun hq2 r2 σ2 hr2 A2=>?_) (fun t2 r2 hq2 σ2 A2=>?_)
  ·have hA:=A1.trans A2
   have hno:zeI w s=none:=by
    rw[hm,hq2]
    split<;>rfl
   have fin:=hn hno _ (h.adds hA) (hA.keepS hx ho)
   by_cases ht:t=zu
   ·have ht':t=[40]:=ht
    have hw':¬[]=w:=fun e=>hw e.symm
    simp[ht',hw']
    exact fin
   ·have ht':¬t=[40]:=ht
    simp[ht']
    exact fin
  ·have hA:=A1.trans A2
   have h2:=h.adds hA
   obtain⟨lv2,ho2,hl2⟩:=h2.cells
   have l2:=hl2.one
   by_cases ht:t=zu
   ·have ht':t=[40]:=ht
    rw[if_pos ht,hq2]at hm
    simp only at hm
    by_cases hw:t2=w
    ·rw[if_pos hw]at hm
     simp[ht',hw,ho2,splice]
     exact hs _ hm _ (h2.set ((ziU hq2).trans hr) hl2) ((hA.keepS hx ho).trans (.set ho2 rfl))
    ·rw[if_neg hw]at hm
     simp[ht',hw]
     exact hn hm _ h2 (hA.keepS hx ho)
   ·have ht':¬t=[40]:=ht
    rw[if_neg ht]at hm
    simp[ht']
    exact hn hm _ h2 (hA.keepS hx ho)
theorem zgD{t:List UInt8}(h:R (.ret (.str (zaL t))) σ):zzQ G 113 [.str t,.str [45]] σ R:=by
 refine ziT ?_
 have hb:(if zhj [45] t=true then t.drop [45].length else t)=zaL t:=by
  rw[zgC]
  unfold zaL
  cases t with
  | nil=>rfl
  | cons c r =>
   by_cases hc:c=45
   ·subst hc;simp
   ·simp[hc]
 exact(congrArg (fun z=>R (.ret (.str z)) σ) hb).mpr h
theorem ziW(V:zbk G){base x s}(h:Wr base x s σ)(hn:∀e,zU s=.error e→zbN R x σ e)(hs:∀n s',zU s=.ok (n,s')→-(2^63)≤n→n<2^63→∀σ',Wr base x s' σ'→zQ x σ σ'→R (.ret (.int .i64 n)) σ'):zzQ G 58 [.ptr x 0] σ R:=by
 refine ztS rfl ?_
 simp[zD7]
 refine zhN h (fun q=>hn 2 (by unfold zU;rw[q];rfl)) (fun t s1 q σ1 h1 K1=>?_)
 have hnum:zU s=(zkq t).map fun n=>(n,s1):=by unfold zU;rw[q];rfl
 have htl:t.length<2^36:=by
  have:=h.len
  unfold zaG at q
  cases hc:zcz s.b with
  | none=>rw[hc]at q;cases q
  | some p =>
   obtain⟨p1,p2⟩:=p
   rw[hc]at q
   cases q
   have:=(zbI hc).1
   show p1.length<2^36
   omega
 obtain⟨lv1,ho1,hl1⟩:=h1.cells
 have hx1:=h1.hx
 simp
 refine zgD ?_
 have hbl:(zaL t).length≤t.length:=by
  unfold zaL
  split<;>simp
 have hdig:∀c,inS [48,49,50,51,52,53,54,55,56,57] c=zE c:=by
  have key:∀k:Fin 256,inS [48,49,50,51,52,53,54,55,56,57] (UInt8.ofNat k.1)=zE (UInt8.ofNat k.1):=by decide +kernel
  intro c
  have:=key ⟨c.toNat,c.toNat_lt⟩
  simpa using this
 by_cases hb0:zaL t=[]
 ·have hv:zkq t=.error 2:=by unfold zkq;rw[if_pos (by simp[hb0])]
  rw[hv]at hnum
  simp[hb0]
  refine zN (fun q=>by cases q) (fun _=>?_)
  simp
  exact hn 2 hnum _ K1.r
 ·simp[hb0]
  refine zeP (l:=[48,49,50,51,52,53,54,55,56,57]) (by decide) (by decide) (by decide) (by omega) fun σ2 A2=>?_
  have K12:=K1.trans (A2.keepS hx1 ho1)
  cases hall:(zaL t).all zE with
  | false =>
   have hv:zkq t=.error 2:=by unfold zkq;rw[if_pos (by simp[hall])]
   rw[hv]at hnum
   have hne:¬zj7 [48,49,50,51,52,53,54,55,56,57] (zaL t)=[]:=by
    rw[zb1]
    have:(zaL t).all (inS [48,49,50,51,52,53,54,55,56,57])=(zaL t).all zE:=by congr 1;funext c;exact hdig c
    rw[this,hall]
    simp
   simp[hne]
   refine zN (fun q=>by cases q) (fun _=>?_)
   simp
   exact hn 2 hnum _ K12.r
  | true =>
   have he:zj7 [48,49,50,51,52,53,54,55,56,57] (zaL t)=[]:=by
    rw[zb1]
    have:(zaL t).all (inS [48,49,50,51,52,53,54,55,56,57])=(zaL t).all zE:=by congr 1;funext c;exact hdig c
    rw[this,hall]
   have hv:zkq t=match Lib.atoiAll t with
     | .ok n=>if Lib.itoa n=t then .ok n else .error 11
     | _=>.error 11:=by
    unfold zkq
    rw[if_neg (by simp[hb0,hall])]
    rfl
   simp[he]
   refine zN (fun _=>?_) (fun q=>by cases q)
   simp
   refine znd V hb0 hall (by omega) (fun n hq2=>?_) (fun hq2 k=>?_)
   ·rw[hq2]at hv
    simp only at hv
    have hr:-(2^63)≤n∧n<2^63:=by
     rw[ziG hb0 hall]at hq2
     split at hq2
     ·cases hq2;assumption
     ·cases hq2
    simp
    refine zdk V hr ?_
    by_cases hi:Lib.itoa n=t
    ·rw[if_pos hi]at hv
     rw[hv]at hnum
     simp[hi]
     refine zN (fun _=>?_) (fun q=>by cases q)
     simp
     exact hs n s1 hnum hr.1 hr.2 _ (h1.adds A2) K12
    ·rw[if_neg hi]at hv
     rw[hv]at hnum
     simp[hi]
     refine zN (fun q=>by cases q) (fun _=>?_)
     simp
     exact hn 11 hnum _ K12.r
   ·rw[hq2]at hv
    simp only at hv
    rw[hv]at hnum
    simp
    refine zN (fun q=>by cases q) (fun _=>?_)
    simp
    exact hn 11 hnum _ K12.r
end
theorem Wr.newF{base x s τ}(h:Wr base x s τ):Wr base x s τ.newF:=h.adds (zg.refl τ).newF
theorem Wr.endF{base x s τ}(h:Wr base x s τ){g:Nat}(hg:base≤g)(hu:¬zbx τ x g):Wr base x s (τ.setF g .dead):=by
 obtain⟨lv,ho,hl⟩:=h.cells
 have hb:=h.hb
 refine⟨h.hx,hb,?_,h.ok,h.len,lv,ho,?_⟩
 ·have:¬0=g:=by omega
  simp[this,h.h0]
 ·rcases hl with h1|⟨f,tos,h1,h2,h3,h4,h5⟩
  ·exact .inl h1
  ·have:¬f=g:=fun e=>hu ⟨_,_,ho,rfl,by rw[h1,←e];rfl⟩
   exact .inr ⟨f,tos,h1,h2,h3,by simp[this,h4],h5⟩
theorem Wr.mrg{base x s τ}(h:Wr base x s τ){g:Nat}(hg:base≤g)(hu:¬zbx τ x g):Wr base x s (τ.mrg g fun _=>false):=by
 obtain⟨lv,ho,hl⟩:=h.cells
 have hb:=h.hb
 refine⟨h.hx,hb,?_,h.ok,h.len,lv,by simpa [AS.mrg]using ho,?_⟩
 ·have:¬0=g:=by omega
  simp[AS.mrg,zjI,this,h.h0]
 ·rcases hl with h1|⟨f,tos,h1,h2,h3,h4,h5⟩
  ·exact .inl h1
  ·have:¬f=g:=fun e=>hu ⟨_,_,ho,rfl,by rw[h1,←e];rfl⟩
   exact .inr ⟨f,tos,h1,h2,h3,by simp[AS.mrg,zjI,this,h4],h5⟩
theorem Wr.setO{base x s σ o cs}(h:Wr base x s σ)(ho:o≠x):Wr base x s (σ.setO o cs):=by
 obtain⟨lv,h1,hl⟩:=h.cells
 refine⟨h.hx,h.hb,h.h0,h.ok,h.len,lv,?_,?_⟩
 ·have:¬x=o:=fun e=>ho e.symm
  simp[this,h1]
 ·rcases hl with h1|⟨g,tos,h1,h2,h3,h4,h5⟩
  ·exact .inl h1
  ·exact .inr ⟨g,tos,h1,h2,h3,h4,h5⟩
theorem zoK{el:Option TypeId}{base x s}{σ0 τ:AS}{v row:AV}{xs:List AV}{bsz sz:Nat}{K:AV→AS→Prop}(hG:zhi σ0 x sz τ v xs)(hR:Wr base x s τ)(hK:zM x σ0 τ)(hb:base≤σ0.nf)(hrow:row.cells.length=sz)(hl:(xs.length+1)*bsz≤2^47)
  (h:∀v' τ',zhi σ0 x sz τ' v' (xs++[row])→Wr base x s τ'→zM x σ0 τ'→τ'.objs=τ.objs→τ'.no=τ.no→(zQ x σ0 τ→zQ x σ0 τ')→K v' τ'):zcy el bsz sz v [row] τ K:=by
 have hn:=hK.nf
 rcases hG with ⟨rfl,rfl⟩|⟨g,rfl,h2,h3,h4,h5⟩
 ·have hnu:¬zbx τ.newF x τ.nf:=fun u=>by have:=hR.lt (f:=τ.nf) u;omega
  have:=h (.sl (.fam τ.nf false) sz [row]) τ.newF (.inr ⟨τ.nf,rfl,hn,by simp,by simp,hnu⟩) hR.newF hK.newF (by simp) (by simp) (fun q=>q.newF)
  simp at hl
  simp
  first|exact this|exact⟨by omega,this⟩
 ·have hR':=(hR.endF (by omega) h5).newF
  have hK':=(hK.endF h2).newF
  have hnu:¬zbx (τ.setF g .dead).newF x τ.nf:=fun u=>by have:=hR.lt (f:=τ.nf) u;omega
  have:=h (.sl (.fam τ.nf false) sz (xs++[row])) (τ.setF g .dead).newF (.inr ⟨τ.nf,rfl,hn,by simp,by simp,hnu⟩) hR' hK' (by simp) (by simp) (fun q=>(q.endF h2).newF)
  simp[h4]
  exact⟨hl,this⟩
theorem zby{s s':Ts}{t:List UInt8}(h:zaG s=.ok (t,s')):t.length+s'.b.length≤s.b.length∧t≠[]∧s'.ls=s.ls:=by
 unfold zaG at h
 cases hc:zcz s.b with
 | none=>rw[hc]at h;cases h
 | some p =>
  obtain⟨p1,p2⟩:=p
  rw[hc]at h
  cases h
  exact⟨(zbI hc).1,(zbI hc).2,rfl⟩
section
variable {G : Env} {σ : AS} {R : Out → AS → Prop}
def TyW(base x:Nat)(k0:Nat)(s0:Ts)(σ:AS)(a:Nat→AV)(τ:AS):Prop:=∃(k:Nat) (done:List Int) (s:Ts),zal k0 [] s0=zal k done s∧s.b.length<k∧done.length+s.b.length≤s0.b.length∧a 0=.ptr x 0∧zhi σ x 1 τ (a 2) (done.map (.int .i64))∧Wr base x s τ∧zQ x σ τ
def MBt(x:Nat)(_:Nat→AV)(τ:AS):Nat:=match τ.objs x with
 | some (.str b::_)=>b.length
 | _=>0
theorem zdz{base x s τ}(h:Wr base x s τ)(a:Nat→AV):MBt x a τ=s.b.length:=by
 obtain⟨lv,ho,hl⟩:=h.cells
 unfold MBt
 rw[ho]
theorem zyY(l:List Int):(0:Int)<(l.length:Int)↔l≠[]:=by
 cases l<;>simp
theorem zln{base x s}{k:Nat}(h:Wr base x s σ)(hk:s.b.length<k)(hn:∀e,zal k [] s=.error e→zbN R x σ e)(hs:∀l s',zal k [] s=.ok (l,s')→∀v σ',Al.IntsE v l→Wr base x s' σ'→zQ x σ σ'→R (.ret v) σ'):zzQ G 118 [.ptr x 0] σ R:=by
 refine Al.merging (zqp rfl ?_)
 obtain⟨cs0,hcs0⟩:=h.isSome
 simp[zw9]
 refine zae (TyW base x k s σ) (MBt x) ⟨k,[],s,rfl,hk,by simp,by simp,.inl ⟨rfl,by simp⟩,h,.refl hcs0⟩ fun a τ hI=>?_
 obtain⟨k1,done,s1,he,hk1,hlen,a0,hG,hW,hK⟩:=hI
 obtain⟨k1,rfl⟩:∃j,k1=j+1:=⟨k1-1,by omega⟩
 have hmb:=zdz hW a
 have hb:=h.hb.2
 have hl36:=h.len
 rw[zal]at he
 simp[zlN,a0]
 refine zhN hW (fun q=>?_) (fun t s2 q τ2 hW2 hK2=>?_)
 ·intro σ' h1
  exact .inl (hn 2 (by rw[he,q];rfl) σ' (hK.r.trans h1))
 ·rw[q]at he
  simp only[Except.bind]at he
  obtain⟨q1,q2,_⟩:=zby q
  have ht0:1≤t.length:=ybm.2 q2
  have hK12:=hK.trans hK2
  have hG2:=hG.keep hK2.r
  have g2:=hG2.one
  have hmb2:=zdz hW2 a
  by_cases h32:t=zvR
  ·rw[if_pos h32]at he
   have h32':t=[105,51,50]:=h32
   simp[h32',g2]
   refine zoK (row:=.int .i64 1) hG2 hW2 hK12.r hb (by simp) (by simp;omega) fun v' τ' e1 e2 e3 e4 e5 e6=>?_
   simp
   refine⟨⟨k1,done++[1],s2,he,by omega,by simp;omega,by simp[a0],by simpa using e1,e2,e6 hK12⟩,?_⟩
   rw[zdz e2,hmb];omega
  ·rw[if_neg h32]at he
   have h32':¬t=[105,51,50]:=h32
   by_cases h64:t=zvS
   ·rw[if_pos h64]at he
    have h64':t=[105,54,52]:=h64
    simp[h64',g2]
    refine zoK (row:=.int .i64 2) hG2 hW2 hK12.r hb (by simp) (by simp;omega) fun v' τ' e1 e2 e3 e4 e5 e6=>?_
    simp
    refine⟨⟨k1,done++[2],s2,he,by omega,by simp;omega,by simp[a0],by simpa using e1,e2,e6 hK12⟩,?_⟩
    rw[zdz e2,hmb];omega
   ·rw[if_neg h64]at he
    have h64':¬t=[105,54,52]:=h64
    by_cases hsh:t=zf
    ·have hsh':t=[41]:=hsh
     by_cases hd:done=[]
     ·rw[if_neg (fun q=>q.2 hd)]at he
      subst hd
      rcases hG2 with ⟨_,e2⟩|⟨g,e1,_⟩
      ·simp[hsh',e2]
       refine zN (fun q=>by cases q) (fun _=>?_)
       simp
       exact .inl (hn 2 he _ hK12.r)
      ·simp[hsh',e1]
       refine zN (fun q=>by cases q) (fun _=>?_)
       simp
       exact .inl (hn 2 he _ hK12.r)
     ·rw[if_pos ⟨hsh,hd⟩]at he
      rcases hG2 with ⟨e1,_⟩|⟨g,e1,e2,e3,e4,e5⟩
      ·exact absurd (by simpa using e1) hd
      ·have hpos:(0:Int)<(done.length:Int):=(zyY done).2 hd
       have hposN:0<done.length:=by omega
       simp[hsh',e1,hposN]
       refine zN (fun _=>?_) (fun q=>by cases q)
       simp[e1]
       have:=hs _ _ he (.sl (.fam 0 false) 1 (done.map (.int .i64))) (τ2.mrg g fun _=>false) (.inr ⟨_,rfl⟩) (hW2.mrg (by omega) e5) (hK12.mrg e2)
       refine Al.MrgOr.merged g (fun _=>false) (by have:=hW2.hb;omega) e4 ?_
       simpa [Function.comp_def]using this
    ·rw[if_neg (fun q=>hsh q.1)]at he
     have hsh':¬t=[41]:=hsh
     simp[h32',h64',hsh']
     refine zN (fun q=>by cases q) (fun _=>?_)
     simp
     exact .inl (hn 2 he _ hK12.r)
end
@[simp] theorem zES(σ:AS)(f g:Nat):(σ.turn f).F g=if g=σ.nf then .alive else if g=f then .dead else σ.F g:=by simp[AS.turn,upd]
@[simp] theorem zDB(σ:AS)(f:Nat):(σ.turn f).nf=σ.nf+1:=rfl
@[simp] theorem zDC(σ:AS)(f:Nat):(σ.turn f).no=σ.no:=rfl
@[simp] theorem zyZ(σ:AS)(f:Nat):(σ.turn f).objs=σ.objs:=rfl
theorem zg.turn{σ σ':AS}(h:zg σ σ'){f:Nat}(hf:σ.nf≤f):zg σ (σ'.turn f) where
 no:=h.no
 nf:=Nat.le_succ_of_le h.nf
 obj:=h.obj
 fam g hg:=by
  have:=h.nf
  have h1:¬g=σ'.nf:=by omega
  have h2:¬g=f:=by omega
  simp[h1,h2]
  exact h.fam g hg
theorem zsN:yb9.underlying 208=some (.map 9 53):=by kernel_rfl
theorem zsO:yb9.underlying 242=some (.map 9 3):=by kernel_rfl
theorem zmd(s:List UInt8):zdG yb9 9 (.str s)=true:=by
 have:yb9.underlying 9=some .string:=by kernel_rfl
 simp[zdG,this]
def zks(l:List (List UInt8)):List AV:=l.map ycr
theorem zc5(s:List UInt8):∀(l:List (List UInt8)) (i:Nat),zjj (.str s) (zks l) i=some ((l.findIdx? (fun k=>k==s)).map (·+i))
 | [],i=>rfl
 | k::l,i=>by
  rw[show zks (k::l)=.str k::zks l from rfl,zjj,yc4]
  by_cases h:s=k
  ·subst h
   simp[zg0]
  ·have h':¬k=s:=fun e=>h e.symm
   have ih:=zc5 s l (i+1)
   simp only[zg0,show(s==k)=false from by simpa using h]
   rw[ih]
   simp[h']
   cases l.findIdx? (fun k=>k==s)with
   | none=>simp
   | some j=>simp;omega
@[simp] theorem zvX{σ:AS}{f:Nat}{ks:List (List UInt8)}{vs:List AV}{k:List UInt8}{v:AV}{K:AV→AS→Prop}:zbL yb9 208 (.mpo f (zks ks) vs) (.str k) v σ K=(σ.F f=.alive∧v.plainV=true∧ks.contains k=false∧K (.mpo σ.nf (zks (ks++[k])) (vs++[v])) (σ.turn f)):=by
 simp only[zbL,zsN,zmd,zc5,true_and]
 have e:(some ((ks.findIdx? (fun x=>x==k)).map (·+0))=some none)↔ks.contains k=false:=by
  cases h:ks.findIdx? (fun x=>x==k)with
  | none =>
   have:=ycU.1 h
   simp
   intro q
   have:=this k q
   simp at this
  | some i =>
   obtain⟨hi,hc,_⟩:=yc1.1 h
   have hc:ks[i]=k:=by simpa using hc
   simp
   rw[←hc]
   exact yaw hi
 rw[propext e]
 rw[show zks (ks++[k])=zks ks++[.str k] from by simp[zks]]
@[simp] theorem zvY{σ:AS}{f:Nat}{ks:List (List UInt8)}{vs:List AV}{k:List UInt8}{v:AV}{K:AV→AS→Prop}:zbL yb9 242 (.mpo f (zks ks) vs) (.str k) v σ K=(σ.F f=.alive∧v.plainV=true∧ks.contains k=false∧K (.mpo σ.nf (zks (ks++[k])) (vs++[v])) (σ.turn f)):=by
 simp only[zbL,zsO,zmd,zc5,true_and]
 have e:(some ((ks.findIdx? (fun x=>x==k)).map (·+0))=some none)↔ks.contains k=false:=by
  cases h:ks.findIdx? (fun x=>x==k)with
  | none =>
   have:=ycU.1 h
   simp
   intro q
   have:=this k q
   simp at this
  | some i =>
   obtain⟨hi,hc,_⟩:=yc1.1 h
   have hc:ks[i]=k:=by simpa using hc
   simp
   rw[←hc]
   exact yaw hi
 rw[propext e]
 rw[show zks (ks++[k])=zks ks++[.str k] from by simp[zks]]
@[simp] theorem zCg{σ:AS}{K:AV→AS→Prop}{r:Option AV}:zdb r σ K=(r=none∧K (.mpo σ.nf (zks []) []) σ.newF):=rfl
def zbm:W:={ op:=0,ty:=0,n:=0,body:=0,other:=0,name:=[] }
theorem zkb(T:List (List UInt8 × W))(s:List UInt8)(K:AV→Prop):zaT yb9 208 (.mp (zks (T.map (·.1))) (T.map fun p=>p.2.av)) (.str s) true K=K (.tuple [((zA T s).getD zbm).av,.bool (zA T s).isSome]):=by
 have hz:zJ yb9 53=some zbm.av:=by kernel_rfl
 simp only[zaT,zsN,zmd,zc5,true_and,hz]
 have e:(T.map (·.1)).findIdx? (fun k=>k==s)=T.findIdx? (fun p=>p.1==s):=by rw[List.findIdx?_map];rfl
 rw[e]
 unfold zA
 cases h:T.findIdx? (fun p=>p.1==s)with
 | none =>
  have hn:T.find? (fun p=>p.1==s)=none:=yc5.2 fun p hp=>by have:=ycU.1 h p hp;simp[this]
  rw[hn]
  simp
 | some i =>
  obtain⟨hi,hc,hlt⟩:=yc1.1 h
  have hf:T.find? (fun p=>p.1==s)=some T[i]:=by
   rw[List.find?_eq_some_iff_getElem]
   exact⟨hc,i,hi,rfl,fun j hj=>by simpa using hlt j hj⟩
  rw[hf]
  have hg:(T.map fun p=>p.2.av)[i]?=some T[i].2.av:=by simp[hi]
  apply propext
  simp only[Option.map_some,yaK,Option.getD_some,Option.isSome_some,if_true]
  constructor
  ·rintro ⟨r,h1,h2⟩
   cases h1
   obtain⟨v,h3,h4⟩:=h2
   rw[hg]at h3
   cases h3
   exact h4
  ·exact fun q=>⟨some i,rfl,_,hg,q⟩
section
variable {G : Env} {σ : AS} {R : Out → AS → Prop}
theorem zhO{s:List UInt8}(h:∀σ',zg σ σ'→R (.ret (.tuple [((zA zch s).getD zbm).av,.bool (zA zch s).isSome])) σ'):zzQ G 134 [.str s] σ R:=by
 refine zqB rfl ?_
 simp[zxg,splice,AV.plainV,AV.atom]
 refine(zkb zch s _).mpr ?_
 have key:∀w b,(zA zch s).getD zbm=w→(zA zch s).isSome=b→∀σ',zg σ σ'→R (.ret (.tuple [w.av,.bool b])) σ':=fun w b e1 e2=>e1▸e2▸h
 cases hf:zA zch s with
 | none =>
  have:=key zbm false (by rw[hf];rfl) (by rw[hf];rfl)
  simp[splice,W.av,W.cs,zbm]
  simp[W.av,W.cs,zbm]at this
  refine this _ ?_
  repeat (first|exact zg.refl _|refine zg.setO ?_ (by simp)|refine zg.newO ?_|refine zg.newF ?_|refine zg.turn ?_ (by omega))
 | some w =>
  have:=key w true (by rw[hf];rfl) (by rw[hf];rfl)
  simp[W.av,W.cs]at this
  simp[splice,W.av,W.cs]
  refine this _ ?_
  repeat (first|exact zg.refl _|refine zg.setO ?_ (by simp)|refine zg.newO ?_|refine zg.newF ?_|refine zg.turn ?_ (by omega))
theorem zdT{t:Int}(ht:t=1∨t=2)(h:R (.ret (.str (zw t))) σ):zzQ G 131 [.int .i64 t] σ R:=by
 refine zqx rfl ?_
 rcases ht with rfl|rfl
 ·simp[zt6]
  exact h
 ·simp[zt6]
  exact h
end
end Go.Proofs.YtohfclafhegadaaGreatDoor
set_option maxRecDepth 100000
namespace Go.Proofs.YtohfclafhegadaaGreatDoor.Sg
open Go Go.Abs Go.Proofs.YtohfclafhegadaaGreatDoor
def zme:List UInt8:=[97,100,100,32,115,117,98,32,109,117,108,32,100,105,118,95,115,32,114,101,109,95,115,32,97,110,100,32,111,114,32,120,111,114,32,115,104,108,32,115,104,114,95,115,32,101,113,32,110,101,32,108,116,95,115,32,108,101,95,115,32,103,116,95,115,32,103,101,95,115]
theorem fok:zrm zme zeb 66:=⟨by decide,by decide,by decide,by decide,by decide,⟨_,_,rfl,by decide⟩,by decide,by decide,by decide⟩
theorem fields_calls{G:Env}{σ:AS}{R:Out→AS→Prop}(v3:G.g 0=.pv (.stat true) (.agg zdP))(h:∀x σ',zg σ σ'→σ.no≤x→x<σ'.no→σ'.objs x=some (zeb.map ycr)→R (.ret (.slm x 0 1 16)) σ'):zzQ G 57 [.str zme] σ R:=zeL fok v3 h
end Go.Proofs.YtohfclafhegadaaGreatDoor.Sg
namespace Go.Proofs.YtohfclafhegadaaGreatDoor
open Go Go.Abs
abbrev zCh(t:Int):W:={ op:=5,ty:=t,n:=0,body:=0,other:=0,name:=[] }
abbrev zCi(t:Int)(u:List UInt8):W:={ op:=4,ty:=t,n:=0,body:=0,other:=0,name:=u }
def zb2(t:Int)(s:List UInt8):Option W :=
 if zhj (zw t++[46]) s=true then(if s.drop 4=[101,113,122]then some (zCh t)else if zeb.contains (s.drop 4)=true then some (zCi t (s.drop 4))else none)else none
theorem zmf{p s:List UInt8}:zhj p s=true↔∃u,s=p++u:=by
 unfold zhj
 rw[decide_eq_true_eq]
 constructor
 ·rintro ⟨_,h⟩
  exact⟨s.drop p.length,by conv=>lhs;rw[←yc0 p.length s,h]⟩
 ·rintro ⟨u,rfl⟩
  simp
theorem zgE(pre:List UInt8)(g:List UInt8→W)(s:List UInt8):∀L:List (List UInt8),zA (L.map fun k=>(pre++k,g k)) s=if zhj pre s=true∧s.drop pre.length∈L then some (g (s.drop pre.length))else none
 | []=>by simp[zA]
 | k::L=>by
  have ih:=zgE pre g s L
  unfold zA at ih ⊢
  rw[yaL,List.find?_cons]
  by_cases h:pre++k=s
  ·subst h
   have:zhj pre (pre++k)=true:=zmf.2 ⟨k,rfl⟩
   simp[this]
  ·have hb:(pre++k==s)=false:=by simpa using h
   simp only[hb]
   rw[ih]
   by_cases hp:zhj pre s=true
   ·obtain⟨u,rfl⟩:=zmf.1 hp
    have:¬u=k:=fun e=>h (by rw[e])
    simp[hp,this]
   ·simp[hp]
theorem zgF(a b:List (List UInt8 × W))(s:List UInt8):zA (a++b) s=(zA a s).or (zA b s):=by
 unfold zA
 rw[List.find?_append]
 cases a.find? (fun p=>p.1==s)<;>simp
theorem zgG(t:Int)(s:List UInt8):zA (zl4 t) s=zb2 t s:=by
 have hl:(zw t++[46]).length=4:=by unfold zw;split<;>rfl
 have e1:(zeb.map fun x=>(zw t++46::x,({ op:=4,ty:=t,n:=0,body:=0,other:=0,name:=x }:W)))=zeb.map fun k=>((zw t++[46])++k,zCi t k):=by
  simp
 have e2:[(zw t++[46,101,113,122],({ op:=5,ty:=t,n:=0,body:=0,other:=0,name:=[] }:W))]=[[101,113,122]].map fun k=>((zw t++[46])++k,zCh t):=by simp
 unfold zl4
 rw[zgF,e1,e2,zgE,zgE,hl]
 unfold zb2
 by_cases hp:zhj (zw t++[46]) s=true
 ·have hq:[101,113,122]∉zeb:=by decide
  by_cases h1:s.drop 4=[101,113,122]
  ·simp[hp,h1,hq]
  ·simp[hp,h1]
   try (split<;>simp)
 ·simp[hp]
theorem zkc:∀p∈zgo,zb2 1 p.1=none∧zb2 2 p.1=none:=by decide
theorem zkd(s:List UInt8):zA zfq s=(zb2 1 s).or ((zb2 2 s).or (zA zgo s)):=by
 unfold zfq
 rw[zgF,zgF,zgG,zgG]
 cases hb:zA zgo s with
 | none=>simp
 | some w =>
  have:∃p∈zgo,p.1=s:=by
   unfold zA at hb
   rw[ybB]at hb
   obtain⟨p,hp,_⟩:=hb
   exact⟨p,yc6 hp,by simpa using yc7 hp⟩
  obtain⟨p,hp,rfl⟩:=this
  rw[(zkc p hp).1,(zkc p hp).2]
  rfl
def zfg:List (List UInt8 × W):=zgo.take 2++(zgo.drop 8++(zgo.drop 2).take 6)
theorem znf{l T:List (List UInt8 × W)}(hm:∀p,p∈l↔p∈T)(hT:∀p∈T,zA T p.1=some p.2)(s:List UInt8):zA l s=zA T s:=by
 cases h:zA l s with
 | some w =>
  unfold zA at h
  rw[ybB]at h
  obtain⟨p,hp,rfl⟩:=h
  have h1:=hT p ((hm p).1 (yc6 hp))
  have h2:p.1=s:=by simpa using yc7 hp
  rw[h2]at h1
  exact h1.symm
 | none =>
  cases h2:zA T s with
  | none=>rfl
  | some w =>
   unfold zA at h h2
   rw[ybB]at h2
   obtain⟨p,hp,rfl⟩:=h2
   rw[Option.map_eq_none_iff,yc5]at h
   have:=h p ((hm p).2 (yc6 hp))
   have h3:=yc7 hp
   exact absurd h3 this
theorem zoL(s:List UInt8):zA zfg s=zA zgo s:=znf (fun p=>by
  have h1:∀p∈zfg,p∈zgo:=by decide
  have h2:∀p∈zgo,p∈zfg:=by decide
  exact⟨h1 p,h2 p⟩) (by decide) s
@[simp] theorem zrx{P:Program}(t)(x y:List UInt8){K:AV→Prop}:zbA P .add t (.str x) (.str y) K=(x.length+y.length<2^62∧K (.str (x++y))):=by simp only[zbA,zfN]
section
variable {G : Env} {σ : AS} {R : Out → AS → Prop}
def IxS(x:Nat)(L:List (List UInt8))(s:List UInt8)(σ:AS)(a:Nat→AV)(τ:AS):Prop:=∃d r:List (List UInt8),L=d++r∧(∀y∈d,¬s=y)∧a 0=.slm x 0 1 L.length∧a 1=.str s∧a 7=.int .i64 (L.length:Int)∧a 8=.int .i64 (d.length:Int)∧τ=σ
theorem zry{x:Nat}{L:List (List UInt8)}{s:List UInt8}(hL:L.length<1000)(ho:σ.objs x=some (L.map ycr))(h:∀n:Int,(0≤n↔s∈L)→R (.ret (.int .i64 n)) σ):zzQ G 157 [.slm x 0 1 L.length,.str s] σ R:=by
 refine zqE rfl ?_
 simp[zxj]
 refine zae (IxS x L s σ) (MU 8 (L.length+1)) ⟨[],L,rfl,by simp,by simp,by simp,by simp,by simp,rfl⟩ fun a τ hI=>?_
 obtain⟨d,r,hdr,hn,a0,a1,a7,a8,rfl⟩:=hI
 cases r with
 | nil =>
  have e:L.length=d.length:=by simp[hdr]
  rw[e]at a7
  simp[zfC,zlR,a0,a1,a7,a8]
  refine h _ ⟨fun q=>by omega,fun q=>?_⟩
  rw[hdr,yb7]at q
  exact absurd rfl (hn s q)
 | cons y r =>
  have hlt:(d.length:Int)<(L.length:Int):=by simp[hdr];omega
  have hi:L[d.length]?=some y:=by simp[hdr]
  have w1:yb4 .i64 ((d.length:Int)+1)=((d.length+1:Nat):Int):=by rw[wrap_i64]<;>omega
  by_cases he:s=y
  ·simp[zfC,a0,a1,a7,a8,hlt,ho,hi,he]
   exact h _ ⟨fun _=>by rw[hdr,he];simp,fun _=>by omega⟩
  ·simp[zfC,a0,a1,a7,a8,hlt,ho,hi,he,w1]
   refine⟨⟨d++[y],r,by simp[hdr],?_,by simp[a0],by simp[a1],by simp[a7],by simp,rfl⟩,?_⟩
   ·intro z hz
    rcases ybh.1 hz with hz|hz
    ·exact hn z hz
    ·simp at hz;subst hz;exact he
   ·simp[MU,a8];omega
theorem zlo{x:Nat}{L:List (List UInt8)}{s:List UInt8}(hL:L.length<1000)(ho:σ.objs x=some (L.map ycr))(h:R (.ret (.bool (decide (s∈L)))) σ):zzQ G 239 [.slm x 0 1 L.length,.str s] σ R:=by
 refine zq8 rfl ?_
 simp[zxx]
 refine zry hL ho fun n hn=>?_
 simp[hn]
 exact h
def SgI(s:List UInt8)(σ:AS)(a:Nat→AV)(τ:AS):Prop:=∃i:Nat,i≤2∧(1≤i→zb2 1 s=none)∧(2≤i→zb2 2 s=none)∧a 0=.str s∧a 2=.ptr σ.no 0∧a 10=.sl (.stat true) 1 [.int .i64 1,.int .i64 2]∧a 11=.int .i64 2∧a 12=.int .i64 (i:Int)∧zg σ τ∧σ.no<τ.no∧τ.objs σ.no=some zbm.cs
theorem zrz(V:zbk G){s:List UInt8}(hl:s.length<2^40)(h:∀σ',zg σ σ'→R (.ret (.tuple [((zA zfq s).getD zbm).av,.bool (zA zfq s).isSome])) σ'):zzQ G 208 [.str s] σ R:=by
 refine zq0 rfl ?_
 simp[zxu]
 refine zae (SgI s σ) (MU 12 3) ⟨0,by omega,by omega,by omega,by simp,by simp,by simp,by simp,by simp,(zg.refl σ).newO,by simp,by simp[zbm,W.cs]⟩ fun a τ hI=>?_
 obtain⟨i,hi,n1,n2,a0,a2,a10,a11,a12,hA,hno,ho⟩:=hI
 have done:∀w,zA zfq s=some w→∀σ',zg σ σ'→R (.ret (.tuple [w.av,.bool true])) σ':=fun w e=>by
  rw[e]at h
  exact h
 by_cases hlt:i<2
 ·obtain⟨t,ht⟩:∃t:Int,t=(i:Int)+1:=⟨_,rfl⟩
  have ht12:t=1∨t=2:=by omega
  have hlt':(i:Int)<2:=by omega
  have hg:([ycs .i64 1,.int .i64 2]:List AV)[i]?=some (.int .i64 t):=by
   match i,hlt with
   | 0,_=>subst ht;rfl
   | 1,_=>subst ht;rfl
  have w1:yb4 .i64 ((i:Int)+1)=((i+1:Nat):Int):=by rw[wrap_i64]<;>omega
  have htl:(zw t).length=3:=by rcases ht12 with rfl|rfl<;>rfl
  have hnext:zb2 t s=none→(1≤i+1→zb2 1 s=none)∧(2≤i+1→zb2 2 s=none):=fun e=>by
   match i,hlt with
   | 0,_=>subst ht;exact⟨fun _=>e,fun q=>by omega⟩
   | 1,_=>subst ht;exact⟨fun _=>n1 (by omega),fun _=>e⟩
  have hrow:∀w,zb2 t s=some w→zA zfq s=some w:=fun w e=>by
   rw[zkd]
   match i,hlt with
   | 0,_=>subst ht;rw[show(((0:Nat):Int)+1)=1 from rfl]at e;rw[e];rfl
   | 1,_=>subst ht;rw[show(((1:Nat):Int)+1)=2 from rfl]at e;rw[n1 (by omega),e];rfl
  simp[ziE,a0,a2,a10,a11,a12,hlt',hg]
  refine zdT ht12 ?_
  simp[htl]
  refine zfd ?_
  have h4:(zw t++[46]).length=4:=by simp[htl]
  rw[h4]
  cases hp:zhj (zw t++[46]) s with
  | false =>
   have hs:zb2 t s=none:=by unfold zb2;rw[hp];rfl
   obtain⟨m1,m2⟩:=hnext hs
   simp[a0,a2,a10,a11,a12,w1]
   refine⟨⟨i+1,by omega,m1,m2,by simp[a0],by simp[a2],by simp[a10],by simp[a11],by simp,hA,hno,ho⟩,?_⟩
   simp[MU,a12];omega
  | true =>
   by_cases hz:s.drop 4=[101,113,122]
   ·have hs:zb2 t s=some (zCh t):=by unfold zb2;rw[if_pos hp,if_pos hz]
    have fin:=done _ (hrow _ hs)
    simp[a0,a2,a10,a11,a12,hz,ho,splice,zbm,W.cs]
    simp[W.av,W.cs,zCh]at fin
    exact fin _ (hA.setO (yah _))
   ·simp[a0,a2,a10,a11,a12,hz]
    refine Sg.fields_calls V.space fun x σ1 A1 hx0 hx1 hxo=>?_
    have hA1:=hA.trans A1
    have ho1:=(A1.obj _ hno).trans ho
    have hno1:σ.no<σ1.no:=yag hno A1.no
    simp
    refine zlo (L:=zeb) (by decide) hxo ?_
    by_cases hm:s.drop 4∈zeb
    ·have hs:zb2 t s=some (zCi t (s.drop 4)):=by unfold zb2;rw[if_pos hp,if_neg hz,if_pos (by simpa using hm)]
     have fin:=done _ (hrow _ hs)
     simp[a0,a2,a10,a11,a12,hm,ho1,splice,zbm,W.cs]
     simp[W.av,W.cs,zCi]at fin
     exact fin _ (hA1.setO (yah _))
    ·have hs:zb2 t s=none:=by unfold zb2;rw[if_pos hp,if_neg hz,if_neg (by simpa using hm)]
     obtain⟨m1,m2⟩:=hnext hs
     simp[a0,a2,a10,a11,a12,hm,w1]
     refine⟨⟨i+1,by omega,m1,m2,by simp[a0],by simp[a2],by simp[a10],by simp[a11],by simp,hA1,hno1,ho1⟩,?_⟩
     simp[MU,a12];omega
 ·have e2:i=2:=by omega
  subst e2
  have hrow:zA zfq s=zA zfg s:=by rw[zkd,n1 (by omega),n2 (by omega),zoL];rfl
  simp[ziE,zl0,a0,a2,a10,a11,a12,splice,AV.plainV,AV.atom]
  refine(zkb zfg s _).mpr ?_
  rw[hrow]at h
  have hnf:=hA.nf
  have hno2:=hA.no
  have key:∀w b,(zA zfg s).getD zbm=w→(zA zfg s).isSome=b→∀σ',zg σ σ'→R (.ret (.tuple [w.av,.bool b])) σ':=fun w b e1 e2=>e1▸e2▸h
  have hAll:zg σ τ:=hA
  have hne:¬σ.no=τ.no:=by omega
  have cT:=(((((((((((hAll.newF.turn (f:=τ.nf) (by omega)).turn (f:=τ.nf+1) (by omega)).turn (f:=τ.nf+1+1) (by omega)).turn (f:=τ.nf+1+1+1) (by omega)).turn (f:=τ.nf+1+1+1+1) (by omega)).turn (f:=τ.nf+1+1+1+1+1) (by omega)).turn (f:=τ.nf+1+1+1+1+1+1) (by omega)).turn (f:=τ.nf+1+1+1+1+1+1+1) (by omega)).turn (f:=τ.nf+1+1+1+1+1+1+1+1) (by omega)).turn (f:=τ.nf+1+1+1+1+1+1+1+1+1) (by omega)).turn (f:=τ.nf+1+1+1+1+1+1+1+1+1+1) (by omega))
  cases hf:zA zfg s with
  | none =>
   have:=key zbm false (by rw[hf];rfl) (by rw[hf];rfl)
   simp[W.av,W.cs,zbm]at this
   simp[splice,W.av,W.cs,zbm,ho,a2,hne]
   refine this _ ?_
   exact(cT.newO.setO hno2).setO (yah _)
  | some w =>
   have:=key w true (by rw[hf];rfl) (by rw[hf];rfl)
   simp[W.av,W.cs]at this
   simp[splice,W.av,W.cs,zbm,ho,a2,hne]
   refine this _ ?_
   exact(cT.newO.setO hno2).setO (yah _)
end
def LeT(s s':Ts):Prop:=s'.b.length≤s.b.length∧s'.ls.length+s'.b.length≤s.ls.length+s.b.length
theorem LeT.trans{a b c:Ts}(h:LeT a b)(k:LeT b c):LeT a c:=⟨yai k.1 h.1,yai k.2 h.2⟩
theorem LeT.refl(a:Ts):LeT a a:=⟨yah _,yah _⟩
theorem zcr{s s':Ts}{t:List UInt8}(h:zaG s=.ok (t,s')):LeT s s':=by
 obtain⟨h1,_,h3⟩:=zby h
 exact⟨by omega,by rw[h3];omega⟩
theorem zrA{t:List UInt8}{s s':Ts}{w:W}(h:zci t s=.ok (w,s')):LeT s s':=by
 unfold zci at h
 split at h
 ·obtain⟨p,h1,h2⟩:=map_some h
  cases h2
  unfold zU at h1
  obtain⟨q,h3,h4⟩:=bind_some h1
  obtain⟨n,_,h5⟩:=map_some h4
  cases h5
  exact zcr h3
 ·split at h
  ·cases h;exact .refl _
  ·cases h
theorem zng{rec:zvT}(hr:∀d o s r s',rec d o s=.ok (r,s')→LeT s s'){op:Int}{d:Nat}{s s':Ts}{w:W}(h:zap rec op d s=.ok (w,s')):LeT s s':=by
 unfold zap at h
 split at h
 ·cases h
 ·obtain⟨p,h1,h2⟩:=bind_some h
  have l1:=hr _ _ _ _ _ h1
  split at h2
  ·split at h2
   ·obtain⟨q,h3,h4⟩:=map_some h2
    cases h4
    exact l1.trans (hr _ _ _ _ _ h3)
   ·cases h2;exact l1
  ·cases h2;exact l1
theorem zke{rec:zvT}(hr:∀d o s r s',rec d o s=.ok (r,s')→LeT s s'){t:List UInt8}{d:Nat}{s s':Ts}{w:W}(h:za0 rec t d s=.ok (w,s')):LeT s s':=by
 unfold za0 at h
 split at h
 ·exact zrA h
 ·exact zng hr h
theorem zei:∀(k d:Nat) (o:Bool) (l:List W) (s:Ts) (r:Int × List UInt8) (s':Ts),zI k d o l s=.ok (r,s')→LeT s s'
 | 0,_,_,_,_,_,_,h=>by cases h
 | k+1,d,o,l,s,r,s',h=>by
  rw[zI]at h
  obtain⟨p,h1,h2⟩:=bind_some h
  obtain⟨q1,q2,q3⟩:=zby h1
  have ht:1≤p.1.length:=ybm.2 q2
  split at h2
  ·cases h2
   refine⟨by simp only;omega,?_⟩
   simp only[yab,yac,ybl]
   rw[q3]
   omega
  ·obtain⟨q,h3,h4⟩:=bind_some h2
   exact(zcr h1).trans ((zke (fun d o s r s'=>zei k d o [] s r s') h3).trans (zei k d o _ _ _ _ h4))
def zsP:List (List UInt8):=[zhC,zmS,tIf]
theorem zoM(t:List UInt8)(K:AV→Prop):zaT yb9 242 (.mp (zks zsP) [.int .i64 11,.int .i64 12,.int .i64 13]) (.str t) false K=K (.int .i64 (zaM t)):=by
 have hz:zJ yb9 3=some (.int .i64 0):=by kernel_rfl
 simp only[zaT,zsO,zmd,zc5,true_and,hz,zsP,yc4,List.findIdx?_nil]
 unfold zaM
 by_cases h1:t=zhC
 ·subst h1
  simp
 ·have h1':(zhC==t)=false:=beq_eq_false_iff_ne.2 fun e=>h1 e.symm
  by_cases h2:t=zmS
  ·subst h2
   simp[h1,h1']
  ·have h2':(zmS==t)=false:=beq_eq_false_iff_ne.2 fun e=>h2 e.symm
   by_cases h3:t=tIf
   ·subst h3
    simp[h1,h1',h2,h2']
   ·have h3':(tIf==t)=false:=beq_eq_false_iff_ne.2 fun e=>h3 e.symm
    simp[h1,h1',h2,h2',h3,h3']
def zdU(d:Nat)(o:Bool):List (List UInt8):=if d=0 then [zf]else if o=true then [zbO,za7]else [zbO]
theorem zoN{d:Nat}{o:Bool}(h:o=true→0<d)(t:List UInt8):t∈zdU d o↔zdp d o t=true:=by
 unfold zdU zdp
 by_cases hd:d=0
 ·have ho:o=false:=by
   cases o with
   | false=>rfl
   | true=>have:=h rfl;omega
  subst ho
  simp[hd]
 ·have:0<d:=by omega
  cases o<;>simp[hd,this]
def ziX(G:Env)(base x k:Nat):Prop:=∀(σ:AS) (R:Out→AS→Prop) (s:Ts) (d:Nat) (o:Bool),Wr base x s σ→s.b.length<k→s.ls.length+s.b.length≤2^38→d≤400→(o=true→0<d)→(∀e,zI k d o [] s=.error e→zbN R x σ e) →
 (∀n t s',zI k d o [] s=.ok ((n,t),s')→∀σ',Wr base x s' σ'→zM x σ σ'→R (.ret (.tuple [.int .i64 n,.str t])) σ')→zzQ G 119 [.ptr x 0,.int .i64 (d:Int),.sl (.stat true) 1 ((zdU d o).map ycr)] σ R
section
variable {G : Env} {σ : AS} {R : Out → AS → Prop}
theorem zrB{base x s}{k d:Nat}{op:Int}(h:Wr base x s σ)(hop:op=11∨op=12∨op=13)(hd:1≤d)(hd4:d≤401)(IH:∀j,j≤k→ziX G base x j)(hk:s.b.length<k)(hz:s.ls.length+s.b.length≤2^38)
  (hn:∀e,zap (fun d o s=>zI k d o [] s) op d s=.error e→zbN R x σ e) (hs:∀w s',zap (fun d o s=>zI k d o [] s) op d s=.ok (w,s')→∀σ',Wr base x s' σ'→zM x σ σ'→R (.ret w.av) σ'):zzQ G 207 [.ptr x 0,.int .i64 op,.int .i64 (d:Int)] σ R:=by
 refine zqZ rfl ?_
 obtain⟨cs0,hcs0⟩:=h.isSome
 have hx:=h.hx
 by_cases h4:400<d
 ·have h4':¬(d:Int)≤400:=by omega
  have he:zap (fun d o s=>zI k d o [] s) op d s=.error 3:=by unfold zap;rw[if_pos h4]
  simp[zud,h4']
  refine zN (fun q=>by cases q) (fun _=>?_)
  simp
  exact hn 3 he _ ((zg.refl σ).newO.keepR hx)
 ·have h4':(d:Int)≤400:=by omega
  have he:zap (fun d o s=>zI k d o [] s) op d s=(zI k d (decide (op=13)) [] s).bind fun p =>
    if op=13 then(if p.1.2=za7 then(zI k d false [] p.2).map fun q=>({ op:=13,ty:=0,n:=0,body:=p.1.1,other:=q.1.1,name:=[] },q.2)
     else .ok ({ op:=13,ty:=0,n:=0,body:=p.1.1,other:=-1,name:=[] },p.2))
    else .ok ({ op:=op,ty:=0,n:=0,body:=p.1.1,other:=0,name:=[] },p.2):=by unfold zap;rw[if_neg h4]
  simp[zud,h4']
  refine zN (fun _=>?_) (fun q=>by cases q)
  simp[splice]
  have hno1:(((σ.newO [ycs .i64 0,.int .i64 0,.int .i64 0,.int .i64 0,.int .i64 0,.str []]).newO [ycs .i64 0,.int .i64 0,.int .i64 0,.int .i64 0,.int .i64 0,.str []]).setO (σ.no+1) [ycs .i64 op,.int .i64 0,.int .i64 0,.int .i64 0,.int .i64 0,.str []]).no=σ.no+2:=by simp
  have A1:zg σ (((σ.newO [ycs .i64 0,.int .i64 0,.int .i64 0,.int .i64 0,.int .i64 0,.str []]).newO [ycs .i64 0,.int .i64 0,.int .i64 0,.int .i64 0,.int .i64 0,.str []]).setO (σ.no+1) [ycs .i64 op,.int .i64 0,.int .i64 0,.int .i64 0,.int .i64 0,.str []]):=(zg.refl σ).newO.newO.setO (by omega)
  have o0:(((σ.newO [ycs .i64 0,.int .i64 0,.int .i64 0,.int .i64 0,.int .i64 0,.str []]).newO [ycs .i64 0,.int .i64 0,.int .i64 0,.int .i64 0,.int .i64 0,.str []]).setO (σ.no+1) [ycs .i64 op,.int .i64 0,.int .i64 0,.int .i64 0,.int .i64 0,.str []]).objs σ.no=some [.int .i64 0,.int .i64 0,.int .i64 0,.int .i64 0,.int .i64 0,.str []]:=by simp
  have o1:(((σ.newO [ycs .i64 0,.int .i64 0,.int .i64 0,.int .i64 0,.int .i64 0,.str []]).newO [ycs .i64 0,.int .i64 0,.int .i64 0,.int .i64 0,.int .i64 0,.str []]).setO (σ.no+1) [ycs .i64 op,.int .i64 0,.int .i64 0,.int .i64 0,.int .i64 0,.str []]).objs (σ.no+1)=some [.int .i64 op,.int .i64 0,.int .i64 0,.int .i64 0,.int .i64 0,.str []]:=by simp
  generalize hσ1:((σ.newO [ycs .i64 0,.int .i64 0,.int .i64 0,.int .i64 0,.int .i64 0,.str []]).newO [ycs .i64 0,.int .i64 0,.int .i64 0,.int .i64 0,.int .i64 0,.str []]).setO (σ.no+1) [ycs .i64 op,.int .i64 0,.int .i64 0,.int .i64 0,.int .i64 0,.str []]=σ1 at *
  have hW1:=h.adds A1
  have K1:=A1.keepR hx
  have hx0:¬x=σ.no:=by omega
  have hx1:¬x=σ.no+1:=by omega
  have hx0':σ.no≠x:=by omega
  have hx1':σ.no+1≠x:=by omega
  have fin:∀(w:W) (s':Ts) (σ':AS),zap (fun d o s=>zI k d o [] s) op d s=.ok (w,s')→Wr base x s' σ'→zM x σ1 σ'→∀c1 c2,R (.ret w.av) ((σ'.setO (σ.no+1) c1).setO σ.no c2):=fun w s' σ' q hW hK c1 c2 =>
   hs w s' q _ ((hW.setO hx1').setO hx0') (((K1.trans hK).setO (by omega) hx1').setO (yah _) hx0')
  by_cases h13:op=13
  ·subst h13
   simp only[if_true,decide_true]at he
   simp
   rw[hσ1]
   have hl1:=IH k (yah _) σ1
   have e1:zdU d true=[zbO,za7]:=by unfold zdU;rw[if_neg (by omega),if_pos rfl]
   have e2:zdU d false=[zbO]:=by unfold zdU;rw[if_neg (by omega),if_neg (by simp)]
   have go1:∀R',(∀e,zI k d true [] s=.error e→zbN R' x σ1 e)→(∀n t s',zI k d true [] s=.ok ((n,t),s')→∀σ',Wr base x s' σ'→zM x σ1 σ'→R' (.ret (.tuple [.int .i64 n,.str t])) σ')→zzQ G 119 [.ptr x 0,.int .i64 (d:Int),.sl (.stat true) 1 [.str [101,110,100],.str [101,108,115,101]]] σ1 R':=fun R' a b=>by
    have:=IH k (yah _) σ1 R' s d true hW1 hk hz (by omega) (fun _=>by omega) a b
    rw[e1]at this
    exact this
   refine go1 _ (fun e q=>?_) (fun n t s2 q σ2 hW2 hK2=>?_)
   ·intro σ' K
    simp
    exact hn e (by rw[he,q];rfl) _ (K1.trans K)
   ·rw[q]at he
    simp only[Except.bind]at he
    have hle:=zei _ _ _ _ _ _ _ q
    have o0':=(hK2.obj σ.no (by omega) hx0').trans o0
    have o1':=(hK2.obj (σ.no+1) (by omega) hx1').trans o1
    by_cases ht:t=za7
    ·have ht':t=[101,108,115,101]:=ht
     rw[if_pos ht]at he
     simp[o1',splice,ht']
     have hW2':Wr base x s2 ((σ2.setO (σ.no+1) [ycs .i64 13,.int .i64 0,.int .i64 0,.int .i64 n,.int .i64 0,.str []]).setO (σ.no+1) [ycs .i64 13,.int .i64 0,.int .i64 0,.int .i64 n,.int .i64 (-1),.str []]):=(hW2.setO hx1').setO hx1'
     have hK2':zM x σ ((σ2.setO (σ.no+1) [ycs .i64 13,.int .i64 0,.int .i64 0,.int .i64 n,.int .i64 0,.str []]).setO (σ.no+1) [ycs .i64 13,.int .i64 0,.int .i64 0,.int .i64 n,.int .i64 (-1),.str []]):=((K1.trans hK2).setO (by omega) hx1').setO (by omega) hx1'
     have p0:((σ2.setO (σ.no+1) [ycs .i64 13,.int .i64 0,.int .i64 0,.int .i64 n,.int .i64 0,.str []]).setO (σ.no+1) [ycs .i64 13,.int .i64 0,.int .i64 0,.int .i64 n,.int .i64 (-1),.str []]).objs σ.no=some [.int .i64 0,.int .i64 0,.int .i64 0,.int .i64 0,.int .i64 0,.str []]:=by simp[o0']
     have p1:((σ2.setO (σ.no+1) [ycs .i64 13,.int .i64 0,.int .i64 0,.int .i64 n,.int .i64 0,.str []]).setO (σ.no+1) [ycs .i64 13,.int .i64 0,.int .i64 0,.int .i64 n,.int .i64 (-1),.str []]).objs (σ.no+1)=some [.int .i64 13,.int .i64 0,.int .i64 0,.int .i64 n,.int .i64 (-1),.str []]:=by simp
     have pn:σ.no+2≤((σ2.setO (σ.no+1) [ycs .i64 13,.int .i64 0,.int .i64 0,.int .i64 n,.int .i64 0,.str []]).setO (σ.no+1) [ycs .i64 13,.int .i64 0,.int .i64 0,.int .i64 n,.int .i64 (-1),.str []]).no:=by have:=hK2.no;simp;omega
     generalize (σ2.setO (σ.no+1) [ycs .i64 13,.int .i64 0,.int .i64 0,.int .i64 n,.int .i64 0,.str []]).setO (σ.no+1) [ycs .i64 13,.int .i64 0,.int .i64 0,.int .i64 n,.int .i64 (-1),.str []]=σ3 at *
     have go2:∀R',(∀e,zI k d false [] s2=.error e→zbN R' x σ3 e)→(∀n t s',zI k d false [] s2=.ok ((n,t),s')→∀σ',Wr base x s' σ'→zM x σ3 σ'→R' (.ret (.tuple [.int .i64 n,.str t])) σ')→zzQ G 119 [.ptr x 0,.int .i64 (d:Int),.sl (.stat true) 1 [.str [101,110,100]]] σ3 R':=fun R' a b=>by
      have:=IH k (yah _) σ3 R' s2 d false hW2' (yc3 hle.1 hk) (yai hle.2 hz) (by omega) (fun q=>by cases q) a b
      rw[e2]at this
      exact this
     refine go2 _ (fun e q2=>?_) (fun n2 t2 s4 q2 σ4 hW4 hK4=>?_)
     ·intro σ' K
      simp
      exact hn e (by rw[he,q2];rfl) _ (hK2'.trans K)
     ·rw[q2]at he
      have r0:=(hK4.obj σ.no (by omega) hx0').trans p0
      have r1:=(hK4.obj (σ.no+1) (by omega) hx1').trans p1
      simp[r0,r1,splice]
      have:=hs _ s4 he _ ((hW4.setO (cs:=[ycs .i64 13,.int .i64 0,.int .i64 0,.int .i64 n,.int .i64 n2,.str []]) hx1').setO (cs:=[ycs .i64 13,.int .i64 0,.int .i64 0,.int .i64 n,.int .i64 n2,.str []]) hx0') (((hK2'.trans hK4).setO (by omega) hx1').setO (yah _) hx0')
      simp[W.av,W.cs]at this
      exact this
    ·have ht':¬t=[101,108,115,101]:=ht
     rw[if_neg ht]at he
     simp[o1',o0',splice,ht']
     have:=hs _ s2 he _ (((hW2.setO (cs:=[ycs .i64 13,.int .i64 0,.int .i64 0,.int .i64 n,.int .i64 0,.str []]) hx1').setO (cs:=[ycs .i64 13,.int .i64 0,.int .i64 0,.int .i64 n,.int .i64 (-1),.str []]) hx1').setO (cs:=[ycs .i64 13,.int .i64 0,.int .i64 0,.int .i64 n,.int .i64 (-1),.str []]) hx0') ((((K1.trans hK2).setO (by omega) hx1').setO (by omega) hx1').setO (yah _) hx0')
     simp[W.av,W.cs]at this
     exact this
  ·simp only[h13,if_false,decide_false]at he
   simp[h13]
   rw[hσ1]
   have e2:zdU d false=[zbO]:=by unfold zdU;rw[if_neg (by omega),if_neg (by simp)]
   have go2:∀R',(∀e,zI k d false [] s=.error e→zbN R' x σ1 e)→(∀n t s',zI k d false [] s=.ok ((n,t),s')→∀σ',Wr base x s' σ'→zM x σ1 σ'→R' (.ret (.tuple [.int .i64 n,.str t])) σ')→zzQ G 119 [.ptr x 0,.int .i64 (d:Int),.sl (.stat true) 1 [.str [101,110,100]]] σ1 R':=fun R' a b=>by
    have:=IH k (yah _) σ1 R' s d false hW1 hk hz (by omega) (fun q=>by cases q) a b
    rw[e2]at this
    exact this
   refine go2 _ (fun e q=>?_) (fun n t s2 q σ2 hW2 hK2=>?_)
   ·intro σ' K
    simp
    exact hn e (by rw[he,q];rfl) _ (K1.trans K)
   ·rw[q]at he
    have o0':=(hK2.obj σ.no (by omega) hx0').trans o0
    have o1':=(hK2.obj (σ.no+1) (by omega) hx1').trans o1
    simp[o1',o0',splice]
    have:=fin _ s2 σ2 he hW2 hK2 [ycs .i64 op,.int .i64 0,.int .i64 0,.int .i64 n,.int .i64 0,.str []] [ycs .i64 op,.int .i64 0,.int .i64 0,.int .i64 n,.int .i64 0,.str []]
    simp[W.av,W.cs]at this
    exact this
theorem zuy(V:zbk G){base x s}{k d:Nat}{t:List UInt8}(h:Wr base x s σ)(htl:t.length<2^40)(hd4:d≤400)(IH:∀j,j≤k→ziX G base x j)(hk:s.b.length<k)(hz:s.ls.length+s.b.length≤2^38)
  (hn:∀e,za0 (fun d o s=>zI k d o [] s) t d s=.error e→zbN R x σ e) (hs:∀w s',za0 (fun d o s=>zI k d o [] s) t d s=.ok (w,s')→∀σ',Wr base x s' σ'→zM x σ σ'→R (.ret w.av) σ'):zzQ G 171 [.ptr x 0,.str t,.int .i64 (d:Int)] σ R:=by
 refine zqN rfl ?_
 have hx:=h.hx
 simp[zxo,AV.plainV,AV.atom]
 refine(zoM t _).mpr ?_
 have A1:zg σ ((((σ.newO [ycs .i64 0,.int .i64 0,.int .i64 0,.int .i64 0,.int .i64 0,.str []]).newF.turn σ.nf).turn (σ.nf+1)).turn (σ.nf+1+1)):=(((zg.refl σ).newO.newF.turn (by omega)).turn (by omega)).turn (by omega)
 have hno1:((((σ.newO [ycs .i64 0,.int .i64 0,.int .i64 0,.int .i64 0,.int .i64 0,.str []]).newF.turn σ.nf).turn (σ.nf+1)).turn (σ.nf+1+1)).no=σ.no+1:=by simp
 have o1:((((σ.newO [ycs .i64 0,.int .i64 0,.int .i64 0,.int .i64 0,.int .i64 0,.str []]).newF.turn σ.nf).turn (σ.nf+1)).turn (σ.nf+1+1)).objs σ.no=some [.int .i64 0,.int .i64 0,.int .i64 0,.int .i64 0,.int .i64 0,.str []]:=by simp
 generalize hσ1:(((σ.newO [ycs .i64 0,.int .i64 0,.int .i64 0,.int .i64 0,.int .i64 0,.str []]).newF.turn σ.nf).turn (σ.nf+1)).turn (σ.nf+1+1)=σ1 at *
 have hW1:=h.adds A1
 have K1:=A1.keepR hx
 have hx0:¬x=σ.no:=by omega
 have hx0':σ.no≠x:=by omega
 by_cases ho:zaM t=0
 ·have he:za0 (fun d o s=>zI k d o [] s) t d s=zci t s:=by unfold za0;rw[if_pos ho]
  simp[ho]
  refine zhO fun σ2 A2=>?_
  have K12:=K1.trans (A2.keepR hW1.hx)
  have hW2:=hW1.adds A2
  have hn2:=A2.no
  have o2:=(A2.obj σ.no (by omega)).trans o1
  cases hf:zA zch t with
  | some w =>
   have hl:zci t s=(zU s).map fun p=>({ w with n:=p.1 },p.2):=by unfold zci;rw[hf]
   simp[W.av,W.cs,splice]
   have A3:zg σ2 ((σ2.newO [ycs .i64 0,ycs .i64 0,ycs .i64 0,ycs .i64 0,ycs .i64 0,ycr []]).setO σ2.no [ycs .i64 w.op,ycs .i64 w.ty,ycs .i64 w.n,ycs .i64 w.body,ycs .i64 w.other,ycr w.name]):=(zg.refl _).newO.setO (by omega)
   have hx2:σ2.no≠x:=by omega
   have o3:((σ2.newO [ycs .i64 0,ycs .i64 0,ycs .i64 0,ycs .i64 0,ycs .i64 0,ycr []]).setO σ2.no [ycs .i64 w.op,ycs .i64 w.ty,ycs .i64 w.n,ycs .i64 w.body,ycs .i64 w.other,ycr w.name]).objs σ2.no=some [ycs .i64 w.op,ycs .i64 w.ty,ycs .i64 w.n,ycs .i64 w.body,ycs .i64 w.other,ycr w.name]:=by simp
   have n3:σ2.no<((σ2.newO [ycs .i64 0,ycs .i64 0,ycs .i64 0,ycs .i64 0,ycs .i64 0,ycr []]).setO σ2.no [ycs .i64 w.op,ycs .i64 w.ty,ycs .i64 w.n,ycs .i64 w.body,ycs .i64 w.other,ycr w.name]).no:=by simp
   generalize (σ2.newO [ycs .i64 0,ycs .i64 0,ycs .i64 0,ycs .i64 0,ycs .i64 0,ycr []]).setO σ2.no [ycs .i64 w.op,ycs .i64 w.ty,ycs .i64 w.n,ycs .i64 w.body,ycs .i64 w.other,ycr w.name]=σ3 at *
   have K13:=K12.trans (A3.keepR hW2.hx)
   refine ziW V (hW2.adds A3) (fun e q=>?_) (fun n s' q r1 r2 σ4 hW4 K4=>?_)
   ·intro σ' K
    simp
    exact hn e (by rw[he,hl,q];rfl) _ (K13.trans K)
   ·have o4:=(K4.r.obj σ2.no n3 hx2).trans o3
    have hne:¬σ.no=σ2.no:=by omega
    have o5:=(K4.r.obj σ.no (by omega) hx0').trans ((A3.obj σ.no (by omega)).trans o2)
    have:=hs _ s' (by rw[he,hl,q];rfl) _ ((hW4.setO (cs:=[ycs .i64 w.op,ycs .i64 w.ty,ycs .i64 n,ycs .i64 w.body,ycs .i64 w.other,ycr w.name]) hx2).setO (cs:=[ycs .i64 w.op,ycs .i64 w.ty,ycs .i64 n,ycs .i64 w.body,ycs .i64 w.other,ycr w.name]) hx0') (((K13.trans K4.r).setO (by omega) hx2).setO (yah _) hx0')
    simp[W.av,W.cs]at this
    simp[o4,o5,hne,splice]
    exact this
  | none =>
   simp[W.av,W.cs,splice,zbm]
   have A3:zg σ2 ((σ2.newO [ycs .i64 0,ycs .i64 0,ycs .i64 0,ycs .i64 0,ycs .i64 0,ycr []]).setO σ2.no [ycs .i64 0,ycs .i64 0,ycs .i64 0,ycs .i64 0,ycs .i64 0,ycr []]):=(zg.refl _).newO.setO (by omega)
   generalize (σ2.newO [ycs .i64 0,ycs .i64 0,ycs .i64 0,ycs .i64 0,ycs .i64 0,ycr []]).setO σ2.no [ycs .i64 0,ycs .i64 0,ycs .i64 0,ycs .i64 0,ycs .i64 0,ycr []]=σ3 at *
   refine zrz V htl fun σ4 A4=>?_
   have hW3:=hW2.adds A3
   have hW4:=hW3.adds A4
   have K14:=(K12.trans (A3.keepR hW2.hx)).trans (A4.keepR hW3.hx)
   have o4:=(A4.obj σ.no (by have:=A3.no;omega)).trans ((A3.obj σ.no (by omega)).trans o2)
   have n4:=A3.no
   have n5:=A4.no
   cases hr:zA zfq t with
   | some w =>
    have hl:zci t s=.ok (w,s):=zZ hf hr s
    simp[W.av,W.cs,splice,o4]
    refine zN (fun _=>?_) (fun q=>by simp at q)
    have hx4:σ4.no≠x:=by omega
    have:=hs w s (by rw[he,hl]) _ (((hW4.adds ((zg.refl σ4).newO (cs:=[ycs .i64 0,ycs .i64 0,ycs .i64 0,ycs .i64 0,ycs .i64 0,ycr []]))).setO (cs:=w.cs) hx4).setO (cs:=w.cs) hx0') (((K14.trans (((zg.refl σ4).newO (cs:=[ycs .i64 0,ycs .i64 0,ycs .i64 0,ycs .i64 0,ycs .i64 0,ycr []])).keepR hW4.hx)).setO (by omega) hx4).setO (yah _) hx0')
    simp[W.av,W.cs]at this
    have hne:¬σ.no=σ4.no:=by omega
    simp[splice,o4,hne]
    exact this
   | none =>
    have hl:zci t s=.error 2:=by unfold zci;rw[hf,hr]
    simp[W.av,W.cs,splice,zbm,o4]
    refine zN (fun q=>by simp at q) (fun _=>?_)
    simp
    exact hn 2 (by rw[he,hl]) _ (K14.trans (zg.keepR ((zg.refl σ4).newO.setO (yah _)) hW4.hx))
 ·have he:za0 (fun d o s=>zI k d o [] s) t d s=zap (fun d o s=>zI k d o [] s) (zaM t) (d+1) s:=by unfold za0;rw[if_neg ho]
  have hop:=(zmb t).resolve_left ho
  have w1:yb4 .i64 ((d:Int)+1)=((d+1:Nat):Int):=by rw[wrap_i64]<;>omega
  simp[ho,w1]
  refine zrB (d:=d+1) hW1 hop (by omega) (by omega) IH hk hz (fun e q=>?_) (fun w s' q σ' hW' hK'=>?_)
  ·intro σ' K
   simp
   exact hn e (by rw[he,q]) _ (K1.trans K)
  ·have o2:=(hK'.obj σ.no (by omega) hx0').trans o1
   have:=hs w s' (by rw[he,q]) _ (hW'.setO (cs:=w.cs) hx0') ((K1.trans hK').setO (yah _) hx0')
   simp[o2,W.av,W.cs,splice]
   simp[W.av,W.cs]at this
   exact this
theorem Wr.push{base x s τ g tos lv l}(h:Wr base x s τ)(ht:All2 Al.RepE tos s.ls)(hG:zhi σ x 6 τ lv (l.map W.av))(hσ:base≤σ.nf){τ':AS}(e1:τ'.objs=upd τ.objs x (some [.str s.b,.sl (.fam τ.nf false) 1 (tos++[lv])]))(e2:τ'.no=τ.no)(e3:τ'.nf=τ.nf+1)(e4:τ'.F τ.nf=.alive)
  (e5:∀f,f<τ.nf→¬zbx τ x f→τ'.F f=τ.F f) (K:zM x σ τ) (hg:∀f,zbx τ x f→f=g) {v:AV} (hmv:∀f,Go.Abs.mrg f v=v) (hR:∀σ',Wr base x { s with ls:=s.ls++[l] } σ'→zM x σ σ'→R (.ret v) σ'):Al.MrgOr R (.ret v) τ':=by
 have hb:=h.hb
 have hn:=K.nf
 have base0:∀σ':AS,σ'.no=τ.no→σ'.nf=τ.nf+1→(∀o,o≠x→σ'.objs o=τ.objs o)→(∃tos',σ'.objs x=some [.str s.b,.sl (.fam τ.nf false) 1 tos']∧All2 Al.RepE tos' (s.ls++[l]))→σ'.F τ.nf=.alive →
   (∀f,f<τ.nf→¬zbx τ x f→f<σ.nf∨f<base→σ'.F f=τ.F f)→R (.ret v) σ':=by
  intro σ' a1 a2 a3 ⟨tos',a4,a6⟩ a7 a8
  have nb:∀f,f<base→¬zbx τ x f:=fun f hf=>h.uses hf
  refine hR σ' ⟨by rw[a1];exact h.hx,⟨hb.1,by omega⟩,?_,h.ok,h.len,_,a4,.inr ⟨τ.nf,tos',rfl,hb.2,by omega,a7,a6⟩⟩ ⟨by rw[a1];exact K.no,by omega,fun o h1 h2=>(a3 o h2).trans (K.obj o h1 h2),fun f h1 h2=>?_,fun f h1 h2=>?_⟩
  ·rw[a8 0 (by omega) (nb 0 hb.1) (.inr hb.1)];exact h.h0
  ·have hu:¬zbx τ x f:=fun u=>h2 (K.use f h1 u)
   rw[a8 f (by omega) hu (.inl h1)]
   exact K.fam f h1 h2
  ·obtain⟨cs,v,q1,q2,q3⟩:=h2
   rw[a4]at q1
   cases q1
   simp at q2
   subst q2
   simp[zbX]at q3
   omega
 rcases hG with ⟨h1,rfl⟩|⟨f,rfl,h2,h3,h4,h5⟩
 ·have hl:l=[]:=by simpa using h1
  subst hl
  exact .inl (base0 τ' e2 e3 (fun o ho=>by rw[e1];simp[ho]) ⟨tos++[.nilsl],by rw[e1];simp,ht.append (.cons (.inl ⟨rfl,rfl⟩) .nil)⟩ e4 (fun f q1 q2 _=>e5 f q1 q2))
 ·refine Al.MrgOr.merged f (fun o=>o==x) (by omega) (by rw[e5 f h3 h5];exact h4) ?_
  rw[hmv]
  refine base0 _ e2 e3 (fun o ho=>by simp[AS.mrg,e1,ho]) ⟨tos++[.sl (.fam 0 false) 6 (l.map W.av)],?_,ht.append (.cons (.inr ⟨_,rfl⟩) .nil)⟩ ?_ (fun f' q1 q2 q3=>?_)
  ·have:¬τ.nf=f:=by omega
   simp[AS.mrg,e1,Al.mrg_rows ht,this,Function.comp_def,Al.mrg_W]
  ·have:¬τ.nf=f:=by omega
   simp[AS.mrg,zjI,this,e4]
  ·have:¬f'=f:=by omega
   simp only[AS.mrg,zjI,zgg,this,if_false]
   exact e5 f' q1 q2
def LsW(base x d k0:Nat)(o:Bool)(s0:Ts)(σ:AS)(a:Nat→AV)(τ:AS):Prop:=∃(k:Nat) (l:List W) (s:Ts),zI k0 d o [] s0=zI k d o l s∧k≤k0∧s.b.length<k∧l.length+s.b.length≤2^38∧s.ls.length+s.b.length≤2^38∧a 0=.ptr x 0∧a 1=.int .i64 (d:Int)∧a 2=.sl (.stat true) 1 ((zdU d o).map ycr)∧zhi σ x 6 τ (a 8) (l.map W.av)∧Wr base x s τ∧zM x σ τ
def EnI(L:List (List UInt8))(t:List UInt8)(x d:Nat)(v8:AV)(τ2:AS)(a:Nat→AV)(τ:AS):Prop:=∃i,i≤L.length∧(∀j,j<i→L[j]?≠some t)∧τ=τ2∧a 0=.ptr x 0∧a 1=.int .i64 (d:Int)∧a 2=.sl (.stat true) 1 (L.map ycr)∧a 8=v8∧a 9=.str t∧a 14=.sl (.stat true) 1 (L.map ycr)∧a 15=.int .i64 (L.length:Int)∧a 16=.int .i64 (i:Int)
theorem zoO(d:Nat)(o:Bool):(zdU d o).length≤2:=by
 unfold zdU
 split
 ·simp
 ·split<;>simp
theorem znh(V:zbk G){base x s0}{k0 d:Nat}{o:Bool}(ho0:o=true→0<d)(hd:d≤400)(hσ:base≤σ.nf)(IH:∀j,j<k0→ziX G base x j)(hn:∀e,zI k0 d o [] s0=.error e→zbN R x σ e)(hs:∀n t s',zI k0 d o [] s0=.ok ((n,t),s')→∀σ',Wr base x s' σ'→zM x σ σ'→R (.ret (.tuple [.int .i64 n,.str t])) σ')
  {a:Nat→AV} {τ:AS} (hI:LsW base x d k0 o s0 σ a τ):avc yb9 G 48 ziu (zbr (fun a' σ'=>LsW base x d k0 o s0 σ a' σ'∧MBt x a' σ'<MBt x a τ) (zbe 0 (zg5 yb9 [.tmp 6,.tmp 7] (Al.MrgOr R)))) a τ:=by
 obtain⟨k,l,s,he,hk,hkb,hlb,hsb,a0,a1,a2,hG,hR,hK⟩:=hI
 have hmb:=zdz hR a
 have hl36:=hR.len
 obtain⟨k,rfl⟩:∃j,k=j+1:=⟨k-1,by omega⟩
 rw[zI]at he
 have hEl:=zoO d o
 have hmem:=zoN ho0
 simp[ziu,a0]
 refine zhN hR (fun q=>?_) (fun t s1 q σ1 hr1 hk1=>?_)
 ·intro σ' h1
  exact .inl (hn 2 (by rw[he,q];rfl) σ' (hK.trans h1))
 ·obtain⟨q1,q2,q3⟩:=zby q
  rw[q]at he
  simp only[Except.bind]at he
  have hK1:=hK.trans hk1.r
  have hG1:=hG.keep hk1.r
  have hmb1:=zdz hr1 a
  have ht0:1≤t.length:=ybm.2 q2
  simp[a2]
  refine zae (EnI (zdU d o) t x d (a 8) σ1) (MU 16 3) ⟨0,by simp,by simp,rfl,by simp[a0],by simp[a1],by simp[a2],by simp,by simp,by simp,by simp,by simp⟩ fun b τ2 hE=>?_
  obtain⟨i,hi,hno,rfl,b0,b1,b2,b8,b9,b14,b15,b16⟩:=hE
  generalize hL:zdU d o=L at *
  by_cases hlt:i<L.length
  ·obtain⟨w,hw⟩:∃w,L[i]=w:=⟨L[i],rfl⟩
   have hw2:L[i]?=some w:=by rw[←hw];simp[hlt]
   have wi:yb4 .i64 ((i:Int)+1)=((i+1:Nat):Int):=by rw[wrap_i64]<;>omega
   by_cases ht:t=w
   ·subst ht
    have hin:t∈L:=ycx hw2
    rw[if_pos ((hmem t).1 hin)]at he
    obtain⟨lv,ho,hlv⟩:=hr1.cells
    have l1:=hlv.one
    have g1:=hG1.one
    have wl:yb4 .i64 (s1.ls.length:Int)=(s1.ls.length:Int):=by rw[wrap_i64]<;>(rw[q3];omega)
    have hlen:s1.ls.length≤2^38:=by rw[q3];omega
    have fin:∀τ':AS,∀tos g,All2 Al.RepE tos s1.ls→(∀f,zbx τ2 x f→f=g)→τ'.objs=upd τ2.objs x (some [.str s1.b,.sl (.fam τ2.nf false) 1 (tos++[a 8])])→τ'.no=τ2.no→τ'.nf=τ2.nf+1→τ'.F τ2.nf=.alive→(∀f,f<τ2.nf→¬zbx τ2 x f→τ'.F f=τ2.F f) →
      Al.MrgOr R (.ret (.tuple [.int .i64 (s1.ls.length:Int),.str t])) τ':=fun τ' tos g t1 t2 t3 t4 t5 t6 t7 =>
     Wr.push hr1 t1 hG1 hσ t3 t4 t5 t6 t7 hK1 t2 (by intro f;simp) fun σ' r1 r2=>hs _ _ _ he σ' r1 r2
    rcases hlv with ⟨hl0,rfl⟩|⟨g,tos,rfl,t1,t2,t3,t4⟩
    ·have wl':yb4 .i64 0=0:=rfl
     have key:=fin ((τ2.newF).setO x [.str s1.b,.sl (.fam τ2.nf false) 1 ([]++[a 8])]) [] 0 (by rw[hl0];exact .nil) (fun f ⟨cs,v,u1,u2,u3⟩=>by rw[ho]at u1;cases u1;simp at u2;subst u2;cases u3) (by simp) (by simp) (by simp) (by simp) (fun f h1 h2=>by
      have:¬f=τ2.nf:=by omega
      simp[this])
     rw[hl0]at key
     simp[zd8,b0,b1,b2,b8,b9,b14,b15,b16,hlt,hw,ho,g1,splice,wl']
     simpa using key
    ·have tl:=t4.length
     have key:=fin (((τ2.setF g .dead).newF).setO x [.str s1.b,.sl (.fam τ2.nf false) 1 (tos++[a 8])]) tos g t4 (fun f ⟨cs,v,u1,u2,u3⟩=>by rw[ho]at u1;cases u1;simp at u2;subst u2;simpa [zbX]using u3.symm) (by simp) (by simp) (by simp) (by simp) (fun f h1 h2=>by
      have:¬f=τ2.nf:=by omega
      have:¬f=g:=fun e=>h2 ⟨_,_,ho,rfl,by rw[e];rfl⟩
      simp[*])
     simp[zd8,b0,b1,b2,b8,b9,b14,b15,b16,hlt,hw,ho,g1,splice,t3,tl,wl]
     refine⟨by omega,?_⟩
     simpa using key
   ·simp[zd8,b0,b1,b2,b8,b9,b14,b15,b16,hlt,hw,ht,wi]
    refine⟨⟨i+1,hlt,fun j hj=>?_,rfl,by simp[b0],by simp[b1],by simp[b2],by simp[b8],by simp[b9],by simp[b14],by simp[b15],by simp⟩,?_⟩
    ·by_cases e:j=i
     ·subst e
      rw[hw2]
      intro q
      exact ht (yaR.inj q).symm
     ·exact hno j (by omega)
    ·simp[MU,b16]
     omega
  ·have hiL:i=L.length:=by omega
   have hnin:t∉L:=fun hin=>by
    obtain⟨j,hj,e⟩:=ya9 hin
    exact hno j (by omega) (by rw[←e];simp[hj])
   rw[if_neg (fun e=>hnin ((hmem t).2 e))]at he
   have g1:=hG1.one
   simp[zd8,b0,b1,b2,b8,b9,b14,b15,b16,hiL,zlO,g1]
   refine zuy V hr1 (k:=k) (by omega) hd (fun j hj=>IH j (by omega)) (by omega) (by rw[q3];omega) (fun e q5=>?_) (fun w s2 q5 σ2 hr2 hk2=>?_)
   ·intro σ' e1
    exact .inl (hn e (by rw[he,q5]) σ' (hK1.trans e1))
   ·rw[q5]at he
    simp only[Except.bind]at he
    have hin:=zke (fun d o s r s'=>zei k d o [] s r s') q5
    rw[LeT,q3]at hin
    have hmb2:=zdz hr2 a
    have g2:=(hG1.keep hk2).one
    simp[W.av,W.cs,g2]
    refine zoK (row:=w.av) (hG1.keep hk2) hr2 (hK1.trans hk2) hσ (by simp[W.av,W.cs]) (by simp;omega) fun v' τ' e1 e2 e3 e4 e5 _=>?_
    simp
    refine⟨⟨k,l++[w],s2,he,by omega,by omega,by simp;omega,by omega,by simp[b0],by simp[b1],by simp[b2,hL],by simpa using e1,e2,e3⟩,?_⟩
    rw[zdz e2,hmb]
    omega
theorem zmg(V:zbk G){base x}:∀k j:Nat,j≤k→ziX G base x j
 | 0,j,hj=>fun σ R s d o h hk=>by omega
 | k+1,j,hj=>by
  have IH:=zmg V (base:=base) (x:=x) k
  intro σ R s d o h hk hz hd ho hn hs
  refine Al.merging (zqq rfl ?_)
  have hb:=h.hb
  simp[zxa]
  refine zae (LsW base x d j o s σ) (MBt x) ⟨j,[],s,rfl,yah _,hk,by simp;omega,hz,by simp,by simp,by simp,.inl ⟨rfl,by simp⟩,h,.refl ..⟩ fun a τ hI=>?_
  exact znh V ho hd hb.2 (fun i hi=>IH i (by omega)) hn hs hI
end
theorem zoP(c:UInt8)(h:c.toNat<128):yb4 .i32 (c.toNat:Int)=(c.toNat:Int):=by
 unfold yb4
 simp[IntKind.bits,IntKind.signed]
 omega
def zy0:List UInt8:=[97,98,99,100,101,102,103,104,105,106,107,108,109,110,111,112,113,114,115,116,117,118,119,120,121,122,95]
def zgH:List UInt8:=[97,98,99,100,101,102,103,104,105,106,107,108,109,110,111,112,113,114,115,116,117,118,119,120,121,122,95,48,49,50,51,52,53,54,55,56,57]
theorem zy1(c:UInt8):inS zgH c=(zO c||zE c):=by
 have h:∀i:Fin 256,inS zgH (UInt8.ofNat i.1)=(zO (UInt8.ofNat i.1)||zE (UInt8.ofNat i.1)):=by decide
 have:=h ⟨c.toNat,c.toNat_lt⟩
 simpa using this
theorem zDD(c:UInt8):inS zy0 c=zO c:=by
 have h:∀i:Fin 256,inS zy0 (UInt8.ofNat i.1)=zO (UInt8.ofNat i.1):=by decide
 have:=h ⟨c.toNat,c.toNat_lt⟩
 simpa using this
theorem zgI:∀c∈zgH,c.toNat<128:=by decide
theorem zoQ{c:UInt8}(h:inS zgH c=true):c.toNat<128:=zgI c (by unfold inS at h;simpa using h)
theorem zhP:inS zgH=fun c=>(zO c||zE c):=funext zy1
section
variable {G : Env} {σ : AS} {R : Out → AS → Prop}
theorem zDE{t:List UInt8}(hl:t.length<2^40)(h:∀σ',zg σ σ'→R (.ret (.bool (zgU 24 t))) σ'):zzQ G 117 [.str t] σ R:=by
 refine zqo rfl ?_
 cases t with
 | nil =>
  simp[zqn]
  exact h _ (.refl _)
 | cons c r =>
  have h1:(1:Int)≤(((c::r).length:Nat):Int):=by simp;omega
  generalize ht:c::r=t at *
  have hc0:t[0]?=some c:=by rw[←ht];rfl
  have h1n:1≤t.length:=by omega
  by_cases h24:t.length≤24
  ·have h24i:(t.length:Int)≤24:=by omega
   simp[zqn,h1,h1n,h24,h24i]
   refine zeP (l:=zgH) zgI (by decide) (by decide) (by omega) fun σ' A=>?_
   by_cases hall:t.all (inS zgH)=true
   ·have e:=(zb1 zgH t).2 hall
    have hc:inS zgH c=true:=by rw[yaM]at hall;exact hall c (by rw[←ht];simp)
    have hc8:=zoQ hc
    have wc:yb4 .i32 (c.toNat:Int)=(c.toNat:Int):=zoP c hc8
    simp[e,hc0,wc]
    refine zeg (s:=zy0) hc8 ?_
    have e2:zy0.contains c=inS zy0 c:=rfl
    rw[e2,zDD]
    have e3:zgU 24 t=zO c:=by
     rw[zhP,←ht]at hall
     rw[←ht]
     simp only[yca,Bool.and_eq_true]at hall
     rw[←ht]at h24
     simp only[zgU,hall.2,h24,decide_true,Bool.true_and,Bool.and_true]
    have:=h _ A
    rw[e3]at this
    simpa using this
   ·have e:¬zj7 zgH t=[]:=fun q=>hall ((zb1 zgH t).1 q)
    simp[e]
    have e3:zgU 24 t=false:=by
     rw[zhP,←ht]at hall
     simp only[yca,Bool.and_eq_true,not_and,Bool.not_eq_true]at hall
     rw[←ht]
     simp only[zgU]
     cases hL:zO c with
     | false=>simp
     | true=>simp[hall (by simp[hL])]
    have:=h _ A
    rw[e3]at this
    exact this
  ·have h24i:¬(t.length:Int)≤24:=by omega
   have e:zgU 24 t=false:=by rw[←ht];simp[zgU];rw[←ht]at h24;simp at h24;omega
   simp[zqn,h1,h1n,h24,h24i]
   have:=h _ (.refl _)
   rw[e]at this
   exact this
end
def zuz:PC:=(.seq (.ops [⟨some 42,.move (.tmp 0),none,[]⟩,
    ⟨some 43,.nilCheck (.tmp 42),none,[]⟩,
    ⟨some 44,.fieldAddr 77 (.tmp 43) 1,none,[]⟩,
    ⟨none,.store 55 (.tmp 44) (.const (.slice none 0 0)),none,[]⟩])
 (.seq (.ops [⟨some 45,.move (.tmp 0),none,[]⟩,
    ⟨some 46,.buildSlice 22 1 #[(0,(.const (.string ⟨#[41]⟩)))],none,[]⟩,
    ⟨some 47,.call ⟨.value (.func 119),#[(.tmp 45),(.const (.int .i64 0)),(.tmp 46)],#[75,3,22]⟩,none,[]⟩])
 (.seq (.ops [⟨some 48,.move (.tmp 0),none,[]⟩,
    ⟨some 49,.nilCheck (.tmp 48),none,[]⟩,
    ⟨some 50,.fieldAddr 77 (.tmp 49) 1,none,[]⟩,
    ⟨some 51,.load 55 (.tmp 50),none,[]⟩,
    ⟨some 52,.fieldAddr 57 (.tmp 2) 4,none,[]⟩,
    ⟨none,.store 55 (.tmp 52) (.tmp 51),none,[]⟩])
 (.seq (.ops [⟨some 53,.load 57 (.tmp 2),none,[]⟩,
    ⟨none,.store 57 (.tmp 2) (.tmp 53),none,[]⟩])
 .ret))))
def zuA:PC:=(.seq (.seq (.ops [⟨some 37,.move (.tmp 0),none,[]⟩,
    ⟨some 38,.call ⟨.value (.func 59),#[(.tmp 37),(.const (.string ⟨#[108,111,99,97,108]⟩))],#[75,9]⟩,none,[]⟩])
  (.cond (.tmp 38)
    (.ops [⟨some 39,.move (.tmp 0),none,[]⟩,
      ⟨some 40,.call ⟨.value (.func 118),#[(.tmp 39)],#[75]⟩,none,[]⟩,
      ⟨some 41,.fieldAddr 57 (.tmp 2) 2,none,[]⟩,
      ⟨none,.store 44 (.tmp 41) (.tmp 40),none,[]⟩])
    .skip))
 zuz)
def zuB:PC:=(.seq (.seq (.ops [⟨some 25,.move (.tmp 0),none,[]⟩,
    ⟨some 26,.call ⟨.value (.func 59),#[(.tmp 25),(.const (.string ⟨#[114,101,115,117,108,116]⟩))],#[75,9]⟩,none,[]⟩])
  (.cond (.tmp 26)
    (.seq (.ops [⟨some 27,.move (.tmp 0),none,[]⟩,
      ⟨some 28,.call ⟨.value (.func 118),#[(.tmp 27)],#[75]⟩,none,[]⟩,
      ⟨some 5,.assign (.tmp 28),none,[]⟩])
    (.seq (.ops [⟨some 29,.move (.tmp 5),none,[]⟩,
      ⟨some 30,.call ⟨.builtin .len,#[(.tmp 29)],#[44]⟩,none,[]⟩,
      ⟨some 31,.binOp .eql 3 (.tmp 30) (.const (.int .i64 1)) 3,none,[]⟩,
      ⟨some 32,.call ⟨.value (.func 61),#[(.tmp 31),(.const (.int .i64 2))],#[4,33]⟩,none,[]⟩])
    (.ops [⟨some 33,.move (.tmp 5),none,[]⟩,
      ⟨some 34,.indexAddr 44 (.tmp 33) (.const (.int .i64 0)),none,[]⟩,
      ⟨some 35,.load 3 (.tmp 34),none,[]⟩,
      ⟨some 36,.fieldAddr 57 (.tmp 2) 3,none,[]⟩,
      ⟨none,.store 3 (.tmp 36) (.tmp 35),none,[]⟩])))
    .skip))
 zuA)
def zuC:PC:=(.seq (.seq (.ops [⟨some 20,.move (.tmp 0),none,[]⟩,
    ⟨some 21,.call ⟨.value (.func 59),#[(.tmp 20),(.const (.string ⟨#[112,97,114,97,109]⟩))],#[75,9]⟩,none,[]⟩])
  (.cond (.tmp 21)
    (.ops [⟨some 22,.move (.tmp 0),none,[]⟩,
      ⟨some 23,.call ⟨.value (.func 118),#[(.tmp 22)],#[75]⟩,none,[]⟩,
      ⟨some 24,.fieldAddr 57 (.tmp 2) 1,none,[]⟩,
      ⟨none,.store 44 (.tmp 24) (.tmp 23),none,[]⟩])
    .skip))
 zuB)
theorem zuD:zD9=(.seq (.ops [⟨some 2,.alloc 57,none,[]⟩])
 (.seq (.ops [⟨some 7,.move (.tmp 0),none,[]⟩,
    ⟨some 8,.call ⟨.value (.func 110),#[(.tmp 7)],#[75]⟩,none,[]⟩,
    ⟨some 9,.call ⟨.value (.func 116),#[(.tmp 8),(.const (.string ⟨#[36]⟩))],#[9,9]⟩,none,[]⟩,
    ⟨some 6,.move (.tmp 9),none,[]⟩,
    ⟨some 10,.extract (.tmp 6) 0,none,[]⟩,
    ⟨some 11,.extract (.tmp 6) 1,none,[]⟩,
    ⟨some 3,.assign (.tmp 10),none,[]⟩,
    ⟨some 4,.assign (.tmp 11),none,[]⟩])
 (.seq (.ops [⟨some 12,.move (.tmp 4),none,[]⟩,
    ⟨some 13,.move (.tmp 12),none,[]⟩,
    ⟨some 14,.move (.tmp 3),(some (13,true)),[]⟩,
    ⟨some 15,.call ⟨.value (.func 117),#[(.tmp 14)],#[9]⟩,(some (13,true)),[]⟩,
    ⟨some 16,.pick (.tmp 13) (.tmp 15) (.const (.bool false)),none,[]⟩,
    ⟨some 17,.call ⟨.value (.func 61),#[(.tmp 16),(.const (.int .i64 2))],#[4,33]⟩,none,[]⟩])
 (.seq (.ops [⟨some 18,.move (.tmp 3),none,[]⟩,
    ⟨some 19,.fieldAddr 57 (.tmp 2) 0,none,[]⟩,
    ⟨none,.store 9 (.tmp 19) (.tmp 18),none,[]⟩])
 zuC)))):=rfl
def endF(nm:List UInt8)(P:List Int)(ty:Int)(s:Ts):Res (F × Ts):=(zbC zat s).bind fun u=>(zI (u.2.b.length+1) 0 false [] { u.2 with ls:=[] }).map fun(v:(Int × List UInt8) × Ts)=>({ name:=nm,params:=P,locals:=u.1,type:=ty,lists:=v.2.ls },v.2)
def zns(nm:List UInt8)(P:List Int)(s:Ts):Res (F × Ts):=(zk6 s).bind fun r=>endF nm P r.1 r.2
def zrC(nm:List UInt8)(s:Ts):Res (F × Ts):=(zbC zbg s).bind fun q=>zns nm q.1 q.2
theorem zc6(mx:Nat)(s:Ts):zV mx s=(zaG s).bind fun p=>if p.1.head?=some 36∧zgU mx p.1.tail=true then zrC p.1.tail p.2 else .error 2:=rfl
theorem zQ.setO{x σ τ o cs}(K:zQ x σ τ)(ho:σ.no≤o)(hox:o≠x):zQ x σ (τ.setO o cs) where
 no:=K.no
 nf:=K.nf
 obj p a b:=by
  have:¬p=o:=by omega
  simp[this]
  exact K.obj p a b
 fam:=K.fam
 lst cs' h:=by
  have:¬x=o:=fun e=>hox e.symm
  simp[this]
  exact K.lst cs' h
 some:=K.some
theorem zM.nil{x τ b}:zM x τ (τ.setO x [b,.nilsl]) where
 no:=yah _
 nf:=yah _
 obj o _ h:=by simp[h]
 fam _ _ _:=rfl
 use f _:=fun⟨cs,v,h1,h2,h3⟩=>by
  simp at h1
  subst h1
  simp at h2
  subst h2
  cases h3
theorem zrD{x:Nat}{τ:AS}{b:AV}{f:Nat}:¬zbx (τ.setO x [b,.nilsl]) x f:=fun⟨cs,v,h1,h2,h3⟩=>by
 simp at h1
 subst h1
 simp at h2
 subst h2
 cases h3
theorem zM.full{x σ τ}(K:zM x σ τ)(h:∀f,¬zbx σ x f):zeO x x σ τ:=⟨K.no,K.nf,fun o a b _=>K.obj o a b,fun f a=>K.fam f a (h f)⟩
structure FnW(base x fo:Nat)(σ0:AS)(s:Ts)(nm:List UInt8)(pv lv:AV)(ty:Int)(τ:AS):Prop where
 rd:Wr base x s τ
 ks:zQ x σ0 τ
 fx:fo≠x
 f0:σ0.no≤fo
 lt:fo<τ.no
 ob:τ.objs fo=some [.str nm,pv,lv,.int .i64 ty,.nilsl]
def zy2(R:Out→AS→Prop)(base x:Nat)(σ0:AS)(r:Res (F × Ts)):Prop:=∀f s',r=.ok (f,s')→∀pv lv tv σ',Al.IntsE pv f.params→Al.IntsE lv f.locals→Wr base x s' σ'→σ'.objs x=some [.str s'.b,tv]→zeO x x σ0 σ'→(∀g,zbX tv=some g→σ0.nf≤g) →
 s'.ls=f.lists→R (.ret (.agg [.str f.name,pv,lv,.int .i64 f.type,tv])) σ'
section
variable {G : Env} {R : Out → AS → Prop}
theorem zsQ(V:zbk G){base x fo s nm P L pv lv ty σ0 τ}{a:Nat→AV}(hF:FnW base x fo σ0 s nm pv lv ty τ)(hp:Al.IntsE pv P)(hl:Al.IntsE lv L)(a0:a 0=.ptr x 0)(a2:a 2=.ptr fo 0)
  (hn:∀e,((zI (s.b.length+1) 0 false [] { s with ls:=[] }).map fun(v:(Int × List UInt8) × Ts)=>(({ name:=nm,params:=P,locals:=L,type:=ty,lists:=v.2.ls }:F),v.2))=.error e→zbN R x σ0 e)
  (hs:zy2 R base x σ0 ((zI (s.b.length+1) 0 false [] { s with ls:=[] }).map fun(v:(Int × List UInt8) × Ts)=>(({ name:=nm,params:=P,locals:=L,type:=ty,lists:=v.2.ls }:F),v.2))):avc yb9 G 54 zuz (zg5 yb9 [.cell 2 57] R) a τ:=by
 have p1:=hp.one
 have l1:=hl.one
 have hfx:=hF.fx
 have hx:=hF.rd.hx
 have hof:=hF.ob
 obtain⟨lv0,ho,hlv⟩:=hF.rd.cells
 have hlen:=hF.rd.len
 have hW1:Wr base x { s with ls:=[] } (τ.setO x [.str s.b,.nilsl]):=⟨hF.rd.hx,hF.rd.hb,hF.rd.h0,hF.rd.ok,hF.rd.len,.nilsl,by simp,.inl ⟨rfl,rfl⟩⟩
 have K1:zM x σ0 (τ.setO x [.str s.b,.nilsl]):=hF.ks.r.trans zM.nil
 have of1:(τ.setO x [.str s.b,.nilsl]).objs fo=some [.str nm,pv,lv,.int .i64 ty,.nilsl]:=by simp[hfx,hof]
 have KF1:zeO x x σ0 (τ.setO x [.str s.b,.nilsl]):=hF.ks.f.setO (.inl rfl)
 have nu1:∀f,¬zbx (τ.setO x [.str s.b,.nilsl]) x f:=fun f=>zrD
 have n1:(τ.setO x [.str s.b,.nilsl]).no=τ.no:=rfl
 have m1:(τ.setO x [.str s.b,.nilsl]).nf=τ.nf:=rfl
 have hlt:=hF.lt
 have hnf:=hF.ks.nf
 simp[zuz,a0,a2,ho,splice]
 generalize τ.setO x [.str s.b,.nilsl]=τ1 at *
 have go:=zmg V (base:=base) (x:=x) (s.b.length+1) (s.b.length+1) (yah _) τ1
 have e2:zdU 0 false=[zf]:=rfl
 have go2:∀R',(∀e,zI (s.b.length+1) 0 false [] { s with ls:=[] }=.error e→zbN R' x τ1 e)→(∀n t s',zI (s.b.length+1) 0 false [] { s with ls:=[] }=.ok ((n,t),s')→∀σ',Wr base x s' σ'→zM x τ1 σ'→R' (.ret (.tuple [.int .i64 n,.str t])) σ')→zzQ G 119 [.ptr x 0,.int .i64 0,.sl (.stat true) 1 [.str [41]]] τ1 R':=fun R' u v=>by
  have:=go R' { s with ls:=[] } 0 false hW1 (by simp) (by simp;omega) (by omega) (by simp) u v
  rw[e2]at this
  exact this
 refine go2 _ (fun e q=>?_) (fun n t s' q τ2 hW2 K2=>?_)
 ·intro σ' K
  simp
  exact hn e (by rw[q];rfl) _ (K1.trans K)
 ·have of2:=(K2.obj fo (by omega) hfx).trans of1
  obtain⟨tv,ho2,htv⟩:=hW2.cells
  have t1:=htv.one
  have hxf:¬x=fo:=fun e=>hfx e.symm
  have hfx':¬fo=x:=hfx
  simp[a0,a2,ho2,of2,splice,t1,p1,l1,hxf,hfx']
  have KF:=KF1.trans (K2.full nu1)
  have f0:=hF.f0
  refine hs _ s' (by rw[q];rfl) pv lv tv _ hp hl ((hW2.setO hfx).setO hfx) (by simp[hxf,ho2]) ((KF.setO (.inr (.inr f0))).setO (.inr (.inr f0))) (fun g hg=>?_) rfl
  have hg1:zbx τ2 x g:=⟨_,_,ho2,rfl,hg⟩
  by_cases hlt2:g<τ1.nf
  ·exact absurd (K2.use g hlt2 hg1) (nu1 g)
  ·omega
end
def zy3(nm:List UInt8)(P L:List Int)(ty:Int)(s:Ts):Res (F × Ts):=(zI (s.b.length+1) 0 false [] { s with ls:=[] }).map fun(v:(Int × List UInt8) × Ts)=>(({ name:=nm,params:=P,locals:=L,type:=ty,lists:=v.2.ls }:F),v.2)
section
variable {G : Env} {R : Out → AS → Prop}
theorem FnW.keep{base x fo σ0 s s' nm pv lv ty τ τ'}(hF:FnW base x fo σ0 s nm pv lv ty τ)(hW:Wr base x s' τ')(K:zQ x τ τ'):FnW base x fo σ0 s' nm pv lv ty τ' :=
 ⟨hW,hF.ks.trans K,hF.fx,hF.f0,yag hF.lt K.no,(K.obj fo hF.lt hF.fx).trans hF.ob⟩
theorem FnW.set{base x fo σ0 s nm pv lv ty τ nm' pv' lv' ty'}(hF:FnW base x fo σ0 s nm pv lv ty τ):FnW base x fo σ0 s nm' pv' lv' ty' (τ.setO fo [.str nm',pv',lv',.int .i64 ty',.nilsl]) :=
 ⟨hF.rd.setO hF.fx,hF.ks.setO hF.f0 hF.fx,hF.fx,hF.f0,hF.lt,by simp⟩
theorem zmh(V:zbk G){base x fo s nm P pv ty σ0 τ}{a:Nat→AV}(hF:FnW base x fo σ0 s nm pv .nilsl ty τ)(hp:Al.IntsE pv P)(a0:a 0=.ptr x 0)(a2:a 2=.ptr fo 0)
  (hn:∀e,endF nm P ty s=.error e→zbN R x σ0 e) (hs:zy2 R base x σ0 (endF nm P ty s)):avc yb9 G 54 zuA (zg5 yb9 [.cell 2 57] R) a τ:=by
 have p1:=hp.one
 simp[zuA,a0]
 refine zrw (w:=zat) hF.rd (by decide) (fun q τ1 hW1 K1=>?_) (fun s1 q τ1 hW1 K1=>?_)
 ·have e:zbC zat s=.ok ([],s):=by unfold zbC;rw[q]
  have hF1:=hF.keep hW1 K1
  simp
  have e3:endF nm P ty s=zy3 nm P [] ty s:=by unfold endF;rw[e];rfl
  rw[e3]at hs
  exact zsQ V (L:=[]) hF1 hp (.inl ⟨rfl,.inl rfl⟩) (by simp[a0]) (by simp[a2]) (fun e' q'=>hn e' (by rw[e3];exact q')) hs
 ·have e:zbC zat s=zal (s1.b.length+1) [] s1:=by unfold zbC;rw[q]
  have hF1:=hF.keep hW1 K1
  simp[a0]
  refine zln (k:=s1.b.length+1) hW1 (by omega) (fun e' q'=>?_) (fun l s2 q' v τ2 hv hW2 K2=>?_)
  ·intro σ' K
   simp
   exact hn e' (by unfold endF;rw[e,q'];rfl) _ (hF1.ks.r.trans K)
  ·have hF2:=hF1.keep hW2 K2
   have v1:=hv.one
   have ob2:=hF2.ob
   simp[a0,a2,ob2,splice,v1]
   have e3:endF nm P ty s=zy3 nm P l ty s2:=by unfold endF;rw[e,q'];rfl
   rw[e3]at hs
   exact zsQ V (L:=l) hF2.set hp hv (by simp[a0]) (by simp[a2]) (fun e' q3=>hn e' (by rw[e3];exact q3)) hs
theorem zsR(V:zbk G){base x fo s nm P pv σ0 τ}{a:Nat→AV}(hF:FnW base x fo σ0 s nm pv .nilsl 0 τ)(hp:Al.IntsE pv P)(a0:a 0=.ptr x 0)(a2:a 2=.ptr fo 0)
  (hn:∀e,zns nm P s=.error e→zbN R x σ0 e) (hs:zy2 R base x σ0 (zns nm P s)):avc yb9 G 54 zuB (zg5 yb9 [.cell 2 57] R) a τ:=by
 have p1:=hp.one
 simp[zuB,a0]
 refine zrw (w:=zcY) hF.rd (by decide) (fun q τ1 hW1 K1=>?_) (fun s1 q τ1 hW1 K1=>?_)
 ·have e:zk6 s=.ok (0,s):=by unfold zk6;rw[q]
  have hF1:=hF.keep hW1 K1
  simp
  have e3:zns nm P s=endF nm P 0 s:=by unfold zns;rw[e];rfl
  rw[e3]at hs
  exact zmh V hF1 hp (by simp[a0]) (by simp[a2]) (fun e' q'=>hn e' (by rw[e3];exact q')) hs
 ·have hF1:=hF.keep hW1 K1
  simp[a0]
  refine zln (k:=s1.b.length+1) hW1 (by omega) (fun e' q'=>?_) (fun l s2 q' v τ2 hv hW2 K2=>?_)
  ·intro σ' K
   simp
   exact hn e' (by unfold zns zk6;rw[q];simp only;rw[q'];rfl) _ (hF1.ks.r.trans K)
  ·have hF2:=hF1.keep hW2 K2
   have v1:=hv.one
   have ob2:=hF2.ob
   have e:zk6 s=if l.length=1 then .ok (l.headD 0,s2)else .error 2:=by unfold zk6;rw[q];simp only;rw[q'];rfl
   by_cases h1:l.length=1
   ·obtain⟨n,rfl⟩:=List.length_eq_one_iff.1 h1
    rw[if_pos h1]at e
    have e3:zns nm P s=endF nm P n s2:=by unfold zns;rw[e];rfl
    rw[e3]at hs
    have hv':∃b,v=.sl (.fam 0 b) 1 [.int .i64 n]:=by
     rcases hv with ⟨h,_⟩|⟨b,h⟩
     ·cases h
     ·exact⟨b,h⟩
    obtain⟨b,rfl⟩:=hv'
    have h0:=hF2.rd.h0
    have hnf:=hF2.rd.hb
    have hnf0:0<τ2.nf:=by omega
    simp
    refine zN (fun _=>?_) (fun q=>by cases q)
    simp[a0,a2,ob2,splice,h0,hnf0,p1]
    exact zmh V hF2.set hp (by simp[a0]) (by simp[a2]) (fun e' q'=>hn e' (by rw[e3];exact q')) hs
   ·rw[if_neg h1]at e
    have bad:∀σ',zM x τ2 σ'→R (.panic (zuw 2)) σ':=fun σ' K=>hn 2 (by unfold zns;rw[e];rfl) _ (hF2.ks.r.trans K)
    rcases hv with ⟨h,rfl|⟨b,rfl⟩⟩|⟨b,rfl⟩
    ·simp
     refine zN (fun q=>by cases q) (fun _=>?_)
     simp
     exact bad _ (.refl ..)
    ·simp
     refine zN (fun q=>by cases q) (fun _=>?_)
     simp
     exact bad _ (.refl ..)
    ·have h1i:¬(l.length:Int)=1:=by omega
     simp[h1,h1i]
     refine zN (fun q=>by cases q) (fun _=>?_)
     simp
     exact bad _ (.refl ..)
theorem zy4(V:zbk G){base x fo s nm σ0 τ}{a:Nat→AV}(hF:FnW base x fo σ0 s nm .nilsl .nilsl 0 τ)(a0:a 0=.ptr x 0)(a2:a 2=.ptr fo 0)
  (hn:∀e,zrC nm s=.error e→zbN R x σ0 e) (hs:zy2 R base x σ0 (zrC nm s)):avc yb9 G 54 zuC (zg5 yb9 [.cell 2 57] R) a τ:=by
 simp[zuC,a0]
 refine zrw (w:=zbg) hF.rd (by decide) (fun q τ1 hW1 K1=>?_) (fun s1 q τ1 hW1 K1=>?_)
 ·have e:zbC zbg s=.ok ([],s):=by unfold zbC;rw[q]
  have hF1:=hF.keep hW1 K1
  simp
  have e3:zrC nm s=zns nm [] s:=by unfold zrC;rw[e];rfl
  rw[e3]at hs
  exact zsR V (P:=[]) hF1 (.inl ⟨rfl,.inl rfl⟩) (by simp[a0]) (by simp[a2]) (fun e' q'=>hn e' (by rw[e3];exact q')) hs
 ·have e:zbC zbg s=zal (s1.b.length+1) [] s1:=by unfold zbC;rw[q]
  have hF1:=hF.keep hW1 K1
  simp[a0]
  refine zln (k:=s1.b.length+1) hW1 (by omega) (fun e' q'=>?_) (fun l s2 q' v τ2 hv hW2 K2=>?_)
  ·intro σ' K
   simp
   exact hn e' (by unfold zrC;rw[e,q'];rfl) _ (hF1.ks.r.trans K)
  ·have hF2:=hF1.keep hW2 K2
   have v1:=hv.one
   have ob2:=hF2.ob
   simp[a0,a2,ob2,splice,v1]
   have e3:zrC nm s=zns nm l s2:=by unfold zrC;rw[e,q'];rfl
   rw[e3]at hs
   exact zsR V hF2.set hv (by simp[a0]) (by simp[a2]) (fun e' q3=>hn e' (by rw[e3];exact q3)) hs
theorem zni(V:zbk G){base x s σ}(h:Wr base x s σ)(hn:∀e,zV 24 s=.error e→zbN R x σ e)(hs:zy2 R base x σ (zV 24 s)):zzQ G 60 [.ptr x 0] σ R:=by
 refine ztU rfl ?_
 rw[zc6]at hs
 simp only[zc6]at hn
 obtain⟨cs0,hcs0⟩:=h.isSome
 have hx:=h.hx
 rw[zuD]
 simp
 have A1:zg σ (σ.newO [.str [],.nilsl,.nilsl,.int .i64 0,.nilsl]):=(zg.refl σ).newO
 have o1:(σ.newO [.str [],.nilsl,.nilsl,.int .i64 0,.nilsl]).objs σ.no=some [.str [],.nilsl,.nilsl,.int .i64 0,.nilsl]:=by simp
 have n1:(σ.newO [.str [],.nilsl,.nilsl,.int .i64 0,.nilsl]).no=σ.no+1:=by simp
 generalize σ.newO [.str [],.nilsl,.nilsl,.int .i64 0,.nilsl]=σ1 at *
 have hW1:=h.adds A1
 have K1:=A1.keepS hx hcs0
 refine zhN hW1 (fun q=>?_) (fun t s1 q σ2 hW2 K2=>?_)
 ·intro σ' K
  simp
  exact hn 2 (by rw[q];rfl) _ (K1.r.trans K)
 ·rw[q]at hs
  simp only[q,Except.bind]at hn hs
  have htl:=(zby q).1
  have hlen:=hW1.len
  have hF:FnW base x σ.no σ s1 [] .nilsl .nilsl 0 σ2:=⟨hW2,K1.trans K2,by omega,yah _,by have:=K2.no;omega,(K2.obj _ (by omega) (by omega)).trans o1⟩
  simp
  refine zfd ?_
  have bad:¬(t.head?=some 36∧zgU 24 t.tail=true)→∀σ',zM x σ2 σ'→R (.panic (zuw 2)) σ':=fun hc σ' K=>hn 2 (by rw[if_neg hc]) _ (hF.ks.r.trans K)
  by_cases h36:t.head?=some 36
  ·have e1:zhj [36] t=true:=by rw[zgC];simpa using h36
   have e2:t.drop 1=t.tail:=by simp
   simp[e1]
   refine zDE (by simp;omega) fun σ3 A3=>?_
   obtain⟨cs2,hcs2⟩:=hW2.isSome
   have K3:=A3.keepS hW2.hx hcs2
   have hF3:=hF.keep (hW2.adds A3) K3
   by_cases ht:zgU 24 t.tail=true
   ·rw[if_pos ⟨h36,ht⟩]at hs
    simp only[if_pos (⟨h36,ht⟩:t.head?=some 36∧zgU 24 t.tail=true)]at hn
    simp[ht]
    refine zN (fun _=>?_) (fun q=>by cases q)
    have ob3:=hF3.ob
    simp[ob3,splice]
    exact zy4 V hF3.set (by simp) (by simp) hn hs
   ·simp[ht]
    refine zN (fun q=>by cases q) (fun _=>?_)
    simp
    exact bad (fun q=>ht q.2) _ K3.r
  ·have e1:zhj [36] t=false:=by rw[zgC];simpa using h36
   simp[e1]
   refine zN (fun q=>by cases q) (fun _=>?_)
   simp
   exact bad (fun q=>h36 q.1) _ (.refl ..)
theorem zeQ{τ τ':AS}{base v l}(h:Al.OutE τ base v l)(hn:τ.nf≤τ'.nf)(hF:∀f,f<τ.nf→τ'.F f=τ.F f):Al.OutE τ' base v l:=by
 rcases h with h|⟨g,rows,ps,h1,h2,h3,h4,h5,h6,h7⟩
 ·exact .inl h
 ·exact .inr ⟨g,rows,ps,h1,h2,by omega,(hF g h3).trans h4,h5,h6,h7.nd,fun x hx=>by
   obtain⟨q1,q2,q3,q4⟩:=h7.each x hx
   exact⟨q1,by omega,(hF x q2).trans q3,q4⟩⟩
theorem zuE{τ τ':AS}{base v m}(h:Al.ME τ base v m)(hn:τ.nf≤τ'.nf)(hF:∀f,f<τ.nf→τ'.F f=τ.F f):Al.ME τ' base v m:=by
 obtain⟨fv,rfl,h⟩:=h
 exact⟨fv,rfl,zeQ h hn hF⟩
def zej:AV:=.agg [.nilsl,.int .i64 0,.int .i64 0]
end
def zpA(fs:List F)(mem:Int)(s:Ts):Res (M × Ts):=(zP [zu,zbM,zg8,zu,za6] s).bind fun s=>(zU s).bind fun mn=>(zP [zf,zf,zf] mn.2).bind fun s =>
  if s.b.all zk5=true then .ok (({ funcs:=fs,memory:=mem,main:=yb4 .i64 (mn.1-3) }:M),s)else .error 2
theorem zhQ(mx:Nat)(s:Ts):zcj mx s=(zP zbB s).bind fun s=>(zU s).bind fun mem=>(zP [zf,zf] mem.2).bind fun s=>(zx mx (s.b.length+1) [] s).bind fun fs=>zpA fs.1 mem.1 fs.2:=rfl
theorem zmi:∀(k d:Nat) (o:Bool) (l:List W) (s:Ts) (r:Int × List UInt8) (s':Ts),zI k d o l s=.ok (r,s')→s'.ls≠[]
 | 0,_,_,_,_,_,_,h=>by cases h
 | k+1,d,o,l,s,r,s',h=>by
  rw[zI]at h
  obtain⟨p,h1,h2⟩:=bind_some h
  split at h2
  ·cases h2
   simp
  ·obtain⟨q,h3,h4⟩:=bind_some h2
   exact zmi k d o _ _ _ _ h4
theorem ziY{w:List UInt8}{s s':Ts}(h:zeI w s=some s'):s'.b.length≤s.b.length:=by
 unfold zeI at h
 cases e:zcz s.b with
 | none=>rw[e]at h;cases h
 | some p =>
  obtain⟨p1,p2⟩:=p
  rw[e]at h
  simp only at h
  split at h
  ·cases e2:zcz p2 with
   | none=>rw[e2]at h;cases h
   | some q =>
    obtain⟨q1,q2⟩:=q
    rw[e2]at h
    simp only at h
    split at h
    ·cases h
     have l1:=(zbI e).1
     have l2:=(zbI e2).1
     simp only
     omega
    ·cases h
  ·cases h
theorem zek:∀(k:Nat) (l:List Int) (s:Ts) (r:List Int) (s':Ts),zal k l s=.ok (r,s')→s'.b.length≤s.b.length
 | 0,_,_,_,_,h=>by cases h
 | k+1,l,s,r,s',h=>by
  rw[zal]at h
  obtain⟨p,h1,h2⟩:=bind_some h
  have l1:=(zcr h1).1
  split at h2
  ·exact yai (zek k _ _ _ _ h2) l1
  ·split at h2
   ·exact yai (zek k _ _ _ _ h2) l1
   ·split at h2
    ·cases h2;exact l1
    ·cases h2
theorem zmj{w:List UInt8}{s s':Ts}{l:List Int}(h:zbC w s=.ok (l,s')):s'.b.length≤s.b.length:=by
 unfold zbC at h
 split at h
 ·rename_i s1 e
  exact yai (zek _ _ _ _ _ h) (ziY e)
 ·cases h;exact yah _
theorem zoR{s s':Ts}{l:Int}(h:zk6 s=.ok (l,s')):s'.b.length≤s.b.length:=by
 unfold zk6 at h
 split at h
 ·rename_i s1 e
  obtain⟨r,h1,h2⟩:=bind_some h
  split at h2
  ·cases h2
   exact yai (zek _ _ _ _ _ h1) (ziY e)
  ·cases h2
 ·cases h;exact yah _
theorem zfh{mx s f s'}(h:zV mx s=.ok (f,s')):f.lists≠[]∧s'.b.length≤s.b.length:=by
 rw[zc6]at h
 obtain⟨p,h1,h2⟩:=bind_some h
 split at h2
 ·unfold zrC at h2
  obtain⟨q,h3,h4⟩:=bind_some h2
  unfold zns at h4
  obtain⟨r,h5,h6⟩:=bind_some h4
  unfold endF at h6
  obtain⟨u,h7,h8⟩:=bind_some h6
  have hl:=(map_some h8)
  obtain⟨v,h9,h10⟩:=hl
  cases h10
  refine⟨zmi _ _ _ _ _ _ _ h9,?_⟩
  have l1:=(zcr h1).1
  have l2:=(zei _ _ _ _ _ _ _ h9).1
  have l3:=zmj h3
  have l4:=zoR h5
  have l5:=zmj h7
  simp only at l2 l3 l4 l5 l1 ⊢
  omega
 ·cases h2
theorem Wr.famF{base x s τ τ'}(h:Wr base x s τ)(e1:τ'.objs=τ.objs)(e2:τ'.no=τ.no)(e3:τ.nf≤τ'.nf)(e4:∀f,f=0∨zbx τ x f→τ'.F f=τ.F f):Wr base x s τ':=by
 obtain⟨lv,ho,hl⟩:=h.cells
 have hb:=h.hb
 refine⟨by rw[e2];exact h.hx,⟨hb.1,by omega⟩,(e4 0 (.inl rfl)).trans h.h0,h.ok,h.len,lv,by rw[e1];exact ho,?_⟩
 rcases hl with h1|⟨g,tos,rfl,h2,h3,h4,h5⟩
 ·exact .inl h1
 ·exact .inr ⟨g,tos,rfl,h2,by omega,(e4 g (.inr ⟨_,_,ho,rfl,rfl⟩)).trans h4,h5⟩
structure PsW(σ:AS)(base x:Nat)(s:Ts)(fv:AV)(mem mn:Int)(τ:AS):Prop where
 rd:Wr base x s τ
 ad:zg σ τ
 x0:σ.no+2≤x
 b0:σ.nf≤base
 mo:τ.objs σ.no=some [fv,.int .i64 mem,.int .i64 mn]
 eo:τ.objs (σ.no+1)=some [.int .i64 0]
theorem PsW.keepS{σ base x s s' fv mem mn τ τ'}(h:PsW σ base x s fv mem mn τ)(hW:Wr base x s' τ')(K:zQ x τ τ'):PsW σ base x s' fv mem mn τ':=by
 have x0:=h.x0
 have hx:=h.rd.hx
 exact⟨hW,K.adds0 h.ad (by omega),h.x0,h.b0,(K.obj _ (by omega) (by omega)).trans h.mo,(K.obj _ (by omega) (by omega)).trans h.eo⟩
theorem PsW.adds{σ base x s fv mem mn τ τ'}(h:PsW σ base x s fv mem mn τ)(A:zg τ τ'):PsW σ base x s fv mem mn τ':=by
 obtain⟨cs,hcs⟩:=h.rd.isSome
 exact h.keepS (h.rd.adds A) (A.keepS h.rd.hx hcs)
theorem PsW.setM{σ base x s fv mem mn fv' mem' mn' τ}(h:PsW σ base x s fv mem mn τ):PsW σ base x s fv' mem' mn' (τ.setO σ.no [fv',.int .i64 mem',.int .i64 mn']):=by
 have x0:=h.x0
 exact⟨h.rd.setO (by omega),h.ad.setO (yah _),h.x0,h.b0,by simp,by simp[h.eo]⟩
section
variable {G : Env} {σ : AS} {R : Out → AS → Prop}
theorem zy5{τ:AS}{e:Int}{a:Nat→AV}{mc:List AV}(a2:a 2=.ptr σ.no 0)(a3:a 3=.ptr (σ.no+1) 0)(A:zg σ τ)(hmc:τ.objs σ.no=some mc)(hml:mc.length=3)(he:τ.objs (σ.no+1)=some [.int .i64 0])
  (hh:∀σ',zg σ σ'→R (.ret (.tuple [zej,.int .i64 e])) σ'):zaV yb9 G 9 ze6 3 2 [.ptr σ.no 0,.ptr (σ.no+1) 0] [.cell 2 28,.cell 3 33] R (some (zuw e)) a τ:=by
 obtain⟨x1,x2,x3,rfl⟩:∃x y z,mc=[x,y,z]:=by
  match mc,hml with
  | [x,y,z],_=>exact⟨x,y,z,rfl⟩
 simp[zaV,zuw,ze6,he,hmc,splice,a2,a3]
 exact hh _ ((A.setO (yah _)).setO (by omega))
theorem PsW.hand{base x s fv mem mn τ}(h:PsW σ base x s fv mem mn τ){τ':AS}(K:zM x τ τ'){e:Int}{a:Nat→AV}(a2:a 2=.ptr σ.no 0)(a3:a 3=.ptr (σ.no+1) 0)
  (hh:∀σ',zg σ σ'→R (.ret (.tuple [zej,.int .i64 e])) σ'):zaV yb9 G 9 ze6 3 2 [.ptr σ.no 0,.ptr (σ.no+1) 0] [.cell 2 28,.cell 3 33] R (some (zuw e)) a τ':=by
 have x0:=h.x0
 have b0:=h.b0
 have hx:=h.rd.hx
 have An:=h.ad.no
 have Af:=h.ad.nf
 refine zy5 a2 a3 ⟨yai An K.no,yai Af K.nf,fun o ho=>?_,fun f hf=>?_⟩ ((K.obj _ (by omega) (by omega)).trans h.mo) rfl ((K.obj _ (by omega) (by omega)).trans h.eo) hh
 ·rw[K.obj o (by omega) (by omega),h.ad.obj o ho]
 ·rw[K.fam f (by omega) (h.rd.uses (by omega)),h.ad.fam f hf]
theorem zoS:inS zcv=zk5:=by
 funext c
 have h:∀i:Fin 256,inS zcv (UInt8.ofNat i.1)=zk5 (UInt8.ofNat i.1):=by decide
 have:=h ⟨c.toNat,c.toNat_lt⟩
 simpa using this
theorem zoT(V:zbk G){base x s fv mem fs τ}{a:Nat→AV}(h:PsW σ base x s fv mem 0 τ)(hfs:Al.OutE τ σ.nf fv fs)(a2:a 2=.ptr σ.no 0)(a3:a 3=.ptr (σ.no+1) 0)(a4:a 4=.ptr x 0)
  (hn:∀e,zpA fs mem s=.error e→∀σ',zg σ σ'→R (.ret (.tuple [zej,.int .i64 e])) σ') (hs:∀m s',zpA fs mem s=.ok (m,s')→∀mv σ',Al.ME σ' σ.nf mv m→zg σ σ'→R (.ret (.tuple [mv,.int .i64 0])) σ') :
  avc yb9 G 45 zd6 (aq (zaV yb9 G 9 ze6 3 2 [.ptr σ.no 0,.ptr (σ.no+1) 0] [.cell 2 28,.cell 3 33] R)) a τ:=by
 have hfv:fv.known=true∧fv.one=true∧fv.cells=[fv]:=by
  rcases hfs with ⟨_,rfl⟩|⟨_,_,_,rfl,_⟩<;>simp
 simp[zd6,a4]
 refine ziV (ts:=[zu,zbM,zg8,zu,za6]) h.rd (.inl ⟨true,rfl⟩) (by decide) (fun e q=>?_) (fun s1 q τ1 hW1 K1=>?_)
 ·intro σ' K
  simp
  exact h.hand K (by simp[zcx,a2]) (by simp[zcx,a3]) (hn e (by unfold zpA;rw[q];rfl))
 ·have h1:=h.keepS hW1 K1
  simp[a4]
  refine ziW V hW1 (fun e q2=>?_) (fun n s2 q2 r1 r2 τ2 hW2 K2=>?_)
  ·intro σ' K
   simp
   exact h1.hand K (by simp[zcx,a2]) (by simp[zcx,a3]) (hn e (by unfold zpA;rw[q];simp only[Except.bind];rw[q2]))
  ·have h2:=h1.keepS hW2 K2
   have mo2:=h2.mo
   simp[a2,a4,mo2,splice]
   have h3:=h2.setM (fv':=fv) (mem':=mem) (mn':=yb4 .i64 (n-3))
   have F3:(τ2.setO σ.no [fv,.int .i64 mem,.int .i64 (yb4 .i64 (n-3))]).F=τ2.F:=rfl
   have N3:(τ2.setO σ.no [fv,.int .i64 mem,.int .i64 (yb4 .i64 (n-3))]).nf=τ2.nf:=rfl
   generalize τ2.setO σ.no [fv,.int .i64 mem,.int .i64 (yb4 .i64 (n-3))]=τ3 at *
   refine ziV (ts:=[zf,zf,zf]) h3.rd (.inl ⟨true,rfl⟩) (by decide) (fun e q3=>?_) (fun s4 q3 τ4 hW4 K4=>?_)
   ·intro σ' K
    simp
    exact h3.hand K (by simp[zcx,a2]) (by simp[zcx,a3]) (hn e (by unfold zpA;rw[q];simp only[Except.bind];rw[q2];simp only;rw[q3]))
   ·have h4:=h3.keepS hW4 K4
    obtain⟨lv4,ho4,hlv4⟩:=hW4.cells
    have hmod:zpA fs mem s=if s4.b.all zk5=true then .ok (({ funcs:=fs,memory:=mem,main:=yb4 .i64 (n-3) }:M),s4)else .error 2:=by
     unfold zpA;rw[q];simp only[Except.bind];rw[q2];simp only;rw[q3]
    have hl4:=hW4.len
    simp[a4,ho4]
    refine zeP (l:=zcv) (by decide) (by decide) (by decide) (by omega) fun τ5 A5=>?_
    have h5:=h4.adds A5
    by_cases hall:s4.b.all zk5=true
    ·rw[if_pos hall]at hmod
     have e:zj7 zcv s4.b=[]:=(zb1 _ _).2 (by rw[zoS];exact hall)
     simp[e]
     refine zN (fun _=>?_) (fun q=>by cases q)
     have mo5:=h5.mo
     have eo5:=h5.eo
     simp[a2,a3,mo5,eo5,splice,zaV,ze6,hfv]
     have n1:=K1.nf
     have n2:=K2.nf
     have n4:=K4.nf
     have n5:=A5.nf
     have hfs5:Al.OutE τ5 σ.nf fv fs:=zeQ hfs (by omega) fun f hf=>by
      rw[A5.fam f (by omega),K4.fam f (by omega),F3,K2.fam f (by omega),K1.fam f hf]
     have A6:zg σ ((τ5.setO σ.no [fv,.int .i64 mem,.int .i64 (yb4 .i64 (n-3))]).setO (σ.no+1) [.int .i64 0]):=(h5.ad.setO (yah _)).setO (by omega)
     exact hs _ _ hmod _ _ ⟨fv,rfl,zeQ hfs5 (yah _) fun f _=>rfl⟩ A6
    ·rw[if_neg hall]at hmod
     have e:¬zj7 zcv s4.b=[]:=fun q=>hall (by rw[←zoS];exact(zb1 _ _).1 q)
     simp[e]
     refine zN (fun q=>by cases q) (fun _=>?_)
     simp
     exact h5.hand (.refl ..) (by simp[zcx,a2]) (by simp[zcx,a3]) (hn 2 hmod)
end
theorem zoU{el:Option TypeId}{bsz base:Nat}{τ0 τ:AS}{v row:AV}{l:List F}{f:F}{gN:Nat}{K:AV→AS→Prop}(h:Al.OutE τ0 base v l)(hrow:Al.FVE row (f,gN))(hn:τ0.nf≤τ.nf)(hF:∀g,g<τ0.nf→τ.F g=τ0.F g)(hb:base≤τ0.nf)(g1:τ0.nf≤gN)(g2:gN<τ.nf)(g3:τ.F gN=.alive)
  (hl:(l.length+1)*bsz≤2^47) (hK:∀v' τ',Al.OutE τ' base v' (l++[f])→τ'.objs=τ.objs→τ'.no=τ.no→τ'.nf=τ.nf+1→(∀g,g<τ.nf→g<base∨τ0.nf≤g→τ'.F g=τ.F g)→K v' τ'):zcy el bsz 5 v [row] τ K:=by
 have hrc:row.cells.length=5:=zoF hrow
 rcases h with ⟨rfl,rfl⟩|⟨g,rows,ps,rfl,h1,h2,h3,h4,h5,h6⟩
 ·have hne:¬gN=τ.nf:=by omega
  have:=hK (.sl (.fam τ.nf false) 5 [row]) τ.newF (.inr ⟨τ.nf,[row],[(f,gN)],rfl,by omega,by simp,by simp,rfl,.cons hrow .nil,⟨by simp,fun x hx=>by
   simp only[yaL,ycM,ycF]at hx
   subst hx
   exact⟨by omega,by simp;omega,by simp[hne,g3],hne⟩⟩⟩) (by simp) (by simp) (by simp) (fun g' a _=>by
    have:¬g'=τ.nf:=by omega
    simp[this])
  simp at hl
  simp
  first|exact this|exact⟨by omega,this⟩
 ·have hgg:¬g=τ.nf:=by omega
  have hne:¬gN=τ.nf:=by omega
  have hng:¬gN=g:=by omega
  have ha:τ.F g=.alive:=(hF g h2).trans h3
  have hlen:rows.length=l.length:=by rw[h5.length,←h4];simp
  have:=hK (.sl (.fam τ.nf false) 5 (rows++[row])) (τ.setF g .dead).newF (.inr ⟨τ.nf,rows++[row],ps++[(f,gN)],rfl,by omega,by simp,by simp,by simp[h4],h5.append (.cons hrow .nil),⟨by
   rw[yc8,List.nodup_append]
   refine⟨h6.nd,by simp,fun a ha b hb=>?_⟩
   simp only[yaL,ycM,ycF]at hb
   have:=(h6.each a ha).2.1
   omega,fun x hx=>by
   rw[yc8,ybh]at hx
   rcases hx with hx|hx
   ·obtain⟨q1,q2,q3,q4⟩:=h6.each x hx
    have e1:¬x=τ.nf:=by omega
    exact⟨q1,by simp;omega,by simp[e1,q4,(hF x q2).trans q3],e1⟩
   ·simp only[yaL,ycM,ycF]at hx
    subst hx
    exact⟨by omega,by simp;omega,by simp[hne,hng,g3],hne⟩⟩⟩) (by simp) (by simp) (by simp) (fun g' a b=>by
    have e1:¬g'=τ.nf:=by omega
    have e2:¬g'=g:=by omega
    simp[e1,e2])
  simp[ha]
  exact⟨by rw[hlen];exact hl,this⟩
section
variable {G : Env} {σ : AS} {R : Out → AS → Prop}
theorem zgJ{τ base v l}(h:Al.OutE τ base v l):v.known=true∧v.one=true∧v.cells=[v]:=by
 rcases h with ⟨_,rfl⟩|⟨_,_,_,rfl,_⟩<;>simp
def PlI(σ:AS)(base x:Nat)(mem:Int)(k0:Nat)(s0:Ts)(a:Nat→AV)(τ:AS):Prop:=∃(k:Nat) (l:List F) (s:Ts) (fv:AV),zx 24 k0 [] s0=zx 24 k l s∧s.b.length<k∧l.length+s.b.length≤s0.b.length∧PsW σ base x s fv mem 0 τ∧Al.OutE τ σ.nf fv l∧a 2=.ptr σ.no 0∧a 3=.ptr (σ.no+1) 0∧a 4=.ptr x 0
theorem zoV{w:List UInt8}{s s':Ts}(h:zeI w s=some s'):s'.b.length+1≤s.b.length:=by
 unfold zeI at h
 cases e:zcz s.b with
 | none=>rw[e]at h;cases h
 | some p =>
  obtain⟨p1,p2⟩:=p
  rw[e]at h
  simp only at h
  split at h
  ·cases e2:zcz p2 with
   | none=>rw[e2]at h;cases h
   | some q =>
    obtain⟨q1,q2⟩:=q
    rw[e2]at h
    simp only at h
    split at h
    ·cases h
     have l1:=zbI e
     have l2:=(zbI e2).1
     have:=ybm.2 l1.2
     simp only
     omega
    ·cases h
  ·cases h
theorem znj(V:zbk G)(h00:0<σ.nf){base x k0 s0 mem}(hs36:s0.b.length<2^36)(hn:∀e,((zx 24 k0 [] s0).bind fun fs=>zpA fs.1 mem fs.2)=.error e→∀σ',zg σ σ'→R (.ret (.tuple [zej,.int .i64 e])) σ')
  (hs:∀m s',((zx 24 k0 [] s0).bind fun fs=>zpA fs.1 mem fs.2)=.ok (m,s')→∀mv σ',Al.ME σ' σ.nf mv m→zg σ σ'→R (.ret (.tuple [mv,.int .i64 0])) σ') {a:Nat→AV} {τ:AS} (hI:PlI σ base x mem k0 s0 a τ) :
  avc yb9 G 45 zgk (zbr (fun a' σ'=>PlI σ base x mem k0 s0 a' σ'∧MBt x a' σ'<MBt x a τ) (zbe 0 (zbr (avc yb9 G 45 zd6 (aq (zaV yb9 G 9 ze6 3 2 [.ptr σ.no 0,.ptr (σ.no+1) 0] [.cell 2 28,.cell 3 33] R))) (aq (zaV yb9 G 9 ze6 3 2 [.ptr σ.no 0,.ptr (σ.no+1) 0] [.cell 2 28,.cell 3 33] R))))) a τ:=by
 obtain⟨k,l,s,fv,he,hk,hlb,hP,hO,a2,a3,a4⟩:=hI
 obtain⟨k,rfl⟩:∃j,k=j+1:=⟨k-1,by omega⟩
 have hmb:=zdz hP.rd a
 rw[zx]at he
 simp[zgk,a4]
 refine zrw (w:=za6) hP.rd (by decide) (fun q τ1 hW1 K1=>?_) (fun s1 q τ1 hW1 K1=>?_)
 ·have hP1:=hP.keepS hW1 K1
  have hO1:=zeQ hO K1.nf fun f hf=>K1.fam f hf
  rw[q]at he
  simp only at he
  rw[he]at hn hs
  simp
  exact zoT V hP1 hO1 (by simp[a2]) (by simp[a3]) (by simp[a4]) hn hs
 ·have hP1:=hP.keepS hW1 K1
  have hO1:=zeQ hO K1.nf fun f hf=>K1.fam f hf
  rw[q]at he
  simp only at he
  have mo1:=hP1.mo
  have hlt:=zoV q
  have f1:=zgJ hO1
  simp[a2,a4,mo1,f1]
  refine zni V hW1 (fun e q2=>?_) ?_
  ·intro σ' K
   simp
   exact hP1.hand K (by simp[zcx,a2]) (by simp[zcx,a3]) (hn e (by rw[he,q2];rfl))
  ·intro f s2 q2 pv lv tv τ2 hp hl hW2 hx2 KF hfam hls
   rw[q2]at he
   simp only[Except.bind]at he
   have x0:=hP.x0
   have hx1:=hW1.hx
   have mo2:=(KF.obj σ.no (by omega) (by omega) (by omega)).trans mo1
   have eo2:=(KF.obj (σ.no+1) (by omega) (by omega) (by omega)).trans hP1.eo
   have p1:=hp.one
   have l1:=hl.one
   obtain⟨lv2,ho2,htv⟩:=hW2.cells
   rw[hx2]at ho2
   cases ho2
   have t1:=htv.one
   have hne:=zfh q2
   have An:=hP1.ad.nf
   have Ad2:zg σ τ2:=KF.adds0 hP1.ad (by omega) (by omega)
   rw[hls]at htv
   rcases htv with ⟨h0,_⟩|⟨gN,tos,rfl,t2,t3,t4,t5⟩
   ·exact absurd h0 hne.1
   ·have hgN:τ1.nf≤gN:=hfam gN rfl
    have hrow:Al.FVE (.agg [.str f.name,pv,lv,.int .i64 f.type,.sl (.fam gN false) 1 tos]) (f,gN):=⟨pv,lv,_,rfl,hp,hl,.inr ⟨tos,rfl,t5⟩⟩
    simp[mo2,f1,p1,l1,a2]
    have hlen2:l.length≤2^36:=by omega
    refine zoU hO1 hrow KF.nf KF.fam An hgN t3 t4 (by omega) fun v' τ' O' e1 e2 e3 e4=>?_
    have g1:=zgJ O'
    have mo3:τ'.objs σ.no=some [fv,.int .i64 mem,.int .i64 0]:=by rw[e1];exact mo2
    have eo3:τ'.objs (σ.no+1)=some [.int .i64 0]:=by rw[e1];exact eo2
    have kn:=KF.nf
    have hW3:Wr base x s2 τ':=hW2.famF e1 e2 (by omega) fun f' hf'=>by
     rcases hf' with rfl|⟨cs,w,u1,u2,u3⟩
     ·exact e4 0 (by omega) (.inl h00)
     ·rw[hx2]at u1
      cases u1
      simp at u2
      subst u2
      cases u3
      exact e4 gN t3 (.inr hgN)
    have An2:=Ad2.no
    have Af2:=Ad2.nf
    have Ad3:zg σ τ':=⟨by omega,by omega,fun o ho=>by rw[e1];exact Ad2.obj o ho,fun f' hf'=>(e4 f' (by omega) (.inl hf')).trans (Ad2.fam f' hf')⟩
    have hP3:PsW σ base x s2 fv mem 0 τ':=⟨hW3,Ad3,x0,hP.b0,mo3,eo3⟩
    have hP4:=hP3.setM (fv':=v') (mem':=mem) (mn':=0)
    have O4:Al.OutE (τ'.setO σ.no [v',.int .i64 mem,.int .i64 0]) σ.nf v' (l++[f]):=zeQ O' (yah _) fun _ _=>rfl
    simp[mo3,splice,g1,a2]
    refine⟨⟨k,l++[f],s2,v',he,by omega,by simp;omega,hP4,O4,by simp[a2],by simp[a3],by simp[a4]⟩,?_⟩
    rw[zdz hP4.rd,hmb]
    omega
theorem zgK(V:zbk G)(h00:0<σ.nf∧σ.F 0=.alive){b:List UInt8}(hok:zhk b)(hl:b.length<2^36)
  (hn:∀e,zbu 24 b=.error e→∀σ',zg σ σ'→R (.ret (.tuple [zej,.int .i64 e])) σ')
  (hs:∀m,zbu 24 b=.ok m→∀mv σ',Al.ME σ' σ.nf mv m→zg σ σ'→R (.ret (.tuple [mv,.int .i64 0])) σ'):zzQ G 19 [.str b] σ R:=by
 refine zdw (px:=zsB) (pz:=zsC) (k:=55) (py:=ze6) (n:=45) (nk:=9) (t:=5) (d0:=3) (d1:=2) (res:=[.cell 2 28,.cell 3 33]) zn Tryz.func19 rfl rfl rfl rfl (by kernel_rfl) (by kernel_rfl) (by simp) rfl rfl rfl rfl rfl rfl (by decide) Tryz.func55 rfl (by kernel_rfl) rfl rfl rfl rfl rfl rfl rfl rfl rfl (by kernel_rfl) (by decide) (by decide) (by decide) ?_
 have hpe:zbu 24 b=(zcj 24 ⟨b,[]⟩).map (·.1):=rfl
 have hn':∀e,zcj 24 ⟨b,[]⟩=.error e→∀σ',zg σ σ'→R (.ret (.tuple [zej,.int .i64 e])) σ':=fun e q=>hn e (by rw[hpe,q];rfl)
 have hs':∀m s',zcj 24 ⟨b,[]⟩=.ok (m,s')→∀mv σ',Al.ME σ' σ.nf mv m→zg σ σ'→R (.ret (.tuple [mv,.int .i64 0])) σ':=fun m s' q=>hs m (by rw[hpe,q];rfl)
 clear hn hs hpe
 simp[zsB]
 have ecap:List.map (ev G (upd (upd (zaZ [.str b]) 2 (ycv σ.no 0)) 3 (ycv (σ.no+1) 0))) #[Operand.tmp 2,Operand.tmp 3].toList=[.ptr σ.no 0,.ptr (σ.no+1) 0]:=rfl
 rw[ecap]
 generalize hfr:upd (upd (upd (zaZ [.str b]) 2 (ycv σ.no 0)) 3 (ycv (σ.no+1) 0)) 5 (AV.fn (Fn.func 55) [] [ycv σ.no 0,ycv (σ.no+1) 0])=fr
 have fr0:fr 0=.str b:=by rw[←hfr];simp
 have fr2:fr 2=.ptr σ.no 0:=by rw[←hfr];simp
 have fr3:fr 3=.ptr (σ.no+1) 0:=by rw[←hfr];simp
 rw[zhQ]at hs'
 simp only[zhQ]at hn'
 simp[zsC,fr0,splice]
 have hP:PsW σ σ.nf (σ.no+1+1) ⟨b,[]⟩ .nilsl 0 0 (((σ.newO [ycz,ycs yam 0,ycs yam 0]).newO [ycs yam 0]).newO [ycr b,ycz]) :=
  ⟨⟨by simp,⟨by simpa using h00.1,by simp⟩,by simpa using h00.2,hok,hl,.nilsl,by simp,.inl ⟨rfl,rfl⟩⟩,(zg.refl σ).newO.newO.newO,by omega,yah _,by
   have:¬σ.no=σ.no+1+1:=by omega
   simp[this],by simp⟩
 have hno:(((σ.newO [ycz,ycs yam 0,ycs yam 0]).newO [ycs yam 0]).newO [ycr b,ycz]).no=σ.no+1+1+1:=by simp
 have hnf:(((σ.newO [ycz,ycs yam 0,ycs yam 0]).newO [ycs yam 0]).newO [ycr b,ycz]).nf=σ.nf:=by simp
 generalize ((σ.newO [ycz,ycs yam 0,ycs yam 0]).newO [ycs yam 0]).newO [ycr b,ycz]=τ0 at *
 refine Hd.fields_calls V.space fun y σ' A y1 y2 y3=>?_
 have hP1:=hP.adds A
 simp
 refine ziV (ts:=zbB) hP1.rd (.inr ⟨y,rfl,y2,by omega,y3⟩) (by decide) (fun e q=>?_) (fun s1 q τ1 hW1 K1=>?_)
 ·intro σ'' K
  simp
  exact hP1.hand K (by simp[zcx,fr2]) (by simp[zcx,fr3]) (hn' e (by rw[q];rfl))
 ·have hP2:=hP1.keepS hW1 K1
  rw[q]at hs'
  simp only[q,Except.bind]at hn' hs'
  simp
  refine ziW V hW1 (fun e q2=>?_) (fun mem s2 q2 r1 r2 τ2 hW2 K2=>?_)
  ·intro σ'' K
   simp
   exact hP2.hand K (by simp[zcx,fr2]) (by simp[zcx,fr3]) (hn' e (by rw[q2]))
  ·have hP3:=hP2.keepS hW2 K2
   rw[q2]at hs'
   simp only[q2]at hn' hs'
   have mo3:=hP3.mo
   simp[fr2,mo3,splice]
   have hP4:=hP3.setM (fv':=.nilsl) (mem':=mem) (mn':=0)
   generalize τ2.setO σ.no [.nilsl,.int .i64 mem,.int .i64 0]=τ3 at *
   refine ziV (ts:=[zf,zf]) hP4.rd (.inl ⟨true,rfl⟩) (by decide) (fun e q3=>?_) (fun s4 q3 τ4 hW4 K4=>?_)
   ·intro σ'' K
    simp
    exact hP4.hand K (by simp[zcx,fr2]) (by simp[zcx,fr3]) (hn' e (by rw[q3]))
   ·have hP5:=hP4.keepS hW4 K4
    rw[q3]at hs'
    simp only[q3]at hn' hs'
    simp
    refine zae (PlI σ σ.nf (σ.no+1+1) mem (s4.b.length+1) s4) (MBt (σ.no+1+1)) ⟨s4.b.length+1,[],s4,.nilsl,rfl,by omega,by simp,hP5,.inl ⟨rfl,rfl⟩,by simp[fr2],by simp[fr3],by simp⟩ fun a τ hI=>?_
    exact znj V h00.1 hW4.len hn' hs' hI
end
end Go.Proofs.YtohfclafhegadaaGreatDoor
namespace Go.Proofs.YtohfclafhegadaaGreatDoor
open Go Go.Abs Go.Shelf Go.RowKit
theorem zy6:liesAt yb9 yb9.depth 88 (2/yb9.cellsOf 88) 0 86 1=true:=by kernel_rfl
theorem u84:yb9.underlying 84=some (.pointer 86):=by kernel_rfl
theorem zET:yb9.underlying 244=some .unsafePointer:=by kernel_rfl
theorem zsS:(yb9.info? 86).map (·.size)=some 2:=by kernel_rfl
set_option maxHeartbeats 1000000 in
theorem zuF(b:Nat)(w:World)(h0:w.cell? ⟨b,0,none⟩=some (.pointer (some ⟨b,0,none⟩))):
  Calls yb9 175 #[.pointer (some ⟨b,0,none⟩)] w fun e w'=>e=.returned (.tuple #[])∧w'=w:=by
 obtain⟨j,hj,_⟩:=ybB.1 zsS
 go_enter yc9,yda
 go_wp2
 rw[Lib.run_neq_ptr_same w _ u84 hj]
 go_wp2
 go_end0
 exact⟨rfl,rfl⟩
set_option maxHeartbeats 1000000 in
theorem zrE(b:Nat)(w:World)(h0:w.cell? ⟨b,0,none⟩=some (.pointer none))(hsh:w.shape? b=some (88,2))(hfz:w.frozen? ⟨b,0,none⟩=false):
  Calls yb9 175 #[.pointer (some ⟨b,0,none⟩)] w fun e w'=>e=.returned (.tuple #[])∧w'=w.setCell ⟨b,0,none⟩ (.pointer (some ⟨b,0,none⟩)):=by
 obtain⟨j,hj,hjs⟩:=ybB.1 zsS
 go_enter yc9,yda
 go_wp2
 rw[Lib.run_to_unsafe w ⟨b,0,none⟩ u84 zET hj (by rw[hjs];decide) hsh (Nat.zero_lt_succ 1)]
 simp only[Result.andThen]
 rw[Oper.upon_value]
 go_wp2
 rw[run_callFunc_extern Tryz.func211 (by kernel_rfl) (by kernel_rfl) (by kernel_rfl) (e:=Extern.AbiNoEscape.same) (by kernel_rfl)]
 rw[Lib.run_noEscape]
 simp only[Result.andThen]
 rw[Oper.upon_value]
 go_wp2
 rw[Lib.run_from_unsafe w ⟨b,0,none⟩ zET u84 hj hsh zy6]
 simp only[Result.andThen]
 rw[Oper.upon_value]
 go_wp2
 go_end0
 exact⟨rfl,rfl⟩
section
variable {G : Env} {σ : AS} {R : Out → AS → Prop}
def zy7(o:Nat)(v:AV):Prop:=v=.nilp∨v=.pt 88 2 o 0
theorem zgL{o:Nat}{v u:AV}(ho:σ.objs o=some [v,u])(hv:zy7 o v)(h:∀σ',σ'=σ.setO o [.pt 88 2 o 0,u]→R (.ret (.tuple [])) σ'):zzQ G 175 [.pt 88 2 o 0] σ R:=by
 intro M w cargs S g hc
 obtain⟨c,rfl,hcv⟩:=zus hc
 obtain⟨q1,q2,⟨cc,z,q3,q4⟩,rfl⟩:=zlx hcv
 obtain⟨r1,r2,r3⟩:=S.obj o _ ho
 obtain⟨c0,s1,s2,s3⟩:=r3 0 (by simp)
 rw[q2]at s1 s2
 simp only[ydb,yaK]at s1 s2
 have hpt:VR M σ.F w (.pt 88 2 o 0) (.pointer (some ⟨(M.obj o).1,0,none⟩)):=hcv
 rcases hv with rfl|rfl
 ·have hc0:c0=.pointer none:=by
   simp only[yaz]at s3
   cases s3
   rfl
  subst hc0
  have hsh:w.shape? (M.obj o).1=some (88,2):=by simp[World.shape?,q3,q4]
  refine(zrE _ w s1 hsh s2).mono fun e w' ⟨he,hw⟩=>?_
  subst he
  obtain⟨w2,hrun,S',E'⟩:=zjq (P:=yb9) S ho (off:=0) (vs:=[.pt 88 2 o 0]) (l:=[.pointer (some ⟨(M.obj o).1,0,none⟩)]) (by simp) rfl (by simp[Value.oneCell']) (fun j h1 h2=>by
   have:j=0:=by simp at h1;omega
   subst this
   exact hpt)
  have hw2:w2=w':=by
   have hrun2:=run_storeCells_cells (P:=yb9) (M.obj o).1 ((M.obj o).2+0) [.pointer (some ⟨(M.obj o).1,0,none⟩)] 0 w (fun j hj=>by
    have:j=0:=by simp at hj;omega
    subst this
    rw[q2]
    simp only[ydb,yaK]
    rw[s1];rfl) (fun j hj=>by
    have:j=0:=by simp at hj;omega
    subst this
    rw[q2]
    simpa using s2) (by simp[Value.oneCell'])
   rw[hrun2]at hrun
   cases hrun
   rw[hw,q2]
   rfl
  subst hw2
  refine⟨.ret (.tuple []),_,M,h _ ?_,.tuple _ _ rfl (fun j h=>absurd h (yaA _)),S',E'⟩
  simp[splice]
 ·have hc0:c0=.pointer (some ⟨(M.obj o).1,0,none⟩):=by
   simp only[yaz]at s3
   exact(zlx s3).2.2.2
  subst hc0
  refine(zuF _ w s1).mono fun e w' ⟨he,hw⟩=>?_
  subst he hw
  have e1:σ.setO o [.pt 88 2 o 0,u]=σ:=by
   unfold AS.setO
   have:upd σ.objs o (some [.pt 88 2 o 0,u])=σ.objs:=by
    funext x
    by_cases hx:x=o
    ·subst hx;simp[ho]
    ·simp[hx]
   rw[this]
  refine⟨.ret (.tuple []),σ,M,h _ e1.symm,.tuple _ _ rfl (fun j h=>absurd h (yaA _)),S,.refl ..⟩
end
theorem zy8{P:Program}{G:Env}{f:FuncId}{args:List AV}{σ:AS}{R:Out→AS→Prop}{o i:Nat}{cs:List AV}{e:Nat}(ho:σ.objs o=some cs)(hi:cs[i]?=some .nilsl)(h:ACalls P G f args (σ.setO o (splice cs i [.tys e .nilsl])) R):ACalls P G f args σ R:=by
 intro M w cargs S g c
 have hil:i<cs.length:=(yaq.1 hi).1
 have hb:i+[AV.tys e .nilsl].length≤cs.length:=by simp only[yac,ybl];omega
 have S':Sim M (σ.setO o (splice cs i [.tys e .nilsl])) w:=by
  refine⟨S.no,S.nf,S.role,fun x cs' hx=>?_,fun x y hx hy hxy=>?_⟩
  ·by_cases hxo:x=o
   ·subst hxo
    simp only[AS.setO,zd]at hx
    cases hx
    obtain⟨a1,a2,a3⟩:=S.obj x cs ho
    refine⟨a1,a2,fun j hj=>?_⟩
    have hj':j<cs.length:=by rwa [zbh hb]at hj
    obtain⟨u,h1,h2,h3⟩:=a3 j hj'
    refine⟨u,h1,h2,?_⟩
    have e1:=zbn (cs:=cs) (vs:=[AV.tys e .nilsl]) (off:=i) (j:=j) hb
    rw[yau hj]at e1
    by_cases hji:j=i
    ·subst hji
     rw[if_pos (by simp)]at e1
     simp only[Nat.sub_self,ydc,yaR.injEq]at e1
     rw[e1]
     have e2:cs[j]=.nilsl:=by
      rw[yau hj']at hi
      exact yaR.inj hi
     rw[e2]at h3
     have e3:=zar h3
     subst e3
     exact .tys e .nilsl _ h3 trivial
    ·rw[if_neg (by simp only[yac,ybl];omega),yau hj']at e1
     rw[yaR.inj e1]
     exact h3
   ·simp only[AS.setO]at hx
    rw[ze _ _ hxo]at hx
    exact S.obj x cs' hx
  ·have key:∀z,((σ.setO o (splice cs i [.tys e .nilsl])).objs z).isSome=true→(σ.objs z).isSome=true:=by
    intro z hz
    by_cases hzo:z=o
    ·subst hzo;rw[ho];rfl
    ·simp only[AS.setO]at hz;rwa [ze _ _ hzo]at hz
   exact S.inj x y (key x hx) (key y hy) hxy
 exact h M w cargs S' g c
theorem zE4:yb9.underlying 160=some (.pointer 5):=by kernel_rfl
theorem zy9:yb9.cellsOf 5=1:=by kernel_rfl
def zsT(σ0 σ:AS)(v:AV)(bs:List UInt8):Prop:=(bs=[]∧v=.tys 5 .nilsl)∨∃g,v=.tys 5 (.sl (.fam g false) 1 (B bs))∧σ0.nf≤g∧g<σ.nf∧σ.F g=.alive∧bs≠[]
theorem zsT.one{σ0 σ v bs}(h:zsT σ0 σ v bs):v.known=true∧v.one=true∧v.cells=[v]:=by
 rcases h with ⟨_,rfl⟩|⟨g,rfl,_⟩<;>simp
structure Pw(σ0:AS)(x:Nat)(bs:List UInt8)(τ:AS):Prop where
 x0:σ0.no≤x
 hx:x<τ.no
 ad:zg σ0 τ
 cells:∃hd v,τ.objs x=some [hd,v]∧zy7 x hd∧zsT σ0 τ v bs
structure PwK(x:Nat)(τ τ':AS):Prop where
 no:τ.no≤τ'.no
 obj:∀o,o<τ.no→o≠x→τ'.objs o=τ.objs o
theorem PwK.refl(x τ):PwK x τ τ:=⟨yah _,fun _ _ _=>rfl⟩
theorem PwK.trans{x a b c}(h:PwK x a b)(k:PwK x b c):PwK x a c:=⟨yai h.no k.no,fun o h1 h2=>(k.obj o (yag h1 h.no) h2).trans (h.obj o h1 h2)⟩
theorem zg.pwk{x a b}(A:zg a b):PwK x a b:=⟨A.no,fun o h _=>A.obj o h⟩
theorem PwK.set{x a b cs}(h:PwK x a b):PwK x a (b.setO x cs):=⟨h.no,fun o h1 h2=>by
 simp[h2]
 exact h.obj o h1 h2⟩
theorem Pw.adds{σ0 x bs τ τ'}(h:Pw σ0 x bs τ)(A:zg τ τ'):Pw σ0 x bs τ':=by
 obtain⟨hd,v,h1,h2,h3⟩:=h.cells
 refine⟨h.x0,yag h.hx A.no,h.ad.trans A,hd,v,(A.obj x h.hx).trans h1,h2,?_⟩
 rcases h3 with h3|⟨g,q1,q2,q3,q4,q5⟩
 ·exact .inl h3
 ·exact .inr ⟨g,q1,q2,yag q3 A.nf,(A.fam g q3).trans q4,q5⟩
section
variable {G : Env} {σ : AS} {R : Out → AS → Prop}
theorem zDF{σ0 x bs}(h:Pw σ0 x bs σ)(hl:bs.length<2^60)(hR:R (.ret (.int .i64 (bs.length:Int))) σ):zzQ G 127 [.pt 88 2 x 0] σ R:=by
 obtain⟨hd,v,h1,h2,h3⟩:=h.cells
 refine zqu rfl ?_
 rcases h3 with ⟨rfl,rfl⟩|⟨g,rfl,q2,q3,q4,q5⟩
 ·simp[zt5,h1]
  exact hR
 ·simp[zt5,h1]
  simpa [B]using hR
theorem zE5:elT yb9 32=some 5:=by kernel_rfl
theorem zsU{σ0 τ:AS}{v:AV}{bs w:List UInt8}{K:AV→AS→Prop}(hb:zsT σ0 τ v bs)(A:zg σ0 τ)(hl:bs.length+w.length<2^46)
  (h:∀v' τ',zsT σ0 τ' v' (bs++w)→τ'.objs=τ.objs→τ'.no=τ.no→zg σ0 τ'→K v' τ'):zcy (elT yb9 32) 1 1 v (B w) τ K:=by
 have An:=A.nf
 have Bl:(B w).length=w.length:=by simp[B]
 have Bb:(B bs).length=bs.length:=by simp[B]
 have Ba:B (bs++w)=B bs++B w:=by simp[B]
 rw[zE5]
 rcases hb with ⟨rfl,rfl⟩|⟨g,rfl,q2,q3,q4,q5⟩
 ·rw[zid]
  refine⟨rfl,by rw[Bl];simp at hl;omega,fun e=>?_,fun e=>?_⟩
  ·have hw:w=[]:=by
    cases w with
    | nil=>rfl
    | cons c r=>simp[B]at e
   subst hw
   exact h _ _ (.inl ⟨rfl,rfl⟩) rfl rfl A
  ·have hw:w≠[]:=fun q=>e (by rw[q];rfl)
   exact h _ _ (.inr ⟨τ.nf,rfl,An,by simp,by simp,by simpa using hw⟩) (by simp) (by simp) A.newF
 ·rw[zie]
  refine⟨rfl,rfl,by rw[Bl,Bb];omega,q4,?_⟩
  refine h _ _ (.inr ⟨τ.nf,by rw[Ba],An,by simp,by simp,by simp[q5]⟩) (by simp) (by simp) ?_
  exact⟨A.no,by simp;omega,fun o ho=>A.obj o ho,fun f hf=>by
   have h1:¬f=τ.nf:=by omega
   have h2:¬f=g:=by omega
   simp[h1,h2]
   exact A.fam f hf⟩
theorem Pw.head{σ0 x bs τ hd v}(h:Pw σ0 x bs τ)(h1:τ.objs x=some [hd,v])(h3:zsT σ0 τ v bs):Pw σ0 x bs (τ.setO x [.pt 88 2 x 0,v]) :=
 ⟨h.x0,h.hx,h.ad.setO h.x0,_,v,by simp,.inr rfl,h3⟩
theorem zel{σ0 x bs w}(h:Pw σ0 x bs σ)(hl:bs.length+w.length<2^46)(hR:∀σ' v,Pw σ0 x (bs++w) σ'→PwK x σ σ'→R (.ret v) σ'):zzQ G 129 [.pt 88 2 x 0,.str w] σ R:=by
 obtain⟨hd,v,h1,h2,h3⟩:=h.cells
 have v1:=h3.one
 refine zqw rfl ?_
 simp[zxf]
 refine zgL h1 h2 fun σ1 e1=>?_
 have hx1:σ1.objs x=some [.pt 88 2 x 0,v]:=by rw[e1];simp
 have hP1:Pw σ0 x bs σ1:=by rw[e1];exact h.head h1 h3
 have K1:PwK x σ σ1:=by rw[e1];exact(PwK.refl x σ).set
 have h31:zsT σ0 σ1 v bs:=by rw[e1];exact h3
 simp[hx1,v1]
 refine zsU h31 hP1.ad hl fun v' τ' b' o' n' A'=>?_
 have v1':=b'.one
 have hx2:τ'.objs x=some [.pt 88 2 x 0,v]:=by rw[o'];exact hx1
 have hlt:=hP1.hx
 simp[hx2,v1',splice]
 refine hR _ _ ⟨hP1.x0,by simp;omega,A'.setO hP1.x0,_,v',by simp,.inr rfl,?_⟩ (K1.trans (PwK.set ⟨by omega,fun o q1 q2=>by rw[o']⟩))
 exact b'
theorem zlp{σ0 x bs}{c:UInt8}(h:Pw σ0 x bs σ)(hl:bs.length+1<2^46)(hR:∀σ' v,Pw σ0 x (bs++[c]) σ'→PwK x σ σ'→R (.ret v) σ'):zzQ G 128 [.pt 88 2 x 0,.int .u8 (c.toNat:Int)] σ R:=by
 obtain⟨hd,v,h1,h2,h3⟩:=h.cells
 have v1:=h3.one
 refine zqv rfl ?_
 simp[zxe]
 refine zgL h1 h2 fun σ1 e1=>?_
 have hx1:σ1.objs x=some [.pt 88 2 x 0,v]:=by rw[e1];simp
 have hP1:Pw σ0 x bs σ1:=by rw[e1];exact h.head h1 h3
 have K1:PwK x σ σ1:=by rw[e1];exact(PwK.refl x σ).set
 have h31:zsT σ0 σ1 v bs:=by rw[e1];exact h3
 simp[hx1,v1]
 refine zsU (w:=[c]) h31 hP1.ad hl fun v' τ' b' o' n' A'=>?_
 have v1':=b'.one
 have hx2:τ'.objs x=some [.pt 88 2 x 0,v]:=by rw[o'];exact hx1
 have hlt:=hP1.hx
 simp[hx2,v1',splice]
 refine hR _ _ ⟨hP1.x0,by simp;omega,A'.setO hP1.x0,_,v',by simp,.inr rfl,?_⟩ (K1.trans (PwK.set ⟨by omega,fun o q1 q2=>by rw[o']⟩))
 exact b'
theorem zrF{σ0 x bs}(h:Pw σ0 x bs σ)(hne:bs≠[])(hl:bs.length<2^46)(hR:∀σ',zg σ0 σ'→PwK x σ σ'→R (.ret (.str bs)) σ'):zzQ G 67 [.pt 88 2 x 0] σ R:=by
 obtain⟨hd,v,h1,h2,h3⟩:=h.cells
 refine zt0 rfl ?_
 rcases h3 with ⟨rfl,rfl⟩|⟨g,rfl,q2,q3,q4,q5⟩
 ·exact absurd rfl hne
 ·simp[zEc,h1]
  refine⟨zE4,zy9,q4,bs,rfl,rfl,hne,by omega,?_⟩
  simp
  have A:=h.ad
  refine hR _ ⟨A.no,A.nf,A.obj,fun f hf=>?_⟩ ⟨yah _,fun _ _ _=>rfl⟩
  have:¬f=g:=by omega
  simp[this]
  exact A.fam f hf
end
def zmk(bs w:List UInt8):List UInt8:=if bs=[]then w else bs++32::w
def zem(bs:List UInt8)(ws:List (List UInt8)):List UInt8:=ws.foldl zmk bs
def spT(ts:List (List UInt8)):List UInt8:=ts.flatMap fun t=>32::t
theorem zh(a b:List (List UInt8)):spT (a++b)=spT a++spT b:=by simp[spT]
theorem zml:∀ts,zp ts=spT ts++[10]
 | []=>rfl
 | t::r=>by
  have:=zml r
  simp only[zp,this,spT,yaa,yct,ycL]
theorem zoW{bs w:List UInt8}(h:bs≠[]):zmk bs w=bs++32::w:=by unfold zmk;rw[if_neg h]
theorem zlq:∀(ws:List (List UInt8)) {bs:List UInt8},bs≠[]→zem bs ws=bs++spT ws
 | [],bs,_=>by simp[zem,spT]
 | w::r,bs,h=>by
  have e:zem bs (w::r)=zem (zmk bs w) r:=rfl
  rw[e,zoW h,zlq r (by simp)]
  simp[spT]
theorem zoX(bs w:List UInt8):bs.length≤(zmk bs w).length∧w.length≤(zmk bs w).length:=by
 unfold zmk
 split
 ·rename_i h;subst h;simp
 ·simp only[yab,yac];omega
theorem zoY:∀(ws:List (List UInt8)) (bs:List UInt8),bs.length≤(zem bs ws).length
 | [],bs=>yah _
 | w::r,bs=>yai (zoX bs w).1 (zoY r (zmk bs w))
theorem zmm(bs:List UInt8)(d r:List (List UInt8)):zem bs (d++r)=zem (zem bs d) r:=by simp[zem]
section
variable {G : Env} {σ : AS} {R : Out → AS → Prop}
def SyI(σ0:AS)(x:Nat)(bs:List UInt8)(ws:List (List UInt8))(σ:AS)(a:Nat→AV)(τ:AS):Prop:=∃(d r:List (List UInt8)),ws=d++r∧a 0=.pt 88 2 x 0∧a 6=.sl (.stat true) 1 (ws.map ycr)∧a 7=.int .i64 (ws.length:Int)∧a 8=.int .i64 (d.length:Int)∧Pw σ0 x (zem bs d) τ∧PwK x σ τ
theorem zsV{σ0 x bs ws}(h:Pw σ0 x bs σ)(hw:ws.length<1000)(hl:(zem bs ws).length<2^45)(hR:∀σ' v,Pw σ0 x (zem bs ws) σ'→PwK x σ σ'→R (.ret v) σ'):zzQ G 63 [.pt 88 2 x 0,.sl (.stat true) 1 (ws.map ycr)] σ R:=by
 refine ztX rfl ?_
 simp[zEa]
 refine zae (SyI σ0 x bs ws σ) (MU 8 (ws.length+1)) ⟨[],ws,rfl,by simp,by simp,by simp,by simp,h,.refl ..⟩ fun a τ hI=>?_
 obtain⟨d,r,hdr,a0,a6,a7,a8,hP,hK⟩:=hI
 cases r with
 | nil =>
  have e:ws=d:=by simpa using hdr
  have e2:ws.length=d.length:=by rw[e]
  rw[e2]at a7
  simp[zkU,a0,a6,a7,a8]
  exact hR _ _ (by rw[e];exact hP) hK
 | cons t r =>
  have hlt:(d.length:Int)<(ws.length:Int):=by simp[hdr];omega
  have hi:ws[d.length]?=some t:=by simp[hdr]
  have w1:yb4 .i64 ((d.length:Int)+1)=((d.length+1:Nat):Int):=by rw[wrap_i64]<;>omega
  have e3:zem bs ws=zem (zmk (zem bs d) t) r:=by rw[hdr,zmm];rfl
  have l1:(zmk (zem bs d) t).length≤(zem bs ws).length:=by rw[e3];exact zoY _ _
  have l2:=zoX (zem bs d) t
  have e4:zem bs (d++[t])=zmk (zem bs d) t:=by rw[zmm];rfl
  simp[zkU,a0,a6,a7,a8,hlt,hi]
  refine zDF hP (by omega) ?_
  by_cases hb:zem bs d=[]
  ·have e5:zmk (zem bs d) t=t:=by unfold zmk;rw[if_pos hb]
   rw[hb]at hP
   simp[hb,a0]
   refine zel (w:=t) hP (by simp;omega) fun τ' v' P' K'=>?_
   simp[a0,a6,a7,a8,w1]
   refine⟨⟨d++[t],r,by simp[hdr],by simp[a0],by simp[a6],by simp[a7],by simp,?_,hK.trans K'⟩,?_⟩
   ·rw[e4,e5];simpa using P'
   ·simp[MU,a8];omega
  ·have hpos:(0:Int)<((zem bs d).length:Int):=by have:=ybm.2 hb;omega
   have hposN:0<(zem bs d).length:=by omega
   have e5:zmk (zem bs d) t=zem bs d++32::t:=zoW hb
   rw[e5]at l1
   simp only[yab,yac]at l1
   simp[hpos,hposN,hb,a0]
   refine zlp (c:=32) hP (by omega) fun τ1 v1 P1 K1=>?_
   simp[a0]
   refine zel (w:=t) P1 (by simp;omega) fun τ' v' P' K'=>?_
   simp[a0,a6,a7,a8,w1]
   refine⟨⟨d++[t],r,by simp[hdr],by simp[a0],by simp[a6],by simp[a7],by simp,?_,(hK.trans K1).trans K'⟩,?_⟩
   ·rw[e4,e5];simpa using P'
   ·simp[MU,a8];omega
theorem ziZ{op:Int}(h:op=11∨op=12∨op=13)(hR:R (.ret (.str (zaH op))) σ):zzQ G 132 [.int .i64 op] σ R:=by
 refine zqz rfl ?_
 rcases h with rfl|rfl|rfl
 ·simp[zqy]
  exact hR
 ·simp[zqy]
  exact hR
 ·simp[zqy]
  exact hR
theorem zoZ{n:Int}{a b:List UInt8}(h:n=1∨n=4∨n=8)(hR:R (.ret (.str (if n=1 then a else b))) σ):zzQ G 177 [.int .i64 n,.str a,.str b] σ R:=by
 refine zqQ rfl ?_
 rcases h with rfl|rfl|rfl
 ·simp[zqP]
  simpa using hR
 ·simp[zqP]
  simpa using hR
 ·simp[zqP]
  simpa using hR
theorem zgM(t:Int):(zw t).length=3:=by unfold zw;split<;>rfl
theorem zkf{t:Int}(h:zab t=true):t=1∨t=2:=by simpa [zab]using h
theorem zrG{t n:Int}(h:zhB t n=true):(t=1∨t=2)∧(n=1∨n=4∨n=8):=by
 unfold zhB at h
 simp at h
 omega
theorem zlr{w:W}(h:zce w=true):1≤w.op∧w.op≤18∧(w.op=1∨w.op=4∨w.op=5∨w.op=8∨w.op=9→w.ty=1∨w.ty=2)∧(w.op=8∨w.op=9→w.n=1∨w.n=4∨w.n=8)∧(w.op=4→zbf signs w.name≠[]):=by
 unfold zce at h
 split at h
 ·rename_i h1
  have:=zkf h
  refine⟨by omega,by omega,fun _=>this,fun _=>by omega,fun _=>by omega⟩
 ·split at h
  ·rename_i h1 h2
   simp only[Bool.and_eq_true]at h
   have:=zkf h.1
   refine⟨by omega,by omega,fun _=>this,fun _=>by omega,fun _=>?_⟩
   simpa using h.2
  ·split at h
   ·rename_i h1 h2 h3
    have:=zrG h
    exact⟨by omega,by omega,fun _=>this.1,fun _=>this.2,fun _=>by omega⟩
   ·simp at h
    refine⟨by omega,by omega,fun _=>by omega,fun _=>by omega,fun _=>by omega⟩
theorem zo0{w:W}(hf:zce w=true)(hn:zdQ w=false)(h:∀σ',zg σ σ'→R (.ret (.str (zF w))) σ'):zzQ G 133 [w.av] σ R:=by
 refine zqA rfl ?_
 obtain⟨f1,f2,f3,f4,f5⟩:=zlr hf
 have A1:zg σ (σ.newO w.cs):=(zg.refl σ).newO
 have hn':w.op≠11∧w.op≠12∧w.op≠13:=by simpa [zdQ,and_assoc]using hn
 have hc:w.op=1∨w.op=2∨w.op=3∨w.op=4∨w.op=5∨w.op=6∨w.op=7∨w.op=8∨w.op=9∨w.op=10∨w.op=14∨w.op=15∨w.op=16∨w.op=17∨w.op=18:=by omega
 have tl:=zgM w.ty
 have key:∀t,zF w=t→R (.ret (.str t)) (σ.newO w.cs):=fun t e=>e▸h _ A1
 rcases hc with e|e|e|e|e|e|e|e|e|e|e|e|e|e|e
 ·simp[zdo,W.av,W.cs,e]
  refine zdT (f3 (by omega)) ?_
  simp[tl]
  have:=key _ (by unfold zF;rw[if_pos e])
  simpa [W.cs,e]using this
 ·have:=key [108,111,99,97,108,46,103,101,116] (by simp[zF,e])
  simp[zdo,W.av,W.cs,e]
  simpa [W.cs,e]using this
 ·have:=key [108,111,99,97,108,46,115,101,116] (by simp[zF,e])
  simp[zdo,W.av,W.cs,e]
  simpa [W.cs,e]using this
 ·have:=key (zw w.ty++46::w.name) (by simp[zF,e])
  have hl:=zeK w.name (f5 e)
  simp[zdo,W.av,W.cs,e]
  refine zdT (f3 (by omega)) ?_
  simp[tl]
  refine⟨by omega,?_⟩
  simpa [W.cs,e]using this
 ·have:=key (zw w.ty++[46,101,113,122]) (by simp[zF,e])
  simp[zdo,W.av,W.cs,e]
  refine zdT (f3 (by omega)) ?_
  simp[tl]
  simpa [W.cs,e]using this
 ·have:=key [105,51,50,46,119,114,97,112,95,105,54,52] (by simp[zF,e])
  simp[zdo,W.av,W.cs,e]
  simpa [W.cs,e]using this
 ·have:=key [105,54,52,46,101,120,116,101,110,100,95,105,51,50,95,115] (by simp[zF,e])
  simp[zdo,W.av,W.cs,e]
  simpa [W.cs,e]using this
 ·have:=key (zw w.ty++(if w.n=1 then [46,108,111,97,100,56,95,115]else [46,108,111,97,100])) (by simp[zF,e])
  simp[zdo,W.av,W.cs,e]
  refine zdT (f3 (by omega)) ?_
  simp
  refine zoZ (f4 (by omega)) ?_
  have ln:(if w.n=1 then [46,108,111,97,100,56,95,115]else([46,108,111,97,100]:List UInt8)).length≤8:=by split<;>decide
  simp[tl]
  refine⟨by omega,?_⟩
  simpa [W.cs,e]using this
 ·have:=key (zw w.ty++(if w.n=1 then [46,115,116,111,114,101,56]else [46,115,116,111,114,101])) (by simp[zF,e])
  simp[zdo,W.av,W.cs,e]
  refine zdT (f3 (by omega)) ?_
  simp
  refine zoZ (f4 (by omega)) ?_
  have ln:(if w.n=1 then [46,115,116,111,114,101,56]else([46,115,116,111,114,101]:List UInt8)).length≤8:=by split<;>decide
  simp[tl]
  refine⟨by omega,?_⟩
  simpa [W.cs,e]using this
 ·have:=key [99,97,108,108] (by simp[zF,e])
  simp[zdo,W.av,W.cs,e]
  simpa [W.cs,e]using this
 ·have:=key [98,114] (by simp[zF,e])
  simp[zdo,W.av,W.cs,e]
  simpa [W.cs,e]using this
 ·have:=key [98,114,95,105,102] (by simp[zF,e])
  simp[zdo,W.av,W.cs,e]
  simpa [W.cs,e]using this
 ·have:=key [114,101,116,117,114,110] (by simp[zF,e])
  simp[zdo,W.av,W.cs,e]
  simpa [W.cs,e]using this
 ·have:=key [117,110,114,101,97,99,104,97,98,108,101] (by simp[zF,e])
  simp[zdo,W.av,W.cs,e]
  simpa [W.cs,e]using this
 ·have:=key [100,114,111,112] (by simp[zF,e])
  simp[zdo,W.av,W.cs,e]
  simpa [W.cs,e]using this
end
theorem zo1{w:W}(hf:zce w=true)(hn:zdQ w=false):(zA zch (zF w)).isSome=za8 w:=by
 obtain⟨f1,f2,f3,f4,f5⟩:=zlr hf
 have hn':w.op≠11∧w.op≠12∧w.op≠13:=by simpa [zdQ,and_assoc]using hn
 have hc:w.op=1∨w.op=2∨w.op=3∨w.op=4∨w.op=5∨w.op=6∨w.op=7∨w.op=8∨w.op=9∨w.op=10∨w.op=14∨w.op=15∨w.op=16∨w.op=17∨w.op=18:=by omega
 have key:∀t b,zF w=t→za8 w=b→(zA zch t).isSome=b→(zA zch (zF w)).isSome=za8 w:=fun t b e1 e2 e3=>by rw[e1,e2,e3]
 rcases hc with e|e|e|e|e|e|e|e|e|e|e|e|e|e|e
 ·rcases f3 (by omega)with t|t
  ·exact key [105,51,50,46,99,111,110,115,116] true (by simp[zF,e,t,zw,zvR]) (by simp[za8,e]) (by decide)
  ·exact key [105,54,52,46,99,111,110,115,116] true (by simp[zF,e,t,zw,zvS]) (by simp[za8,e]) (by decide)
 ·exact key [108,111,99,97,108,46,103,101,116] true (by simp[zF,e]) (by simp[za8,e]) (by decide)
 ·exact key [108,111,99,97,108,46,115,101,116] true (by simp[zF,e]) (by simp[za8,e]) (by decide)
 ·have ht:=f3 (by omega)
  have:=(zl8 w.name (zeM (f5 e)) w.ty (by simpa using ht)).2.1
  exact key (zw w.ty++46::w.name) false (by simp[zF,e]) (by simp[za8,e]) (by rw[this];rfl)
 ·rcases f3 (by omega)with t|t
  ·exact key [105,51,50,46,101,113,122] false (by simp[zF,e,t,zw,zvR]) (by simp[za8,e]) (by decide)
  ·exact key [105,54,52,46,101,113,122] false (by simp[zF,e,t,zw,zvS]) (by simp[za8,e]) (by decide)
 ·exact key [105,51,50,46,119,114,97,112,95,105,54,52] false (by simp[zF,e]) (by simp[za8,e]) (by decide)
 ·exact key [105,54,52,46,101,120,116,101,110,100,95,105,51,50,95,115] false (by simp[zF,e]) (by simp[za8,e]) (by decide)
 ·have k:∀t n:Int,(t=1∨t=2)→(n=1∨¬n=1)→(zA zch (zw t++(if n=1 then [46,108,111,97,100,56,95,115]else [46,108,111,97,100]))).isSome=false:=by
   intro t n ht hn
   rcases ht with rfl|rfl<;>rcases hn with rfl|hn
   ·decide
   ·rw[if_neg hn];decide
   ·decide
   ·rw[if_neg hn];decide
  exact key _ false (by simp only[zF,e];rfl) (by simp[za8,e]) (k w.ty w.n (f3 (by omega)) (by omega))
 ·have k:∀t n:Int,(t=1∨t=2)→(n=1∨¬n=1)→(zA zch (zw t++(if n=1 then [46,115,116,111,114,101,56]else [46,115,116,111,114,101]))).isSome=false:=by
   intro t n ht hn
   rcases ht with rfl|rfl<;>rcases hn with rfl|hn
   ·decide
   ·rw[if_neg hn];decide
   ·decide
   ·rw[if_neg hn];decide
  exact key _ false (by simp only[zF,e];rfl) (by simp[za8,e]) (k w.ty w.n (f3 (by omega)) (by omega))
 ·exact key [99,97,108,108] true (by simp[zF,e]) (by simp[za8,e]) (by decide)
 ·exact key [98,114] true (by simp[zF,e]) (by simp[za8,e]) (by decide)
 ·exact key [98,114,95,105,102] true (by simp[zF,e]) (by simp[za8,e]) (by decide)
 ·exact key [114,101,116,117,114,110] false (by simp[zF,e]) (by simp[za8,e]) (by decide)
 ·exact key [117,110,114,101,97,99,104,97,98,108,101] false (by simp[zF,e]) (by simp[za8,e]) (by decide)
 ·exact key [100,114,111,112] false (by simp[zF,e]) (by simp[za8,e]) (by decide)
theorem zgN(l:List Int):(spT (l.map zw)).length=4*l.length:=by
 induction l with
 | nil=>rfl
 | cons t r ih=>simp only[yaL,spT,yaa,yab,yac,zgM]at *;omega
section
variable {G : Env} {σ : AS} {R : Out → AS → Prop}
theorem zac{σ0 x bs ws}(h:Pw σ0 x bs σ)(hb:bs≠[])(hw:ws.length<1000)(hl:(bs++spT ws).length<2^45)(hR:∀σ' v,Pw σ0 x (bs++spT ws) σ'→PwK x σ σ'→R (.ret v) σ'):zzQ G 63 [.pt 88 2 x 0,.sl (.stat true) 1 (ws.map ycr)] σ R:=by
 have e:=zlq ws hb
 exact zsV h hw (by rw[e];exact hl) (by rw[e];exact hR)
def TpI(σ0:AS)(x:Nat)(bs:List UInt8)(kw:List UInt8)(v:AV)(l:List Int)(σ:AS)(a:Nat→AV)(τ:AS):Prop:=∃(d r:List Int),l=d++r∧a 0=.pt 88 2 x 0∧a 15=v∧a 16=.int .i64 (l.length:Int)∧a 17=.int .i64 (d.length:Int)∧Pw σ0 x (bs++spT (zu::kw::d.map zw)) τ∧PwK x σ τ
theorem zfL{σ0 x bs kw l v}(h:Pw σ0 x bs σ)(hb:bs≠[])(hv:Al.IntsO σ0 v l)(ht:∀t∈l,t=1∨t=2)(hl:(bs++spT (zB kw l)).length<2^45)(hR:∀σ' u,Pw σ0 x (bs++spT (zB kw l)) σ'→PwK x σ σ'→R (.ret u) σ'):zzQ G 65 [.pt 88 2 x 0,.str kw,v] σ R:=by
 refine ztY rfl ?_
 have v1:=hv.one
 have vl:=hv.len
 by_cases h0:l=[]
 ·subst h0
  have e:bs++spT (zB kw [])=bs:=by simp[zB,spT]
  rw[e]at hR
  simp[zC4,vl]
  exact hR _ _ h (.refl ..)
 ·have hne:¬(l.length:Int)=0:=by have:=ybm.2 h0;omega
  have hneN:¬l.length=0:=by omega
  have e:zB kw l=zu::kw::(l.map zw++[zf]):=by unfold zB;rw[if_neg h0]
  have e2:spT (zB kw l)=spT (zu::kw::l.map zw)++spT [zf]:=by rw[e,←zh];rfl
  rw[e2]at hl hR
  simp only[yab]at hl
  have e3:spT (zu::kw::l.map zw)=spT [zu,kw]++spT (l.map zw):=by rw[←zh];rfl
  have hl3:=congrArg yce e3
  simp only[yab]at hl3
  have hlt:=zgN l
  simp[zC4,vl,hne,hneN,h0]
  refine zac (ws:=[zu,kw]) h hb (by simp) (by rw[yab];omega) fun σ1 u1 P1 K1=>?_
  simp[vl]
  refine zae (TpI σ0 x bs kw v l σ) (MU 17 (l.length+1)) ⟨[],l,rfl,by simp,by simp,by simp,by simp,P1,K1⟩ fun a τ hI=>?_
  obtain⟨d,r,hdr,a0,a15,a16,a17,hP,hK⟩:=hI
  have hvt:=hv.keep hP.ad
  cases r with
  | nil =>
   have e5:l=d:=by simpa using hdr
   have e6:l.length=d.length:=by rw[e5]
   rw[e6]at a16
   simp[zkV,a0,a15,a16,a17,zn9]
   refine zac (ws:=[zf]) hP (by simp[hb]) (by simp) (by rw[←e5,yab,yab];omega) fun σ2 u2 P2 K2=>?_
   simp
   refine hR _ _ ?_ (hK.trans K2)
   rw[←e5,ycL]at P2
   exact P2
  | cons t r =>
   have hlt2:d.length<l.length:=by simp[hdr]
   obtain⟨φ,hr,hat⟩:=hvt.at hlt2
   have hr':=hr.read
   have hlt3:(d.length:Int)<(l.length:Int):=by omega
   have hi:l[d.length]=t:=by simp[hdr]
   rw[hi]at hat
   have w1:yb4 .i64 ((d.length:Int)+1)=((d.length+1:Nat):Int):=by rw[wrap_i64]<;>omega
   have htt:=ht t (by rw[hdr];simp)
   have e7:bs++spT (zu::kw::d.map zw)++spT [zw t]=bs++spT (zu::kw::(d++[t]).map zw):=by
    rw[ycL,←zh];simp
   have e8:spT (zu::kw::(d++[t]).map zw)=spT [zu,kw]++spT ((d++[t]).map zw):=by rw[←zh];rfl
   have l8:=congrArg yce e8
   simp only[yab]at l8
   have l9:=zgN (d++[t])
   have l10:(d++[t]).length≤l.length:=by simp;omega
   simp[zkV,a0,a15,a16,a17,hlt2,hlt3,hat,hr',htt]
   refine zdT htt ?_
   simp
   refine zac (ws:=[zw t]) hP (by simp[hb]) (by simp) (by rw[e7,yab];omega) fun σ2 u2 P2 K2=>?_
   simp[a0,a15,a16,a17,w1]
   rw[e7]at P2
   refine⟨⟨d++[t],r,by simp[hdr],by simp[a0],by simp[a15],by simp[a16],by simp,P2,hK.trans K2⟩,?_⟩
   simp[MU,a17];omega
end
theorem zb3(c:Prop)[Decidable c](x y:List UInt8)(h1:x.length≤24)(h2:y.length≤24):(if c then x else y).length≤24:=by split<;>assumption
theorem zo2{w:W}(hf:zce w=true)(hn:zdQ w=false):(zF w).length≤24:=by
 obtain⟨f1,f2,f3,f4,f5⟩:=zlr hf
 have tl:=zgM w.ty
 by_cases e4:w.op=4
 ·have hs:=zeK w.name (f5 e4)
  have e:zF w=zw w.ty++46::w.name:=by simp[zF,e4]
  rw[e]
  simp only[yab,yac,tl]
  omega
 ·unfold zF
  rw[if_neg e4]
  have a:∀x:List UInt8,x.length≤21→(zw w.ty++x).length≤24:=fun x hx=>by rw[yab,tl];omega
  refine zb3 _ _ _ (a _ (by decide)) (zb3 _ _ _ (by decide) (zb3 _ _ _ (by decide) (zb3 _ _ _ (by decide) (zb3 _ _ _ (by decide) (zb3 _ _ _ (by decide) (zb3 _ _ _ (a _ (by decide)) (zb3 _ _ _ (by decide) (zb3 _ _ _ (by decide) (zb3 _ _ _ (a _ ?_) (zb3 _ _ _ (a _ ?_) (zb3 _ _ _ (by decide) (zb3 _ _ _ (by decide) (by decide)))))))))))))
  ·split<;>decide
  ·split<;>decide
theorem zo3{w:W}(hf:zce w=true)(hn:zdQ w=false)(hr:RgW w):(spT (zdR w)).length≤64:=by
 have h1:=zo2 hf hn
 have h2:=Lib.itoa_length_le w.n (by have:=hr.1;omega) (by have:=hr.2;omega)
 unfold zdR
 split
 ·simp[spT];omega
 ·simp[spT];omega
theorem zAa{B:Nat}{ls:To}{d:Nat}{ws:List W}{acc acc':To}{toks:List Tok}{out:List W}(h:PrB B ls d ws acc toks out acc'):(spT toks).length+64*zc2 acc≤64*(out.length+zc2 acc'):=by
 induction h with
 | nil=>simp[spT]
 | leaf h1 h2 h3 _ ih =>
  have:=zo3 h2 h1 h3
  rw[zh,yab,yac]
  omega
 | @one d w b r acc tb b' acc1 t r' acc' _ _ _ _ _ _ ih1 ih2 =>
  have hol:(zaH w.op).length≤5:=by unfold zaH;split<;>(try split)<;>decide
  have e1:zaH w.op::(tb++zbO::t)=[zaH w.op]++(tb++([zbO]++t)):=rfl
  have e2:(spT [zaH w.op]).length=(zaH w.op).length+1:=by simp[spT]
  have e3:(spT [zbO]).length=4:=rfl
  rw[e1,zh,zh,zh]
  rw[zbo]at ih2
  simp only[yab,yac]
  omega
 | @two d w b e r acc tb b' acc1 te e' acc2 t r' acc' _ _ _ _ _ _ _ _ _ ih1 ih2 ih3 =>
  have e1:tIf::(tb++za7::(te++zbO::t))=[tIf]++(tb++([za7]++(te++([zbO]++t)))):=rfl
  have e2:(spT [tIf]).length=3:=rfl
  have e3:(spT [zbO]).length=4:=rfl
  have e4:(spT [za7]).length=5:=rfl
  rw[e1,zh,zh,zh,zh,zh]
  rw[zbo]at ih2 ih3
  simp only[yab,yac]
  omega
theorem zhR(kw:Tok)(l:List Int)(h:kw.length≤6):(spT (zB kw l)).length≤4*l.length+12:=by
 unfold zB
 split
 ·simp[spT]
 ·have e:zu::kw::(l.map zw++[zf])=[zu]++([kw]++(l.map zw++[zf])):=rfl
  have e1:(spT [zu]).length=2:=rfl
  have e2:(spT [zf]).length=2:=rfl
  have e3:(spT [kw]).length=kw.length+1:=by simp[spT]
  rw[e,zh,zh,zh]
  simp only[yab,zgN]
  omega
theorem zG(t:List UInt8):(spT [t]).length=t.length+1:=by simp[spT]
section
variable {G : Env} {σ : AS} {R : Out → AS → Prop}
def zCj(B:Nat)(G:Env)(σ0:AS)(x:Nat)(ls:To)(d:Nat):Prop:=∀(σ:AS) (R:Out→AS→Prop) (fv:AV) (f:F) (i:Int) (ws:List W) (toks:List Tok) (acc:To) (out:List W) (acc':To) (bs:List UInt8),f.lists=ls→Al.FVO σ0 fv f→Pw σ0 x bs σ→bs≠[]→0≤i→ls[i.toNat]?=some ws→PrB B ls d ws acc toks out acc'→(bs++spT toks).length<2^45 →
 (∀σ' u,Pw σ0 x (bs++spT toks) σ'→PwK x σ σ'→R (.ret u) σ')→zzQ G 66 [.pt 88 2 x 0,fv,.int .i64 i] σ R
def LqI(B:Nat)(σ0:AS)(x:Nat)(ls:To)(d:Nat)(fc:List AV)(o:Nat)(rv:AV)(ws:List W)(toks:List Tok)(acc':To)(bs:List UInt8)(σ:AS)(a:Nat→AV)(τ:AS):Prop:=∃(j:Nat) (t1 t2:List Tok) (acc1:To) (out1:List W),j≤ws.length∧toks=t1++t2∧PrB B ls d (ws.drop j) acc1 t2 out1 acc' ∧
 a 0=.pt 88 2 x 0∧a 4=.ptr o 0∧a 14=rv∧a 15=.int .i64 (ws.length:Int)∧a 16=.int .i64 (j:Int)∧Pw σ0 x (bs++spT t1) τ∧PwK x σ τ∧τ.objs o=some fc∧o<τ.no∧o≠x
theorem zls{B:Nat}(V:zbk G){σ0 x ls d}(IH:d<B→zCj B G σ0 x ls (d+1)){f:F}{pv lv tv rv:AV}{ws:List W}{toks:List Tok}{acc':To}{bs:List UInt8}{o:Nat}(hls:f.lists=ls)(hf:Al.FVO σ0 (.agg [.str f.name,pv,lv,.int .i64 f.type,tv]) f)(h1:pv.known=true∧pv.one=true∧pv.cells=[pv])(h2:lv.known=true∧lv.one=true∧lv.cells=[lv])(h3:tv.known=true∧tv.one=true∧tv.cells=[tv])
  (hrv:Al.RepO σ0 rv ws) (hwl:ws.length≤2^40) (hb:bs≠[]) (hl:(bs++spT toks).length<2^45) (hR:∀σ' u,Pw σ0 x (bs++spT toks) σ'→PwK x σ σ'→R (.ret u) σ') {a:Nat→AV} {τ:AS} (hI:LqI B σ0 x ls d [.str f.name,pv,lv,.int .i64 f.type,tv] o rv ws toks acc' bs σ a τ) :
  avc yb9 G 75 zcU (zbr (fun a' σ'=>LqI B σ0 x ls d [.str f.name,pv,lv,.int .i64 f.type,tv] o rv ws toks acc' bs σ a' σ'∧MU 16 (ws.length+1) a' σ'<MU 16 (ws.length+1) a τ) (zbe 0 (zg5 yb9 [] R))) a τ:=by
 obtain⟨j,t1,t2,acc1,out1,hj,ht,hpr,a0,a4,a14,a15,a16,hP,hK,ho,hon,hox⟩:=hI
 by_cases hlt:j<ws.length
 ·have hdrop:ws.drop j=ws[j]::ws.drop (j+1):=ycu hlt
  have hrt:=hrv.keep hP.ad
  obtain⟨φ,hr,hat⟩:=RepO.at hrt hlt
  have hr':=hr.read
  have hlti:(j:Int)<(ws.length:Int):=by omega
  have w1:yb4 .i64 ((j:Int)+1)=((j+1:Nat):Int):=by rw[wrap_i64]<;>omega
  rw[hdrop]at hpr
  generalize hw:ws[j]=w at *
  have A1:zg τ ((τ.newO zbm.cs).setO τ.no w.cs):=(zg.refl τ).newO.setO (yah _)
  have hP1:=hP.adds A1
  have K1:=hK.trans A1.pwk
  have o1:((τ.newO zbm.cs).setO τ.no w.cs).objs τ.no=some w.cs:=by simp
  have ho1:=(A1.obj o hon).trans ho
  have n1:((τ.newO zbm.cs).setO τ.no w.cs).no=τ.no+1:=by simp
  have hx:=hP.hx
  have hqx:τ.no≠x:=by omega
  have hbt:bs++spT t1≠[]:=by simp[hb]
  have hlt1:(bs++spT toks).length=bs.length+(spT t1).length+(spT t2).length:=by rw[ht,zh];simp only[yab];omega
  simp only[W.cs,zbm]at A1 o1 hP1 K1 ho1 n1
  have fin:∀(a':Nat→AV) (τ':AS) (t2a t2b:List Tok) (acc2 out2),t2=t2a++t2b→PrB B ls d (ws.drop (j+1)) acc2 t2b out2 acc'→Pw σ0 x (bs++spT t1++spT t2a) τ'→PwK x σ τ'→τ'.objs o=some [.str f.name,pv,lv,.int .i64 f.type,tv]→o<τ'.no→a' 0=.pt 88 2 x 0→a' 4=.ptr o 0→a' 14=rv→a' 15=.int .i64 (ws.length:Int)→a' 16=.int .i64 ((j+1:Nat):Int) →
    LqI B σ0 x ls d [.str f.name,pv,lv,.int .i64 f.type,tv] o rv ws toks acc' bs σ a' τ'∧MU 16 (ws.length+1) a' τ'<MU 16 (ws.length+1) a τ:=by
   intro a' τ' t2a t2b acc2 out2 q1 q2 q3 q4 q5 q6 q7 q8 q9 q10 q11
   refine⟨⟨j+1,t1++t2a,t2b,acc2,out2,hlt,by rw[ht,q1,ycL],q2,q7,q8,q9,q10,q11,?_,q4,q5,q6,hox⟩,?_⟩
   ·rw[zh,←ycL];exact q3
   ·simp[MU,a16,q11];omega
  cases hpr with
  | @leaf _ _ _ _ t r' _ hn hform hrg hpr' =>
   have hn':¬w.op=11∧¬w.op=12∧¬w.op=13:=by simpa [zdQ,and_assoc]using hn
   simp[zcU,a0,a4,a14,a15,a16,hlt,hlti,hat,hr',W.av,W.cs,splice,hn']
   generalize (τ.newO [ycs .i64 0,ycs .i64 0,ycs .i64 0,ycs .i64 0,ycs .i64 0,ycr []]).setO τ.no [ycs .i64 w.op,ycs .i64 w.ty,ycs .i64 w.n,ycs .i64 w.body,ycs .i64 w.other,ycr w.name]=τ1 at *
   have hsp:(spT (zdR w++t)).length=(spT (zdR w)).length+(spT t).length:=by rw[zh,yab]
   refine zo0 hform hn fun τ2 A2=>?_
   have n2:=A2.no
   have lw:(zF w).length+1≤(spT (zdR w)).length:=by
    unfold zdR
    split
    ·simp[spT]
    ·simp[spT]
   simp[a0]
   refine zac (ws:=[zF w]) (hP1.adds A2) hbt (by simp) (by rw[yab,yab,zG];omega) fun τ3 u3 P3 K3=>?_
   have n3:=K3.no
   have q3:=(K3.obj τ.no (by omega) hqx).trans ((A2.obj τ.no (by omega)).trans o1)
   have r3:=(K3.obj o (by omega) hox).trans ((A2.obj o (by omega)).trans ho1)
   have K13:=(K1.trans A2.pwk).trans K3
   simp[q3]
   refine zo0 hform hn fun τ4 A4=>?_
   simp
   refine zhO fun τ5 A5=>?_
   have A45:=A4.trans A5
   have n5:=A45.no
   have q5:=(A45.obj τ.no (by omega)).trans q3
   have r5:=(A45.obj o (by omega)).trans r3
   have P5:=P3.adds A45
   have K15:=K13.trans A45.pwk
   have hnum:=zo1 hform hn
   cases hfd:zA zch (zF w)with
   | none =>
    rw[hfd]at hnum
    have hnum':za8 w=false:=hnum.symm
    have e1:zdR w=[zF w]:=by unfold zdR;rw[hnum'];rfl
    have A6:zg τ5 ((τ5.newO [ycs .i64 0,ycs .i64 0,ycs .i64 0,ycs .i64 0,ycs .i64 0,ycr []]).setO τ5.no [ycs .i64 0,ycs .i64 0,ycs .i64 0,ycs .i64 0,ycs .i64 0,ycr []]):=(zg.refl τ5).newO.setO (yah _)
    simp[W.av,W.cs,zbm,splice,a0,a4,a14,a15,a16,w1]
    refine fin _ _ [zF w] t acc1 r' (by rw[e1]) hpr' (P5.adds A6) (K15.trans A6.pwk) ((A6.obj o (by omega)).trans r5) (by simp;omega) (by simp[a0]) (by simp[a4]) (by simp[a14]) (by simp[a15]) (by simp)
   | some w' =>
    rw[hfd]at hnum
    have hnum':za8 w=true:=hnum.symm
    have e1:zdR w=[zF w,Lib.itoa w.n]:=by unfold zdR;rw[hnum'];rfl
    have A6:zg τ5 ((τ5.newO [ycs .i64 0,ycs .i64 0,ycs .i64 0,ycs .i64 0,ycs .i64 0,ycr []]).setO τ5.no w'.cs):=(zg.refl τ5).newO.setO (yah _)
    have P6:=P5.adds A6
    have K16:=K15.trans A6.pwk
    have q6:=(A6.obj τ.no (by omega)).trans q5
    have r6:=(A6.obj o (by omega)).trans r5
    have n6:=A6.no
    have hqn:¬τ.no=τ5.no:=by omega
    simp only[W.cs]at A6 P6 K16 q6 r6 n6
    simp[W.av,W.cs,splice,a0,q5,hqn]
    generalize (τ5.newO [ycs .i64 0,ycs .i64 0,ycs .i64 0,ycs .i64 0,ycs .i64 0,ycr []]).setO τ5.no [ycs .i64 w'.op,ycs .i64 w'.ty,ycs .i64 w'.n,ycs .i64 w'.body,ycs .i64 w'.other,ycr w'.name]=τ6 at *
    refine zdk V hrg ?_
    simp
    have l2:(spT (zdR w)).length=(zF w).length+1+((Lib.itoa w.n).length+1):=by rw[e1];simp[spT];omega
    refine zac (ws:=[Lib.itoa w.n]) P6 (by simp[hb]) (by simp) (by rw[yab,yab,yab,zG,zG];omega) fun τ7 u7 P7 K7=>?_
    have n7:=K7.no
    simp[a0,a4,a14,a15,a16,w1]
    refine fin _ _ [zF w,Lib.itoa w.n] t acc1 r' (by rw[e1]) hpr' ?_ (K16.trans K7) ((K7.obj o (by omega) hox).trans r6) (by omega) (by simp[a0]) (by simp[a4]) (by simp[a14]) (by simp[a15]) (by simp)
    have e2:spT [zF w,Lib.itoa w.n]=spT [zF w]++spT [Lib.itoa w.n]:=by rw[←zh];rfl
    rw[e2,←ycL]
    exact P7
  | @one _ _ b _ _ tb b' acc2 t r' _ hop hd hb0 hbs hpb hpr' =>
   have hnest:w.op=11∨w.op=12∨w.op=13:=by omega
   have hcond:¬(w.op=13∧0≤w.other):=by omega
   have hol:(zaH w.op).length≤5:=by unfold zaH;split<;>(try split)<;>decide
   have hsp:(spT (zaH w.op::(tb++zbO::t))).length=(zaH w.op).length+1+((spT tb).length+(4+(spT t).length)):=by
    have e1:zaH w.op::(tb++zbO::t)=[zaH w.op]++(tb++([zbO]++t)):=rfl
    rw[e1,zh,zh,zh]
    simp only[yab,zG]
    rfl
   rcases hnest with e|e|e
   ·obtain⟨op,ty,n,body,other,name⟩:=w
    dsimp only at *
    subst e
    have wb:((body.toNat:Nat):Int)=body:=by omega
    simp[zcU,a0,a4,a14,a15,a16,hlt,hlti,hat,hr',W.av,W.cs,splice]
    generalize (τ.newO [ycs .i64 0,ycs .i64 0,ycs .i64 0,ycs .i64 0,ycs .i64 0,ycr []]).setO τ.no [ycs .i64 11,ycs .i64 ty,ycs .i64 n,ycs .i64 body,ycs .i64 other,ycr name]=τ1 at *
    refine ziZ (by omega) ?_
    simp
    refine zac (ws:=[zaH 11]) hP1 hbt (by simp) (by rw[yab,yab,zG];omega) fun τ2 u2 P2 K2=>?_
    have n2:=K2.no
    have q2:=(K2.obj τ.no (by omega) hqx).trans o1
    have r2:=(K2.obj o (by omega) hox).trans ho1
    simp[a0,a4,q2,r2]
    refine IH hd τ2 _ _ f body b tb _ _ _ _ hls hf P2 (by simp[hb]) hb0 hbs hpb (by rw[yab,yab,yab,zG];omega) fun τ3 u3 P3 K3=>?_
    have n3:=K3.no
    have q3:=(K3.obj τ.no (by omega) hqx).trans q2
    have r3:=(K3.obj o (by omega) hox).trans r2
    simp[a0,q3]
    refine zac (ws:=[zbO]) P3 (by simp[hb]) (by simp) (by rw[yab,yab,yab,yab,zG,zG];have:zbO.length=3:=rfl;omega) fun τ4 u4 P4 K4=>?_
    have n4:=K4.no
    simp[a0,a4,a14,a15,a16,w1]
    refine fin _ _ ([zaH 11]++tb++[zbO]) t (acc2++[b']) r' (by simp) hpr' ?_ (((K1.trans K2).trans K3).trans K4) ((K4.obj o (by omega) hox).trans r3) (by omega) (by simp[a0]) (by simp[a4]) (by simp[a14]) (by simp[a15]) (by simp)
    rw[zh,zh]
    simpa [ycL]using P4
   ·obtain⟨op,ty,n,body,other,name⟩:=w
    dsimp only at *
    subst e
    have wb:((body.toNat:Nat):Int)=body:=by omega
    simp[zcU,a0,a4,a14,a15,a16,hlt,hlti,hat,hr',W.av,W.cs,splice]
    generalize (τ.newO [ycs .i64 0,ycs .i64 0,ycs .i64 0,ycs .i64 0,ycs .i64 0,ycr []]).setO τ.no [ycs .i64 12,ycs .i64 ty,ycs .i64 n,ycs .i64 body,ycs .i64 other,ycr name]=τ1 at *
    refine ziZ (by omega) ?_
    simp
    refine zac (ws:=[zaH 12]) hP1 hbt (by simp) (by rw[yab,yab,zG];omega) fun τ2 u2 P2 K2=>?_
    have n2:=K2.no
    have q2:=(K2.obj τ.no (by omega) hqx).trans o1
    have r2:=(K2.obj o (by omega) hox).trans ho1
    simp[a0,a4,q2,r2]
    refine IH hd τ2 _ _ f body b tb _ _ _ _ hls hf P2 (by simp[hb]) hb0 hbs hpb (by rw[yab,yab,yab,zG];omega) fun τ3 u3 P3 K3=>?_
    have n3:=K3.no
    have q3:=(K3.obj τ.no (by omega) hqx).trans q2
    have r3:=(K3.obj o (by omega) hox).trans r2
    simp[a0,q3]
    refine zac (ws:=[zbO]) P3 (by simp[hb]) (by simp) (by rw[yab,yab,yab,yab,zG,zG];have:zbO.length=3:=rfl;omega) fun τ4 u4 P4 K4=>?_
    have n4:=K4.no
    simp[a0,a4,a14,a15,a16,w1]
    refine fin _ _ ([zaH 12]++tb++[zbO]) t (acc2++[b']) r' (by simp) hpr' ?_ (((K1.trans K2).trans K3).trans K4) ((K4.obj o (by omega) hox).trans r3) (by omega) (by simp[a0]) (by simp[a4]) (by simp[a14]) (by simp[a15]) (by simp)
    rw[zh,zh]
    simpa [ycL]using P4
   ·obtain⟨op,ty,n,body,other,name⟩:=w
    dsimp only at *
    subst e
    have hno:¬0≤other:=by omega
    have wb:((body.toNat:Nat):Int)=body:=by omega
    simp[zcU,a0,a4,a14,a15,a16,hlt,hlti,hat,hr',W.av,W.cs,splice]
    generalize (τ.newO [ycs .i64 0,ycs .i64 0,ycs .i64 0,ycs .i64 0,ycs .i64 0,ycr []]).setO τ.no [ycs .i64 13,ycs .i64 ty,ycs .i64 n,ycs .i64 body,ycs .i64 other,ycr name]=τ1 at *
    refine ziZ (by omega) ?_
    simp
    refine zac (ws:=[zaH 13]) hP1 hbt (by simp) (by rw[yab,yab,zG];omega) fun τ2 u2 P2 K2=>?_
    have n2:=K2.no
    have q2:=(K2.obj τ.no (by omega) hqx).trans o1
    have r2:=(K2.obj o (by omega) hox).trans ho1
    simp[a0,a4,q2,r2]
    refine IH hd τ2 _ _ f body b tb _ _ _ _ hls hf P2 (by simp[hb]) hb0 hbs hpb (by rw[yab,yab,yab,zG];omega) fun τ3 u3 P3 K3=>?_
    have n3:=K3.no
    have q3:=(K3.obj τ.no (by omega) hqx).trans q2
    have r3:=(K3.obj o (by omega) hox).trans r2
    simp[a0,q3,hno]
    refine zac (ws:=[zbO]) P3 (by simp[hb]) (by simp) (by rw[yab,yab,yab,yab,zG,zG];have:zbO.length=3:=rfl;omega) fun τ4 u4 P4 K4=>?_
    have n4:=K4.no
    simp[a0,a4,a14,a15,a16,w1]
    refine fin _ _ ([zaH 13]++tb++[zbO]) t (acc2++[b']) r' (by simp) hpr' ?_ (((K1.trans K2).trans K3).trans K4) ((K4.obj o (by omega) hox).trans r3) (by omega) (by simp[a0]) (by simp[a4]) (by simp[a14]) (by simp[a15]) (by simp)
    rw[zh,zh]
    simpa [ycL]using P4
  | @two _ _ b e _ _ tb b' acc2 te e' acc3 t r' _ hop hot hd hb0 hbs hes hpb hpe hpr' =>
   have hsp:(spT (tIf::(tb++za7::(te++zbO::t)))).length=3+((spT tb).length+(5+((spT te).length+(4+(spT t).length)))):=by
    have e1:tIf::(tb++za7::(te++zbO::t))=[tIf]++(tb++([za7]++(te++([zbO]++t)))):=rfl
    rw[e1,zh,zh,zh,zh,zh]
    simp only[yab,zG]
    rfl
   obtain⟨op,ty,n,body,other,name⟩:=w
   dsimp only at *
   subst hop
   have hoi:(zaH 13)=tIf:=rfl
   simp[zcU,a0,a4,a14,a15,a16,hlt,hlti,hat,hr',W.av,W.cs,splice]
   generalize (τ.newO [ycs .i64 0,ycs .i64 0,ycs .i64 0,ycs .i64 0,ycs .i64 0,ycr []]).setO τ.no [ycs .i64 13,ycs .i64 ty,ycs .i64 n,ycs .i64 body,ycs .i64 other,ycr name]=τ1 at *
   refine ziZ (by omega) ?_
   rw[hoi]
   simp
   refine zac (ws:=[tIf]) hP1 hbt (by simp) (by rw[yab,yab,zG];have:tIf.length=2:=rfl;omega) fun τ2 u2 P2 K2=>?_
   have n2:=K2.no
   have q2:=(K2.obj τ.no (by omega) hqx).trans o1
   have r2:=(K2.obj o (by omega) hox).trans ho1
   simp[a0,a4,q2,r2]
   refine IH hd τ2 _ _ f body b tb _ _ _ _ hls hf P2 (by simp[hb]) hb0 hbs hpb (by rw[yab,yab,yab,zG];have:tIf.length=2:=rfl;omega) fun τ3 u3 P3 K3=>?_
   have n3:=K3.no
   have q3:=(K3.obj τ.no (by omega) hqx).trans q2
   have r3:=(K3.obj o (by omega) hox).trans r2
   simp[a0,q3,hot]
   refine zac (ws:=[za7]) P3 (by simp[hb]) (by simp) (by rw[yab,yab,yab,yab,zG,zG];have:za7.length=4:=rfl;have:tIf.length=2:=rfl;omega) fun τ4 u4 P4 K4=>?_
   have n4:=K4.no
   have q4:=(K4.obj τ.no (by omega) hqx).trans q3
   have r4:=(K4.obj o (by omega) hox).trans r3
   simp[a0,a4,q4,r4]
   refine IH hd τ4 _ _ f other e te _ _ _ _ hls hf P4 (by simp[hb]) hot hes hpe (by rw[yab,yab,yab,yab,yab,zG,zG];have:za7.length=4:=rfl;have:tIf.length=2:=rfl;omega) fun τ5 u5 P5 K5=>?_
   have n5:=K5.no
   have r5:=(K5.obj o (by omega) hox).trans r4
   simp[a0]
   refine zac (ws:=[zbO]) P5 (by simp[hb]) (by simp) (by rw[yab,yab,yab,yab,yab,yab,zG,zG,zG];have:za7.length=4:=rfl;have:tIf.length=2:=rfl;have:zbO.length=3:=rfl;omega) fun τ6 u6 P6 K6=>?_
   have n6:=K6.no
   simp[a0,a4,a14,a15,a16,w1]
   refine fin _ _ ([tIf]++tb++[za7]++te++[zbO]) t (acc3++[e']) r' (by simp) hpr' ?_ (((((K1.trans K2).trans K3).trans K4).trans K5).trans K6) ((K6.obj o (by omega) hox).trans r5) (by omega) (by simp[a0]) (by simp[a4]) (by simp[a14]) (by simp[a15]) (by simp)
   rw[zh,zh,zh,zh]
   simpa [ycL]using P6
 ·have e:j=ws.length:=by omega
  rw[ycG (by omega)]at hpr
  cases hpr
  rw[yb7]at ht
  subst ht
  simp[zcU,a0,a4,a14,a15,a16,e]
  exact hR _ _ hP hK
theorem zhS{B:Nat}(V:zbk G){σ0 x ls d}(hsz:∀ws∈ls,ws.length≤2^40)(IH:d<B→zCj B G σ0 x ls (d+1)):zCj B G σ0 x ls d:=by
 intro σ R fv f i ws toks acc out acc' bs hls hf hP hb hi hws hpr hl hR
 have hf0:=hf
 obtain⟨pv,lv,tv,rfl,i1,i2,i3⟩:=hf
 have h1:=i1.one
 have h2:=i2.one
 have h3:=i3.one
 obtain⟨hlt,hget⟩:=yaq.1 hws
 have hwl:=hsz ws (ycx hws)
 have i3t:=i3.keep hP.ad
 rw[←hls]at hlt
 obtain⟨φ,rv,hr,hrv,hat⟩:=i3.at hlt
 obtain⟨φ',rv',hr',hrv',hat'⟩:=i3t.at hlt
 subst hls
 rw[hget]at hrv hrv'
 refine ztZ rfl ?_
 have wi:((i.toNat:Nat):Int)=i:=by omega
 rw[wi]at hat hat'
 have hsame:ydd φ' rv'=ydd φ rv:=by
  have q1:=hat fun v=>v=ydd φ rv
  have q2:=hat' fun v=>v=ydd φ rv
  rw[←q2,q1]
 injection hsame with hs1 hs2
 subst hs1 hs2
 have hrd:=hr'.read
 have v1:=hrv'.one
 have vl:=RepO.len hrv'
 have hx:=hP.hx
 simp[zEb,h1,h2,h3,hat',hrd,v1,vl]
 have A:zg σ (σ.newO [.str f.name,pv,lv,.int .i64 f.type,tv]):=(zg.refl σ).newO
 refine zae (LqI B σ0 x f.lists d [.str f.name,pv,lv,.int .i64 f.type,tv] σ.no rv' ws toks acc' bs σ) (MU 16 (ws.length+1)) ⟨0,[],toks,acc,out,Nat.zero_le _,rfl,by simpa using hpr,by simp,by simp,by simp,by simp,by simp,by simpa [spT]using hP.adds A,A.pwk,by simp,by simp,by omega⟩ fun a τ hI=>?_
 exact zls V IH rfl hf0 h1 h2 h3 hrv hwl hb hl hR hI
theorem zgO{B:Nat}(V:zbk G){σ0 x ls}(hsz:∀ws∈ls,ws.length≤2^40):∀k d:Nat,B≤d+k→zCj B G σ0 x ls d
 | 0,d,hd=>zhS V hsz (fun h=>by omega)
 | k+1,d,hd=>zhS V hsz (fun _=>zgO V hsz k (d+1) (by omega))
end
theorem zrH:spT zbB=32::za5:=by decide
theorem zo4(t:Int)(h:t≠0):zB zcY [t]=ziQ t:=by
 unfold zB ziQ
 rw[if_neg (by simp),if_neg h]
 rfl
section
variable {G : Env} {σ : AS} {R : Out → AS → Prop}
def FlI(B:Nat)(σ0:AS)(x mo:Nat)(fv:AV)(m:M)(toks:List Tok)(bs:List UInt8)(a:Nat→AV)(τ:AS):Prop:=∃(j:Nat) (t1 t2:List Tok) (fs2:List F),j≤m.funcs.length∧toks=t1++t2∧PrFsB B (m.funcs.drop j) t2 fs2∧a 1=.ptr mo 0∧a 3=.pt 88 2 x 0∧a 15=fv∧a 16=.int .i64 (m.funcs.length:Int)∧a 17=.int .i64 (j:Int) ∧
 Pw σ0 x (bs++spT t1) τ∧τ.objs mo=some [fv,.int .i64 m.memory,.int .i64 m.main]∧mo<τ.no∧mo≠x
theorem znk{B:Nat}(V:zbk G){σ0 x mo fv}{m:M}{toks:List Tok}{bs:List UInt8}{mx:Nat}(hfv:Al.FsO σ0 fv m.funcs)(hf:∀f∈m.funcs,Pf mx f)(hmx:mx≤1000)(hsz:∀f∈m.funcs,f.lists.length≤2^40∧∀ws∈f.lists,ws.length≤2^40)(hfl:m.funcs.length≤2^40)(hb:bs≠[])(hl:(bs++spT toks).length<2^44)
  (fin:∀(a:Nat→AV) (τ:AS),a 1=.ptr mo 0→a 3=.pt 88 2 x 0→Pw σ0 x (bs++spT toks) τ→τ.objs mo=some [fv,.int .i64 m.memory,.int .i64 m.main]→avc yb9 G 66 zil (zg5 yb9 [.tmp 2] R) a τ) {a:Nat→AV} {τ:AS} (hI:FlI B σ0 x mo fv m toks bs a τ) :
  avc yb9 G 66 zik (zbr (fun a' σ'=>FlI B σ0 x mo fv m toks bs a' σ'∧MU 17 (m.funcs.length+1) a' σ'<MU 17 (m.funcs.length+1) a τ) (zbe 0 (zbr (avc yb9 G 66 zil (zg5 yb9 [.tmp 2] R)) (zg5 yb9 [.tmp 2] R)))) a τ:=by
 obtain⟨j,t1,t2,fs2,hj,ht,hpr,a1,a3,a15,a16,a17,hP,hmo,hmon,hmox⟩:=hI
 by_cases hlt:j<m.funcs.length
 ·have hdrop:m.funcs.drop j=m.funcs[j]::m.funcs.drop (j+1):=ycu hlt
  have hmem:m.funcs[j]∈m.funcs:=yaw hlt
  have hft:=hfv.keep hP.ad
  obtain⟨φ0,row0,hr0,hrow0,hat0⟩:=hfv.at hlt
  obtain⟨φ,row,hr,hrow,hat⟩:=hft.at hlt
  have hsame:ydd φ row=ydd φ0 row0:=by
   have q1:=hat0 fun v=>v=ydd φ0 row0
   have q2:=hat fun v=>v=ydd φ0 row0
   rw[←q2,q1]
  injection hsame with hs1 hs2
  subst hs1 hs2
  have hr':=hr.read
  have hlti:(j:Int)<(m.funcs.length:Int):=by omega
  have w1:yb4 .i64 ((j:Int)+1)=((j+1:Nat):Int):=by rw[wrap_i64]<;>omega
  rw[hdrop]at hpr
  generalize hw:m.funcs[j]=f at *
  have hpf:=hf f hmem
  have hszf:=hsz f hmem
  obtain⟨pv,lv,tv,rfl,i1,i2,i3⟩:=id hrow0
  have p1:=i1.one
  have p2:=i2.one
  have p3:=i3.one
  have i3len:=i3.len
  have hnl:f.name.length≤1000:=by
   have:=hpf.name
   unfold zgU at this
   split at this
   ·cases this
   ·rename_i c r _
    simp only[Bool.and_eq_true,decide_eq_true_eq]at this
    omega
  have hlt1:(bs++spT toks).length=bs.length+(spT t1).length+(spT t2).length:=by rw[ht,zh];simp only[yab];omega
  simp[zik,a1,a3,a15,a16,a17,hlt,hlti,hat,hr',p1,p2,p3,splice]
  have A1:zg τ ((τ.newO [.str [],.nilsl,.nilsl,.int .i64 0,.nilsl]).setO τ.no [.str f.name,pv,lv,.int .i64 f.type,tv]):=(zg.refl τ).newO.setO (yah _)
  have q1:((τ.newO [.str [],.nilsl,.nilsl,.int .i64 0,.nilsl]).setO τ.no [.str f.name,pv,lv,.int .i64 f.type,tv]).objs τ.no=some [.str f.name,pv,lv,.int .i64 f.type,tv]:=by simp
  have n1:((τ.newO [.str [],.nilsl,.nilsl,.int .i64 0,.nilsl]).setO τ.no [.str f.name,pv,lv,.int .i64 f.type,tv]).no=τ.no+1:=by simp
  have hP1:=hP.adds A1
  have hx:=hP.hx
  have hqx:τ.no≠x:=by omega
  have m1:=(A1.obj mo hmon).trans hmo
  refine⟨by omega,?_⟩
  generalize (τ.newO [.str [],.nilsl,.nilsl,.int .i64 0,.nilsl]).setO τ.no [.str f.name,pv,lv,.int .i64 f.type,tv]=τ1 at *
  cases hpr with
  | @cons _ _ tf ls' ts fs' hpF hprs =>
  obtain⟨row,out,acc,h1,h2,_⟩:=hpF
  have hl1:f.lists.length-1<f.lists.length:=(yaq.1 h1).1
  have wl:yb4 .i64 ((f.lists.length:Int)-1)=((f.lists.length-1:Nat):Int):=by
   have:=hszf.1
   rw[wrap_i64]<;>omega
  have hl0:(0:Int)≤((f.lists.length-1:Nat):Int):=by omega
  have hln:((f.lists.length-1:Nat):Int).toNat=f.lists.length-1:=by omega
  have hft1:spT (zgw f tf)=spT [zu,za6,36::f.name]++spT (zB zbg f.params)++spT (ziQ f.type)++spT (zB zat f.locals)++spT tf++spT [zf]:=by
   have:zgw f tf=[zu,za6,36::f.name]++zB zbg f.params++ziQ f.type++zB zat f.locals++tf++[zf]:=by simp[zgw]
   rw[this,zh,zh,zh,zh,zh]
  have hl2:(spT (zgw f tf++ts)).length=(spT [zu,za6,36::f.name]).length+(spT (zB zbg f.params)).length+(spT (ziQ f.type)).length+(spT (zB zat f.locals)).length+(spT tf).length+(spT [zf]).length+(spT ts).length:=by
   rw[zh,hft1]
   simp only[yab]
  refine zac (ws:=[zu,za6,36::f.name]) hP1 (by simp[hb]) (by simp) (by simp only[yab];omega) fun τ2 u2 P2 K2=>?_
  have n2:=K2.no
  have q2:=(K2.obj τ.no (by omega) hqx).trans q1
  have m2:=(K2.obj mo (by omega) hmox).trans m1
  simp[q2,a3,p1]
  refine zfL (kw:=zbg) P2 (by simp[hb]) i1 hpf.params (by simp only[yab];omega) fun τ3 u3 P3 K3=>?_
  have n3:=K3.no
  have q3:=(K3.obj τ.no (by omega) hqx).trans q2
  have m3:=(K3.obj mo (by omega) hmox).trans m2
  by_cases hty:f.type=0
  ·have hrz:ziQ f.type=[]:=by unfold ziQ;rw[if_pos hty]
   have hty':(f.type=0)=True:=eq_true hty
   simp[q3,a3,hty']
   have P4:=P3
   have K4:=PwK.refl x τ3
   have q4:=q3
   have m4:=m3
   have e4:bs++spT t1++spT [zu,za6,36::f.name]++spT (zB zbg f.params)=bs++spT t1++spT [zu,za6,36::f.name]++spT (zB zbg f.params)++spT (ziQ f.type):=by rw[hrz];simp[spT]
   rw[e4]at P4
   generalize hτ4:τ3=τ4 at *
   simp[q4,a3]
   refine zfL (kw:=zat) P4 (by simp[hb]) i2 hpf.locals (by simp only[yab];omega) fun τ5 u5 P5 K5=>?_
   have n5:=K5.no
   have q5:=(K5.obj τ.no (by omega) hqx).trans q4
   have m5:=(K5.obj mo (by omega) hmox).trans m4
   simp[q5,a3,i3len,wl]
   refine zgO (B:=B) V (x:=x) hszf.2 B 0 (by omega) τ5 _ _ f _ row tf [] out acc _ rfl hrow0 P5 (by simp[hb]) hl0 (by rw[hln];exact h1) h2 (by simp only[yab];omega) fun τ6 u6 P6 K6=>?_
   have n6:=K6.no
   have m6:=(K6.obj mo (by omega) hmox).trans m5
   simp[a3]
   refine zac (ws:=[zf]) P6 (by simp[hb]) (by simp) (by simp only[yab];omega) fun τ7 u7 P7 K7=>?_
   have n7:=K7.no
   have m7:=(K7.obj mo (by omega) hmox).trans m6
   simp[a1,a3,a15,a16,a17,w1]
   refine⟨⟨j+1,t1++zgw f tf,ts,fs',hlt,by rw[ht,ycL],hprs,by simp[a1],by simp[a3],by simp[a15],by simp[a16],by simp,?_,m7,by omega,hmox⟩,?_⟩
   ·rw[zh,hft1]
    simpa [ycL]using P7
   ·simp[MU,a17];omega
  ·have hrz:=zo4 f.type hty
   have hty':(f.type=0)=False:=eq_false hty
   have htt:∀t∈[f.type],t=1∨t=2:=by
    intro t ht
    simp only[ycF]at ht
    subst ht
    have:=hpf.type
    omega
   simp[q3,a3,hty']
   refine zfL (kw:=zcY) (l:=[f.type]) P3 (by simp[hb]) (.inr ⟨.stat true,rfl,trivial⟩) htt (by rw[hrz];simp only[yab];omega) fun τ4 u4 P4 K4=>?_
   rw[hrz]at P4
   have n4:=K4.no
   have q4:=(K4.obj τ.no (by omega) hqx).trans q3
   have m4:=(K4.obj mo (by omega) hmox).trans m3
   simp[q4,a3]
   refine zfL (kw:=zat) P4 (by simp[hb]) i2 hpf.locals (by simp only[yab];omega) fun τ5 u5 P5 K5=>?_
   have n5:=K5.no
   have q5:=(K5.obj τ.no (by omega) hqx).trans q4
   have m5:=(K5.obj mo (by omega) hmox).trans m4
   simp[q5,a3,i3len,wl]
   refine zgO (B:=B) V (x:=x) hszf.2 B 0 (by omega) τ5 _ _ f _ row tf [] out acc _ rfl hrow0 P5 (by simp[hb]) hl0 (by rw[hln];exact h1) h2 (by simp only[yab];omega) fun τ6 u6 P6 K6=>?_
   have n6:=K6.no
   have m6:=(K6.obj mo (by omega) hmox).trans m5
   simp[a3]
   refine zac (ws:=[zf]) P6 (by simp[hb]) (by simp) (by simp only[yab];omega) fun τ7 u7 P7 K7=>?_
   have n7:=K7.no
   have m7:=(K7.obj mo (by omega) hmox).trans m6
   simp[a1,a3,a15,a16,a17,w1]
   refine⟨⟨j+1,t1++zgw f tf,ts,fs',hlt,by rw[ht,ycL],hprs,by simp[a1],by simp[a3],by simp[a15],by simp[a16],by simp,?_,m7,by omega,hmox⟩,?_⟩
   ·rw[zh,hft1]
    simpa [ycL]using P7
   ·simp[MU,a17];omega
 ·have e:j=m.funcs.length:=by omega
  rw[ycG (by omega)]at hpr
  cases hpr
  rw[yb7]at ht
  subst ht
  simp[zik,a1,a3,a15,a16,a17,e]
  exact fin _ _ (by simp[a1]) (by simp[a3]) hP hmo
theorem zlt(m:M)(toks:List Tok):zhg (zcm m toks)=za5++spT [Lib.itoa m.memory,zf,zf]++spT toks++spT [zu,zbM,zg8,zu,za6,Lib.itoa (yb4 .i64 (m.main+3)),zf,zf,zf]++[10]:=by
 have e:zcm m toks=zbB++[Lib.itoa m.memory,zf,zf]++toks++[zu,zbM,zg8,zu,za6,Lib.itoa (yb4 .i64 (m.main+3)),zf,zf,zf]:=by simp[zcm,zsJ]
 unfold zhg
 rw[zml,e,zh,zh,zh,zrH]
 simp only[yct,List.tail_cons]
theorem zo5{B:Nat}(V:zbk G){m:M}{mv:AV}{toks:List Tok}{fs2:List F}{mx:Nat}(hm:Al.MO σ mv m)(hpr:PrFsB B m.funcs toks fs2)(hf:∀f∈m.funcs,Pf mx f)(hmx:mx≤1000)(hsz:∀f∈m.funcs,f.lists.length≤2^40∧∀ws∈f.lists,ws.length≤2^40)(hfl:m.funcs.length≤2^40)
  (hmem:-(2^63)≤m.memory∧m.memory<2^63) (hl:(zhg (zcm m toks)).length<2^43) (h:∀σ',zg σ σ'→R (.ret (.str (zhg (zcm m toks)))) σ'):zzQ G 20 [mv] σ R:=by
 refine ztK rfl ?_
 obtain⟨fv,rfl,hfv⟩:=hm
 have f1:=hfv.one
 have fl:=hfv.len
 rw[zlt]at hl
 simp only[yab]at hl
 simp[zD1,f1]
 have A1:zg σ ((σ.newO [fv,.int .i64 m.memory,.int .i64 m.main]).newO [.nilp,.nilsl]):=(zg.refl σ).newO.newO
 have m1:((σ.newO [fv,.int .i64 m.memory,.int .i64 m.main]).newO [.nilp,.nilsl]).objs σ.no=some [fv,.int .i64 m.memory,.int .i64 m.main]:=by
  have:¬σ.no=σ.no+1:=by omega
  simp[this]
 have p1:((σ.newO [fv,.int .i64 m.memory,.int .i64 m.main]).newO [.nilp,.nilsl]).objs (σ.no+1)=some [.nilp,.nilsl]:=by simp
 have n1:((σ.newO [fv,.int .i64 m.memory,.int .i64 m.main]).newO [.nilp,.nilsl]).no=σ.no+2:=by simp
 generalize (σ.newO [fv,.int .i64 m.memory,.int .i64 m.main]).newO [.nilp,.nilsl]=τ1 at *
 refine zdk V hmem ?_
 simp
 refine zy8 (o:=σ.no+1) (i:=1) (cs:=[.nilp,.nilsl]) (e:=5) p1 rfl ?_
 have e1:splice [AV.nilp,ycz] 1 [AV.tys 5 .nilsl]=[.nilp,.tys 5 .nilsl]:=rfl
 rw[e1]
 have hP0:Pw σ (σ.no+1) [] (τ1.setO (σ.no+1) [.nilp,.tys 5 .nilsl]):=⟨by omega,by simp;omega,A1.setO (by omega),_,_,by simp,.inl rfl,.inl ⟨rfl,rfl⟩⟩
 have m2:(τ1.setO (σ.no+1) [.nilp,.tys 5 .nilsl]).objs σ.no=some [fv,.int .i64 m.memory,.int .i64 m.main]:=by
  have:¬σ.no=σ.no+1:=by omega
  simp[this,m1]
 have n2:(τ1.setO (σ.no+1) [.nilp,.tys 5 .nilsl]).no=σ.no+2:=by simp[n1]
 generalize τ1.setO (σ.no+1) [.nilp,.tys 5 .nilsl]=τ2 at *
 have hh:za5≠[]:=by decide
 have es:zem [] [za5,Lib.itoa m.memory,zf,zf]=za5++spT [Lib.itoa m.memory,zf,zf]:=by
  have:zem [] [za5,Lib.itoa m.memory,zf,zf]=zem za5 [Lib.itoa m.memory,zf,zf]:=rfl
  rw[this,zlq _ hh]
 refine zsV (ws:=[za5,Lib.itoa m.memory,zf,zf]) hP0 (by simp) (by rw[es,yab];omega) fun τ3 u3 P3 K3=>?_
 rw[es]at P3
 have n3:=K3.no
 have m3:=(K3.obj σ.no (by omega) (by omega)).trans m2
 simp[m3,f1,fl]
 refine zae (FlI B σ (σ.no+1) σ.no fv m toks (za5++spT [Lib.itoa m.memory,zf,zf])) (MU 17 (m.funcs.length+1)) ⟨0,[],toks,fs2,Nat.zero_le _,rfl,by simpa using hpr,by simp,by simp,by simp,by simp,by simp,by simpa [spT]using P3,m3,by omega,by omega⟩ fun a τ hI=>?_
 refine znk V hfv hf hmx hsz hfl (by simp[hh]) (by simp only[yab];omega) (fun a τ a1 a3 hP hmo=>?_) hI
 simp[zil,a1,a3,hmo]
 refine zdk V (zeN _).1 ?_
 simp
 refine zac (ws:=[zu,zbM,zg8,zu,za6,Lib.itoa (yb4 .i64 (m.main+3)),zf,zf,zf]) hP (by simp[hh]) (by simp) (by simp only[yab];omega) fun τ5 u5 P5 K5=>?_
 simp[a3]
 refine zrF P5 (by simp[hh]) (by simp only[yab];omega) fun τ6 A6 K6=>?_
 have:=h _ A6
 rw[zlt]at this
 simp
 refine⟨by have:([10]:List UInt8).length=1:=rfl;omega,?_⟩
 simpa [ycL]using this
end
end Go.Proofs.YtohfclafhegadaaGreatDoor

namespace Go.Proofs.YtohfclafhegadaaGreatDoor
open Go Go.Abs
def zmn:F:={ name:=[102],params:=[],locals:=[],type:=1,lists:=[[{ op:=1,ty:=1,n:=7,body:=0,other:=0,name:=[] }]] }
def zaE:M:={ funcs:=[zmn],memory:=16,main:=0 }
section
variable {G : Env} {σ : AS} {R : Out → AS → Prop}
end
def NZ{α:Type}(r:Res α):Prop:=∀e,r=.error e→e≠0
theorem NZ.ok{α:Type}(a:α):NZ (.ok a:Res α):=fun e h=>by cases h
theorem NZ.err{α:Type}{k:Int}(h:k≠0):NZ (.error k:Res α):=fun e q=>by cases q;exact h
theorem zmo(s:St):NZ (zd9 s):=by
 unfold zd9
 split
 ·split
  ·exact .ok _
  ·exact .err (by omega)
 ·exact .ok _
theorem zdl:∀(ts:List Int) (s:St),NZ (z7 ts s)
 | [],s=>.ok _
 | t::ts,s=>by
  rw[z7]
  split
  ·have:=zmo s
   cases hd:zd9 s with
   | ok s'=>exact zdl ts s'
   | error e=>rw[hd]at this;exact .err (this e rfl)
  ·exact .err (by omega)
theorem zmp{r:Res St}{t:Int}(h:NZ r):NZ (zfo r t):=by
 cases r with
 | ok s=>exact .ok _
 | error e=>exact .err (h e rfl)
theorem zcs(ty:Int)(s:St):NZ (zC ty s):=by unfold zC;split;exact .ok _;exact zdl _ _
theorem zo6(fs:List F)(ls:List Int)(w:W)(s:St):NZ (ze8 fs ls w s):=by
 unfold ze8
 repeat' split
 all_goals first
  | exact .ok _
  | exact zmp (zdl _ _)
  | exact zdl _ _
  | exact zmo _
theorem zo7{fs:List F}{ls:List Int}{ty deep:Int}{lk:zsD}(hl:∀a d,NZ (lk a d))(w:W)(s:St):NZ (zea fs ls ty deep lk w s):=by
 unfold zea
 split
 ·exact .err (by omega)
 split
 ·exact .err (by omega)
 split
 ·have:=hl w.body (deep+1)
  cases hq:lk w.body (deep+1)with
  | ok u=>exact .ok _
  | error e=>rw[hq]at this;exact .err (this e rfl)
 split
 ·have ht:=zdl [1] s
  cases hq:z7 [1] s with
  | error e=>rw[hq]at ht;exact .err (ht e rfl)
  | ok s1 =>
   have:=hl w.body (deep+1)
   simp only
   cases hq:lk w.body (deep+1)with
   | error e=>rw[hq]at this;exact .err (this e rfl)
   | ok u =>
    simp only
    split
    ·have:=hl w.other (deep+1)
     cases hq:lk w.other (deep+1)with
     | error e=>rw[hq]at this;exact .err (this e rfl)
     | ok u=>exact .ok _
    ·exact .ok _
 split
 ·have ht:=zdl [1] s
  cases hq:z7 [1] s with
  | error e=>rw[hq]at ht;exact .err (ht e rfl)
  | ok s1 =>
   simp only
   split
   ·exact zmp (zcs _ _)
   ·exact .ok _
 split
 ·split
  ·have ht:=zcs ty s
   cases hq:zC ty s with
   | error e=>rw[hq]at ht;exact .err (ht e rfl)
   | ok s1=>exact .ok _
  ·exact .ok _
 split
 ·have ht:=zcs ty s
  cases hq:zC ty s with
  | error e=>rw[hq]at ht;exact .err (ht e rfl)
  | ok s1=>exact .ok _
 split
 ·exact .ok _
 ·exact zo6 _ _ _ _
theorem zhT{fs:List F}{ls:List Int}{ty deep:Int}{lk:zsD}(hl:∀a d,NZ (lk a d)):∀(ws:List W) (s:St),NZ (zcX fs ls ty deep lk ws s)
 | [],s=>.ok _
 | w::ws,s=>by
  rw[zcX]
  have:=zo7 (fs:=fs) (ls:=ls) (ty:=ty) (deep:=deep) hl w s
  cases hq:zea fs ls ty deep lk w s with
  | error e=>rw[hq]at this;exact .err (this e rfl)
  | ok s1=>exact zhT hl ws s1
theorem zmq(fs:List F)(ls:List Int)(ty:Int)(lists:To):∀(k:Nat) (a d:Int),NZ (zg7 fs ls ty lists k a d)
 | 0,a,d=>.err (by omega)
 | k+1,a,d=>by
  rw[zg7]
  have:=zhT (fs:=fs) (ls:=ls) (ty:=ty) (deep:=d) (zmq fs ls ty lists k) (lists.getD a.toNat []) ⟨[],false⟩
  cases hq:zcX fs ls ty d (zg7 fs ls ty lists k) (lists.getD a.toNat []) ⟨[],false⟩with
  | error e=>rw[hq]at this;exact .err (this e rfl)
  | ok s =>
   simp only
   unfold zDv
   have:NZ (if d=0 then zC ty s else .ok s):=by
    split
    ·exact zcs _ _
    ·exact .ok _
   cases hq:(if d=0 then zC ty s else .ok s:Res St)with
   | error e=>rw[hq]at this;exact .err (this e rfl)
   | ok s' =>
    simp only
    split
    ·exact .ok _
    ·exact .err (by omega)
theorem zkg(a:Int):∀(ns:List Int) (named:List Bool),NZ (zbt a ns named)
 | [],named=>.ok _
 | n::ns,named=>by
  rw[zbt]
  unfold zfp
  split
  ·rename_i e he
   split at he
   ·cases he
   ·cases he;exact .err (by omega)
  ·exact zkg a ns _
theorem zo8(a:Int):∀(ws:List W) (named:List Bool),NZ (zkp a ws named)
 | [],named=>.ok _
 | w::ws,named=>by
  rw[zkp]
  have:=zkg a (zD w) named
  cases hq:zbt a (zD w) named with
  | error e=>rw[hq]at this;exact .err (this e rfl)
  | ok n=>exact zo8 a ws n
theorem zmr:∀(ls:To) (k:Nat) (named:List Bool),NZ (zcg k ls named)
 | [],k,named=>.ok _
 | l::ls,k,named=>by
  rw[zcg]
  have:=zo8 (k:Int) l named
  cases hq:zkp (k:Int) l named with
  | error e=>rw[hq]at this;exact .err (this e rfl)
  | ok n=>exact zmr ls (k+1) n
theorem zo9(ls:To):NZ (zdx ls):=by
 unfold zdx
 split
 ·exact .err (by omega)
 ·have:=zmr ls 0 (yaj ls.length false)
  cases hq:zcg 0 ls (yaj ls.length false)with
  | error e=>rw[hq]at this;exact .err (this e rfl)
  | ok n =>
   simp only
   split
   ·exact .ok _
   ·exact .err (by omega)
theorem zkh(fs:List F)(f:F):NZ (zS fs f):=by
 unfold zS
 split
 ·exact .err (by omega)
 ·have:=zo9 f.lists
  cases hq:zdx f.lists with
  | error e=>rw[hq]at this;exact .err (this e rfl)
  | ok u=>exact zmq _ _ _ _ _ _ _
theorem zen(fs:List F):∀r,NZ (zT fs r)
 | []=>.ok _
 | f::r=>by
  rw[zT]
  have:=zkh fs f
  cases hq:zS fs f with
  | error e=>rw[hq]at this;exact .err (this e rfl)
  | ok u=>exact zen fs r
theorem zpa(m:M):NZ (zbW m):=by
 unfold zbW
 split
 ·exact .err (by omega)
 ·have:=zen m.funcs m.funcs
  cases hq:zT m.funcs m.funcs with
  | error e=>rw[hq]at this;exact .err (this e rfl)
  | ok u =>
   simp only
   split
   ·exact .ok _
   ·exact .err (by omega)
theorem zrI{m:M}(h:zmR (zbW m)=0):zbW m=.ok ():=by
 cases hq:zbW m with
 | ok u=>rfl
 | error e=>rw[hq]at h;exact absurd h (zpa m e hq)
def zDG:List UInt8:=[40,32,109,111,100,117,108,101,32,40,32,105,109,112,111,114,116,32,34,101,110,118,34,32,34,105,110,34,32,40,32,102,117,110,99,32,40,32,114,101,115,117,108,116,32,105,54,52,32,41,32,41,32,41,32,40,32,105,109,112,111,114,116,32,34,101,110,118,34,32,34,111,117,116,34,32,40,32,102,117,110,99,32,40,32,112,97,114,97,109,32,105,54,52,32,41,32,41,32,41,32,40,32,105,109,112,111,114,116,32,34,101,110,118,34,32,34,116,114,97,112,34,32,40,32,102,117,110,99,32,40,32,112,97,114,97,109,32,105,51,50,32,41,32,41,32,41,32,40,32,109,101,109,111,114,121,32,49,32,41,32,40,32,103,108,111,98,97,108,32,105,51,50,32,40,32,105,51,50,46,99,111,110,115,116,32,49,54,32,41,32,41,32,40,32,102,117,110,99,32,36,102,32,40,32,114,101,115,117,108,116,32,105,51,50,32,41,32]
def zuG:List UInt8:=[32,41,32,40,32,101,120,112,111,114,116,32,34,109,97,105,110,34,32,40,32,102,117,110,99,32,51,32,41,32,41,32,41,10]
def zfv(t:List UInt8):List UInt8:=zDG++t++zuG
def t7:List UInt8:=[105,51,50,46,99,111,110,115,116,32,55]
def t07:List UInt8:=[105,51,50,46,99,111,110,115,116,32,48,55]
def zuH:List UInt8:=[105,51,50,46,99,111,110,115,32,55]
theorem zsW:zbu 24 (zfv t7)=.ok zaE:=by kernel_rfl
theorem zpb:zbu 24 (zfv t07)=.error 11:=by kernel_rfl
theorem zki:zbu 24 (zfv zuH)=.error 2:=by kernel_rfl
def zAb:List Tok:=zgw zmn (zdR { op:=1,ty:=1,n:=7,body:=0,other:=0,name:=[] }++[])++[]
theorem zDH:zsI zaE.funcs zAb [{ zmn with lists:=[]++[[ziO { op:=1,ty:=1,n:=7,body:=0,other:=0,name:=[] }]] }] :=
 .cons ⟨_,_,_,rfl,.leaf (by decide) (by decide) ⟨by decide,by decide⟩ (.nil _ _),rfl⟩ .nil
theorem zAc:zhg (zcm zaE zAb)=zfv t7:=by kernel_rfl
theorem zi0{s:List UInt8}:zhk s:=trivial
theorem zuI:zDG.length=218:=by rfl
theorem zrJ:zuG.length=34:=by rfl
theorem zfM(t:List UInt8):(zfv t).length=t.length+252:=by
 simp only[zfv,yab,zuI,zrJ];omega
theorem zAd:∀f∈zaE.funcs,Al.SzE f:=fun f hf=>by
 simp only[zaE,ycF]at hf
 subst hf
 exact⟨by decide,by decide,by decide,by decide⟩
section
variable {G : Env} {σ : AS} {R : Out → AS → Prop}
theorem zms{t:List UInt8}(hl:t.length<2^40)(h:R (.ret (.str (zfv t))) σ):zzQ G 10 [.str t] σ R:=by
 refine ztH rfl ?_
 have e:∀l:List UInt8,l=zfv t→R (.ret (.str l)) σ:=fun l q=>q▸h
 simp[zDY]
 refine⟨by omega,by omega,?_⟩
 refine e _ ?_
 simp[zfv,zDG,zuG]
theorem zkj(h:∀v σ',Al.MO σ' v zaE→zg σ σ'→R (.ret v) σ'):zzQ G 11 [] σ R:=by
 refine ztI rfl ?_
 simp[zDZ,splice]
 refine h _ _ ⟨_,rfl,.inr ⟨_,_,rfl,trivial,.cons ⟨_,_,_,rfl,.inl ⟨rfl,rfl⟩,.inl ⟨rfl,rfl⟩,.inr ⟨_,_,rfl,trivial,.cons (.inr ⟨_,rfl,trivial⟩) .nil⟩⟩ .nil⟩⟩ ((zg.refl σ).newO.setO (yah _))
theorem zuJ:∀f∈zaE.funcs,Pf 24 f:=fun f hf=>by
 simp only[zaE,ycF]at hf
 subst hf
 exact⟨by decide,fun t ht=>(by cases ht),fun t ht=>(by cases ht),.inr (.inl rfl)⟩
theorem zuK:∀f∈zaE.funcs,f.lists.length≤2^40∧∀ws∈f.lists,ws.length≤2^40:=fun f hf=>by
 simp only[zaE,ycF]at hf
 subst hf
 exact⟨by decide,fun ws hw=>by simp[zmn]at hw;subst hw;decide⟩
theorem ok7:zhk (zfv t7):=zi0
theorem zE6:zhk (zfv t07):=zi0
theorem zAe:zhk (zfv zuH):=zi0
theorem zuL(V:zbk G)(h00:0<σ.nf∧σ.F 0=.alive)(h:∀σ',zg σ σ'→R (.ret (.bool true)) σ'):zzQ G 12 [] σ R:=by
 refine ztJ rfl ?_
 simp[zD0]
 refine zms (t:=t7) (by decide) ?_
 simp
 refine zgK V h00 ok7 (by rw[zfM];decide) (fun e q=>by rw[zsW]at q;cases q) fun m hm mv σ1 hv1 A1=>?_
 rw[zsW]at hm
 cases hm
 have h01:0<σ1.nf∧σ1.F 0=.alive:=⟨by have:=A1.nf;omega,(A1.fam 0 h00.1).trans h00.2⟩
 have hv1':=hv1
 obtain⟨fv,rfl,hof⟩:=hv1'
 have fv1:=zgJ hof
 have B1:zg σ1 ((σ1.newO [ycz,.int .i64 0,.int .i64 0]).setO σ1.no [fv,.int .i64 zaE.memory,.int .i64 zaE.main]):=(zg.refl σ1).newO.setO (yah _)
 have ho1:((σ1.newO [ycz,.int .i64 0,.int .i64 0]).setO σ1.no [fv,.int .i64 zaE.memory,.int .i64 zaE.main]).objs σ1.no=some [fv,.int .i64 zaE.memory,.int .i64 zaE.main]:=by simp
 have hl1:σ1.no<((σ1.newO [ycz,.int .i64 0,.int .i64 0]).setO σ1.no [fv,.int .i64 zaE.memory,.int .i64 zaE.main]).no:=by simp
 simp[fv1,splice]
 generalize (σ1.newO [ycz,.int .i64 0,.int .i64 0]).setO σ1.no [fv,.int .i64 zaE.memory,.int .i64 zaE.main]=τ1 at *
 have A2:=A1.trans B1
 refine zms (t:=t07) (by decide) ?_
 simp
 refine zgK V ⟨by have:=B1.nf;omega,(B1.fam 0 h01.1).trans h01.2⟩ zE6 (by rw[zfM];decide) (fun e q σ2 C2=>?_) fun m hm=>by rw[zpb]at hm;cases hm
 rw[zpb]at q
 cases q
 simp[zej,splice]
 have C3:zg σ2 ((σ2.newO [ycz,.int .i64 0,.int .i64 0]).setO σ2.no [ycz,.int .i64 0,.int .i64 0]):=(zg.refl σ2).newO.setO (yah _)
 generalize (σ2.newO [ycz,.int .i64 0,.int .i64 0]).setO σ2.no [ycz,.int .i64 0,.int .i64 0]=τ2 at *
 have C4:=C2.trans C3
 have B2:=B1.trans C4
 refine zms (t:=zuH) (by decide) ?_
 simp
 refine zgK V ⟨by have:=B2.nf;omega,(B2.fam 0 h01.1).trans h01.2⟩ zAe (by rw[zfM];decide) (fun e q σ4 C5=>?_) fun m hm=>by rw[zki]at hm;cases hm
 rw[zki]at q
 cases q
 simp[zej,splice]
 have C6:zg σ4 ((σ4.newO [ycz,.int .i64 0,.int .i64 0]).setO σ4.no [ycz,.int .i64 0,.int .i64 0]):=(zg.refl σ4).newO.setO (yah _)
 generalize (σ4.newO [ycz,.int .i64 0,.int .i64 0]).setO σ4.no [ycz,.int .i64 0,.int .i64 0]=τ4 at *
 have C7:=C4.trans (C5.trans C6)
 have B4:=B1.trans C7
 refine zkj fun v5 σ5 hv5 A5=>?_
 simp
 refine zo5 V hv5 zDH zuJ (by decide) zuK (by decide) (by decide) (by rw[zAc,zfM];decide) fun σ6 A6=>?_
 rw[zAc]
 simp
 refine zms (t:=t7) (by decide) ?_
 have C8:=(C7.trans A5).trans A6
 have ho6:=(C8.obj σ1.no hl1).trans ho1
 simp[ho6,fv1]
 refine zkj fun v8 σ8 hv8 A8=>?_
 have C9:=C8.trans A8
 have ho8:=(C9.obj σ1.no hl1).trans ho1
 have B8:=(A1.trans B1).trans C9
 have hme:=zuE hv1 (B1.trans C9).nf fun f hf=>(B1.trans C9).fam f hf
 have hM:=Al.m_e (σ:=σ8) ⟨by have:=B8.nf;omega,(B8.fam 0 h00.1).trans h00.2⟩ hme
 simp[ho8,fv1]
 refine Al.eqM_calls hM hv8 (by decide) zAd fun σ9 A9=>?_
 simp
 exact h _ (B8.trans A9)
end
end Go.Proofs.YtohfclafhegadaaGreatDoor


namespace Go
open Go.ChangeShapes Go.WideShapes Go.ChangeAt Go.RowKit
theorem zau{H:Type}{enc:TypeId × Value→H}{a:Assume}{C:Checked}{os:Os}{f:FuncId}{fn:Func}{s:ChangeSpec}{conds:List PathCond}{apart fresh handsOn again:Bool}{X:World→Array Value→Prop}
  (hX:∀(w w':World) (args:Array Value),w.heap=w'.heap→X w args→X w' args)
  (own:ownKnob C.prog.godebug=none) (started:os.Started) (noInit:C.prog.inits.idxOf? f=none) (hfn:C.prog.funcs[f]?=some fn)
  (witness:∃(w:World) (tape:Tape) (i:Input),w.os=os∧(w.forCall tape i).Shaped C.prog∧i.vars=[]∧Input.okWide C.prog (w.forCall tape i) .any w.heap.size f i ∧
   ((s.pre enc C.prog fn conds apart (w.forCall tape i).memory i.args∧X (w.forCall tape i).memory i.args)∧sizedMet enc C.prog fn (OpenSpec.ofChange s) apart (w.forCall tape i).memory i.args)∧a.holds C.prog (lone (Frame.enter C.prog f i.args .normal) [] (w.forCall tape i)))
  (contract:∀(W:World) (base:Nat) (args:Array Value) (ds gs:List (DataW H)) (before:List MemPlace),
   (∀(j:Nat) t v,fn.params[j]?=some t→args[j]?=some v→Value.okWide C.prog W .any base t v) →
   DataW.Whole enc C.prog fn.params.toList s.vars apart W args.toList ds gs before→(DataW.weightsEach C.prog (fn.params.toList++s.plain.varTypes C.prog) (ds++gs)).all (·≤reachBytes)=true→W.ShapedOpen C.prog→X W args →
   Calls C.prog f args W fun e W'=>∃v,e=.returned v∧s.post enc C.prog fn apart fresh handsOn again W args v W') :
  ReturnsInHanded a C os f .any (fun w args=>(s.pre enc C.prog fn conds apart w args∧X w args)∧sizedMet enc C.prog fn (OpenSpec.ofChange s) apart w args) (s.post enc C.prog fn apart fresh handsOn again):=by
 refine returnsInHanded_of_calls own started noInit witness ?_
 intro w tape i _ hsh _ hok hpre hholds
 obtain⟨_,_,_,fn',hfn',_,_,_,_,hval⟩:=hok
 have e:fn'=fn:=yaR.inj (hfn'.symm.trans hfn)
 subst e
 obtain⟨⟨⟨ds,gs,before,hw,hc⟩,hx⟩,hz⟩:=hpre
 have hw':=DataW.Whole.of_heap (w':=w.forCall tape i) (by rfl) hw
 refine(contract (w.forCall tape i) w.heap.size i.args ds gs before hval hw' (hz.weights hw) hsh (hX _ _ _ (by rfl) hx)).mono fun e W' ⟨v,he,hp⟩=>?_
 subst he
 exact ChangeSpec.post_blind hp
theorem zi1{H:Type}{enc:TypeId × Value→H}{P:Program}{w:World}{base:Nat}{sp:Nat→Bool}{held:Bool}{fuel:Nat}{t e:TypeId}{n:Nat}{cs:List Value}{ls:List (List UInt8)}{p:List MemPlace}
  (ht:P.underlying t=some (.array n e)) (he:P.underlying e=some .string) (hce:P.cellsOf e=1) (hct:P.cellsOf t=n)
  (h:DataW.trod enc P w base sp held fuel t cs=some (.agg (ls.map fun l=>.lit (.string l)),p)):cs=ls.map fun l=>Value.string ⟨l.toArray⟩:=by
 cases fuel with
 | zero=>simp[DataW.trod]at h
 | succ fuel =>
  simp only[DataW.trod,ht,hce,hct,Nat.mul_one]at h
  split at h
  ·rename_i hl
   obtain⟨xs,hm,hx⟩:=ybB.1 h
   have hxs:xs.map (·.1)=ls.map fun l=>(DataW.lit (.string l):DataW H):=by
    have:=congrArg Prod.fst hx
    simpa using this
   have hxl:xs.length=n:=by simpa using Lib.mapM_length hm
   have hzl:ls.length=n:=by
    have:=congrArg yce hxs
    simp at this
    omega
   apply List.ext_getElem?
   intro i
   by_cases hi:i<n
   ·obtain⟨b,hb,hf⟩:=Lib.mapM_at hm i i (by simp[hi])
    obtain⟨s,hc,rfl,_⟩:=DataW.trod_string he hf
    have h1:cs[i]?=some (.string s):=by
     have:=congrArg (·[0]?) hc
     simpa [List.getElem?_take,List.getElem?_drop]using this
    have h2:(xs.map (·.1))[i]?=some (DataW.lit (.string s.data.toList):DataW H):=by simp[hb]
    rw[hxs]at h2
    simp only[yde,ybB,DataW.lit.injEq,Lit.string.injEq]at h2
    obtain⟨l,hl1,hl2⟩:=h2
    simp[h1,hl1,hl2]
   ·rw[yb2 (by omega),yb2 (by simp;omega)]
  ·cases h
end Go
namespace Go.Proofs.YtohfclafhegadaaGreatDoor
open Go Go.Abs Go.RowKit
theorem own:ownKnob yb9.godebug=none:=by kernel_rfl
abbrev zE7 : List (String × DataW Unit) := [("math/bits.deBruijn32tab", Rows.laid_math_bits_deBruijn32tab), ("math/bits.deBruijn64tab", Rows.laid_math_bits_deBruijn64tab), ("internal/strconv.uint64pow10", Rows.laid_internal_strconv_uint64pow10), ("unicode/utf8.acceptRanges", Rows.laid_unicode_utf8_acceptRanges), ("strconv.ErrRange", Rows.laid_strconv_ErrRange), ("strconv.ErrSyntax", Rows.laid_strconv_ErrSyntax), ("unicode.White_Space", Rows.laid_unicode_White_Space), ("strings.asciiSpace", Rows.laid_strings_asciiSpace), ("mortise/bin.bytesOf", Rows.laid_mortise_bin_bytesOf), ("mortise/bin.plain", Rows.laid_mortise_bin_plain), ("mortise/bin.numbered", Rows.laid_mortise_bin_numbered), ("mortise/wasm.signs", Rows.laid_mortise_wasm_signs), ("unicode/utf8.first", Rows.laid_unicode_utf8_first)]
end Go.Proofs.YtohfclafhegadaaGreatDoor
namespace Go
open Go.ChangeShapes Go.WideShapes Go.ChangeAt Go.RowKit
theorem zeo{P:Program}{w:World}:∀{l:List (String × DataW Unit)} {ps:List MemPlace} {n:String} {d:DataW Unit} {k:Nat},DataW.LaidVars P w l ps→l[k]?=some (n,d)→∃g t cs fuel p,P.globalNamed n=some g∧(P.globals[g]?).map (·.type)=some t∧w.var? P n=some cs∧DataW.trod (fun _=>()) P w 0 (fun _=>true) false fuel t cs.toList=some (d,p)
 | [],ps,n,d,k,h,hk=>by simp at hk
 | (n',d')::l,ps,n,d,k,h,hk=>by
  obtain⟨g,t,cs,fuel,p,q,h1,h2,h3,h4,h5,rfl⟩:=h
  cases k with
  | zero =>
   simp only[ydc,yaR.injEq,Prod.mk.injEq]at hk
   obtain⟨rfl,rfl⟩:=hk
   exact⟨g,t,cs,fuel,p,h1,h2,h3,h4⟩
  | succ k=>exact zeo h5 (by simpa using hk)
theorem zhU{g:List UInt8 × List UInt8→List Value}:∀(ls:List (List UInt8 × List UInt8)) (cs:List Value),cs.length=ls.length*2→(∀i (h:i<ls.length),(cs.drop (i*2)).take 2=g ls[i])→cs=(ls.map g).flatten
 | [],cs,h,_=>by simpa using h
 | l::ls,cs,h,hg=>by
  have h0:=hg 0 (by simp)
  have ih:=zhU (g:=g) ls (cs.drop 2) (by rw[List.length_drop,h,yac];omega) fun i hi=>by
   have:=hg (i+1) (Nat.succ_lt_succ hi)
   rw[List.drop_drop]
   have e:2+i*2=(i+1)*2:=by omega
   rw[e];exact this
  simp only[yaL,ydf,←ih]
  simp at h0
  rw[←h0,yc0]
theorem zhl{H:Type}{enc:TypeId × Value→H}{P:Program}{w:World}{base:Nat}{sp:Nat→Bool}{held:Bool}{fuel:Nat}{t e u:TypeId}{n:Nat}{cs:List Value}{ls:List (List UInt8 × List UInt8)}{p:List MemPlace}
  (ht:P.underlying t=some (.array n e)) (he:P.underlying e=some (.array 2 u)) (hu:P.underlying u=some .string) (hcu:P.cellsOf u=1) (hce:P.cellsOf e=2) (hct:P.cellsOf t=n*2)
  (h:DataW.trod enc P w base sp held fuel t cs=some (.agg (ls.map fun l=>.agg [.lit (.string l.1),.lit (.string l.2)]),p)):cs=(ls.map fun l=>[Value.string ⟨l.1.toArray⟩,Value.string ⟨l.2.toArray⟩]).flatten:=by
 cases fuel with
 | zero=>simp[DataW.trod]at h
 | succ fuel =>
  simp only[DataW.trod,ht,hce,hct]at h
  split at h
  ·rename_i hl
   obtain⟨xs,hm,hx⟩:=ybB.1 h
   have hxs:xs.map (·.1)=ls.map fun l=>(DataW.agg [.lit (.string l.1),.lit (.string l.2)]:DataW H):=by
    have:=congrArg Prod.fst hx
    simpa using this
   have hxl:xs.length=n:=by simpa using Lib.mapM_length hm
   have hzl:ls.length=n:=by
    have:=congrArg yce hxs
    simp at this
    omega
   refine zhU ls cs (by omega) fun i hi=>?_
   have hin:i<n:=by omega
   obtain⟨b,hb,hf⟩:=Lib.mapM_at hm i i (by simp[hin])
   obtain⟨b1,b2⟩:=b
   have hbe:b1=(DataW.agg ([ls[i].1,ls[i].2].map fun l=>.lit (.string l)):DataW H):=by
    have h2:(xs.map (·.1))[i]?=some b1:=by simp[hb]
    rw[hxs]at h2
    have h3:=h2
    rw[yde,yau hi]at h3
    exact(yaR.inj h3).symm
   rw[hbe]at hf
   exact zi1 he hu hcu hce hf
  ·cases h
theorem zrK{P:Program}{w:World}{fuel:Nat}{t:TypeId}{ms:Array (String × TypeId)}{cs:List Value}{nm:String}{d:DataW Unit}{p:List MemPlace}(ht:P.underlying t=some (.interface ms))
  (h:DataW.trod (fun _=>()) P w 0 (fun _=>true) false fuel t cs=some (.iface nm d,p)):∃u v,cs=[.iface u v]:=by
 cases fuel with
 | zero=>simp[DataW.trod]at h
 | succ fuel =>
  rw[DataW.trod_step]at h
  unfold DataW.trodStep at h
  rw[ht]at h
  split at h<;>simp_all
end Go
namespace Go.Proofs.YtohfclafhegadaaGreatDoor
open Go Go.Abs Go.RowKit Go.ChangeShapes Go.WideShapes
def zep:List Value:=(signs.map fun p=>[Value.string ⟨p.1.toArray⟩,Value.string ⟨p.2.toArray⟩]).flatten
theorem zgP{M F}{w:World}:∀(ls:List (List UInt8 × List UInt8)) (j:Nat) (h:j<((ls.map fun p=>[ycr p.1,ycr p.2]).flatten).length),
  ∃c,((ls.map fun p=>[Value.string ⟨p.1.toArray⟩,Value.string ⟨p.2.toArray⟩]).flatten)[j]?=some c∧VR M F w ((ls.map fun p=>[ycr p.1,ycr p.2]).flatten)[j] c
 | [],j,h=>by simp at h
 | l::ls,j,h=>by
  simp only[yaL,ydf,yct,ycK]at h ⊢
  match j with
  | 0=>exact⟨_,rfl,by simpa using VR.str (M:=M) (F:=F) (w:=w) ⟨l.1.toArray⟩⟩
  | 1=>exact⟨_,rfl,by simpa using VR.str (M:=M) (F:=F) (w:=w) ⟨l.2.toArray⟩⟩
  | j+2=>simpa using zgP ls j (by simpa using h)
def spZ:List Int:=(List.range 256).map fun c=>if zdO (UInt8.ofNat c)then 1 else 0
theorem zAf{M F w}{x:AV}{c:Value}(h:VR M F w x c):Cells M F w [x] #[c]:=⟨rfl,fun j v hj=>by
 match j with
 | 0=>simp at hj;subst hj;exact⟨c,rfl,h⟩
 | j+1=>simp at hj⟩
theorem zuM:laidOutB yb9=true:=by kernel_rfl
end Go.Proofs.YtohfclafhegadaaGreatDoor
namespace Go.Proofs.YtohfclafhegadaaGreatDoor
open Go Go.Abs Go.RowKit
abbrev zAg : List String := ["unicode/utf8.first"]
abbrev zEU:List Nat:=(List.range 26).filter fun b=>b != 7
noncomputable def zgQ(os:Os):World:=(World.doorLaid yb9 400 os).layVars yb9 (zE7.filter fun x=>zAg.contains x.1)
end Go.Proofs.YtohfclafhegadaaGreatDoor
namespace Go.Proofs.YtohfclafhegadaaGreatDoor
open Go Go.Abs Go.RowKit Go.ChangeShapes Go.WideShapes
abbrev zkk : List (String × DataW Unit) := [("math/bits.deBruijn32tab", Rows.laid_math_bits_deBruijn32tab), ("math/bits.deBruijn64tab", Rows.laid_math_bits_deBruijn64tab), ("internal/strconv.uint64pow10", Rows.laid_internal_strconv_uint64pow10), ("unicode/utf8.acceptRanges", Rows.laid_unicode_utf8_acceptRanges), ("strconv.ErrRange", Rows.laid_strconv_ErrRange), ("strconv.ErrSyntax", Rows.laid_strconv_ErrSyntax), ("unicode.White_Space", Rows.laid_unicode_White_Space), ("strings.asciiSpace", Rows.laid_strings_asciiSpace), ("mortise/wasm.signs", Rows.laid_mortise_wasm_signs), ("unicode/utf8.first", Rows.laid_unicode_utf8_first)]
def GW(m:Int)(u:TypeId):Env where
 g:=fun x=>match x with
  | 0=>.pv (.stat true) (.agg zdP)
  | 6=>.pv (.stat true) (.iface u .undef)
  | 10=>.pv (.stat true) (.agg zbY)
  | 11=>.pv (.stat true) (.int .i64 m)
  | _=>.undef
 has:=fun _=>False
 y:=fun _ _ _ _ _=>False
 fix:=fun B=>if B=9 then some (Lib.pow10Tab.map fun z=>Value.int .u64 z).toArray else none
theorem zE8(m u):zbk (GW m u):=⟨rfl,⟨u,.undef,rfl⟩,rfl⟩
theorem zE9(m u):zk9 (GW m u):=⟨rfl,m,rfl⟩
theorem zrL(m:Int)(u:TypeId):∀k,StillI ((GW m u).g k):=by
 intro k
 match k with
 | 0 =>
  exact .pv _ _ fun c hc=>by
   simp only[AV.cells,zdP,yaV]at hc
   obtain⟨x,_,rfl⟩:=hc
   exact .int _ _
 | 1=>exact .undef
 | 2=>exact .undef
 | 3=>exact .undef
 | 4=>exact .undef
 | 5=>exact .undef
 | 6 =>
  exact .pv _ _ fun c hc=>by
   simp only[AV.cells,ycF]at hc
   subst hc
   exact .iface _ _ .undef
 | 7=>exact .undef
 | 8=>exact .undef
 | 9=>exact .undef
 | 10 =>
  exact .pv _ _ fun c hc=>by
   simp only[AV.cells,zbY,List.mem_flatten,yaV]at hc
   obtain⟨l,⟨x,_,rfl⟩,hc⟩:=hc
   simp only[ybC,List.not_mem_nil,or_false]at hc
   rcases hc with rfl|rfl<;>exact .str _
 | 11 =>
  exact .pv _ _ fun c hc=>by
   simp only[AV.cells,ycF]at hc
   subst hc
   exact .int _ _
 | n+12=>exact .undef
theorem zkl{W:World}(hs:W.ShapedOpen yb9)(hl:laidMetH yb9 zkk W):∃m u,GOk yb9 (GW m u) (Mp.all W) AS.zero.F W:=by
 have hl0:laidMet yb9 zkk W:=hl
 obtain⟨ps,hv,_⟩:=hl0
 obtain⟨g0,t0,cs0,fuel0,p0,a1,a2,a3,a4⟩:=zeo (k:=7) hv rfl
 obtain⟨g6,t6,cs6,fuel6,p6,e1,e2,e3,e4⟩:=zeo (k:=4) hv rfl
 obtain⟨g9,t9,cs9,fuel9,p9,f1,f2,f3,f4⟩:=zeo (k:=2) hv rfl
 obtain⟨g10,t10,cs10,fuel10,p10,h1,h2,h3,h4⟩:=zeo (k:=8) hv rfl
 obtain rfl : 0 = g0 := Option.some.inj ((show Tryz.prog.globalNamed "strings.asciiSpace" = some 0 by kernel_rfl).symm.trans a1)
 obtain rfl : 6 = g6 := Option.some.inj ((show Tryz.prog.globalNamed "strconv.ErrRange" = some 6 by kernel_rfl).symm.trans e1)
 obtain rfl : 9 = g9 := Option.some.inj ((show Tryz.prog.globalNamed "internal/strconv.uint64pow10" = some 9 by kernel_rfl).symm.trans f1)
 obtain rfl : 10 = g10 := Option.some.inj ((show Tryz.prog.globalNamed "mortise/wasm.signs" = some 10 by kernel_rfl).symm.trans h1)
 obtain rfl:135=t0:=yaR.inj ((show(yb9.globals[0]?).map (·.type)=some 135 by kernel_rfl).symm.trans a2)
 obtain rfl:139=t6:=yaR.inj ((show(yb9.globals[6]?).map (·.type)=some 139 by kernel_rfl).symm.trans e2)
 obtain rfl:282=t9:=yaR.inj ((show(yb9.globals[9]?).map (·.type)=some 282 by kernel_rfl).symm.trans f2)
 obtain rfl:287=t10:=yaR.inj ((show(yb9.globals[10]?).map (·.type)=some 287 by kernel_rfl).symm.trans h2)
 have k0:cs0.toList=spZ.map fun z=>Value.int .u8 z:=Lib.cells_of_tab (n:=256) (e:=5) (k:=.u8) Tryz.underlying135 Tryz.underlying5 (by kernel_rfl) (by kernel_rfl) (zs:=spZ) (by have:=a4;exact this)
 obtain⟨u,ev,hc6⟩:=zrK Tryz.underlying139 e4
 have k9:cs9.toList=Lib.pow10Tab.map fun z=>Value.int .u64 z:=Lib.cells_of_tab (n:=20) (e:=174) (k:=.u64) Tryz.underlying282 Tryz.underlying174 (by kernel_rfl) (by kernel_rfl) (zs:=Lib.pow10Tab) (by have:=f4;exact this)
 have k10:cs10.toList=zep:=zhl (n:=16) (e:=182) (u:=9) (ls:=signs) Tryz.underlying287 Tryz.underlying182 ycZ (by kernel_rfl) (by kernel_rfl) (by kernel_rfl) h4
 obtain⟨m,hm⟩:=Tryz.laysM143.s1_3 W hs
 have cell:∀(nm:String) (g:Nat) (cs:Array Value),yb9.globalNamed nm=some g→W.var? yb9 nm=some cs→∀j,W.cell? ⟨g,j,none⟩=cs.toList[j]?:=fun nm g cs h1 h2 j=>by
  have:=World.var?_cell h1 h2 j
  rw[Array.getElem?_toList]
  simpa using this
 have v0:=cell _ 0 cs0 a1 a3
 have v6:=cell _ 6 cs6 e1 e3
 have v10:=cell _ 10 cs10 h1 h3
 rw[k0]at v0
 rw[hc6]at v6
 rw[k10]at v10
 have l11:11<W.heap.size:=World.block_lt_of_cell? W _ hm
 refine⟨m,u,⟨fun x=>?_,fun _ h=>h.elim,fun B c h=>?_⟩⟩
 ·match x with
  | 0 =>
   have hl:zdP=spZ.map (ycs .u8):=by simp[zdP,spZ]
   refine .pv _ _ 0 0 (fun j=>(spZ.map fun z=>Value.int .u8 z).getD j undef) (by simp[Mem,Mp.all];omega) (fun _ j hj=>?_) (fun _ j hj=>?_)
   ·have hj':j<(spZ.map fun z=>Value.int .u8 z).length:=by
     have:j<zdP.length:=hj
     rw[hl]at this
     simpa using this
    rw[ydb,v0 j,ycg,yau hj']
    rfl
   ·have hj':j<spZ.length:=by
     have:j<zdP.length:=hj
     rw[hl]at this
     simpa using this
    have:((AV.agg zdP).cells[j]'hj)=.int .u8 spZ[j]:=by simp[AV.cells,hl]
    rw[this,ycg,yde,yau hj']
    exact .int ..
  | 1=>exact .undef _
  | 2=>exact .undef _
  | 3=>exact .undef _
  | 4=>exact .undef _
  | 5=>exact .undef _
  | 6 =>
   refine .pv _ _ 6 0 (fun j=>.iface u ev) (by simp[Mem,Mp.all];omega) (fun _ j hj=>?_) (fun _ j hj=>?_)
   ·have hj':j=0:=by simpa using hj
    subst hj'
    exact v6 0
   ·have hj':j=0:=by simpa using hj
    subst hj'
    exact .iface _ _ _ (.undef _)
  | 7=>exact .undef _
  | 8=>exact .undef _
  | 9=>exact .undef _
  | 10 =>
   refine .pv _ _ 10 0 (fun j=>zep.getD j undef) (by simp[Mem,Mp.all];omega) (fun _ j hj=>?_) (fun _ j hj=>?_)
   ·obtain⟨c,h1,_⟩:=zgP (M:=Mp.all W) (F:=AS.zero.F) (w:=W) signs j hj
    rw[ydb,v10 j,ycg]
    show zep[j]?=_
    have h1':zep[j]?=some c:=h1
    rw[h1'];rfl
   ·obtain⟨c,h1,h2⟩:=zgP (M:=Mp.all W) (F:=AS.zero.F) (w:=W) signs j hj
    have h1':zep[j]?=some c:=h1
    rw[ycg,h1']
    exact h2
  | 11 =>
   refine .pv _ _ 11 0 (fun j=>.int .i64 m) (by simp[Mem,Mp.all,l11]) (fun _ j hj=>?_) (fun _ j hj=>?_)
   ·have hj':j=0:=by simpa using hj
    subst hj'
    exact hm
   ·have hj':j=0:=by simpa using hj
    subst hj'
    exact VR.int ..
  | n+12=>exact .undef _
 ·simp only[GW]at h
  split at h
  ·rename_i hB
   subst hB
   cases h
   refine⟨by simp[Mp.all];omega,?_⟩
   have hq:cs9=(Lib.pow10Tab.map fun z=>Value.int .u64 z).toArray:=by
    rw[←k9]
   rw[←hq]
   have:=f3
   simp only[World.var?,f1]at this
   rw[Option.bind_some]at this
   split at this
   ·rename_i cs elem frozen hh
    cases this
    exact⟨_,_,hh⟩
   ·cases this
  ·cases h
theorem znl(os:Os):laidMet yb9 zkk (zgQ os) :=
 laidMet_layVars (w0:=World.doorLaid yb9 400 os) zAg zEU rfl (by kernel_rfl) (by kernel_rfl) (LaidIn.of_run zEU 8 (by kernel_rfl) (by kernel_rfl) (by kernel_rfl) (by kernel_rfl))
theorem zpc(os:Os)(args:Array Value):laidMetH yb9 zkk ((zgQ os).forCall (fun _ _=>0) ⟨#[],args,[]⟩).memory :=
 show laidMet yb9 zkk _ from(znl os).of_heap (by simp[World.memory,World.forCall,Input.heap])
structure zDI(f:F):Prop where
 params:f.params.length≤2^20
 locals:f.locals.length≤2^20
 lists:f.lists.length≤2^20
 rows:∀l∈f.lists,l.length≤2^20
 name:f.name.length<2^40
 nums:∀l∈f.lists,∀w∈l,w.n≤2^63-1
def zCk(f:F):Prop:=f.params.length+f.locals.length+f.lists.length+zfr id f.lists≤3000∧zgU 24 f.name=true
structure Few(m:M):Prop where
 funcs:m.funcs.length≤40
 each:∀f∈m.funcs,zCk f
 good:zbW m=.ok ()
def BgO(fv:AV)(m:M)(mb:Nat)(σ1:AS)(a:Nat→AV)(τ:AS):Prop:=∃(i z:Nat),i≤m.funcs.length∧z≤3000∧a 1=.ptr mb 0∧a 3=.int .i64 (z:Int)∧a 4=.int .i64 (i:Int)∧zg σ1 τ∧∀j f,j<i→m.funcs[j]?=some f→zCk f
def BgN(mb fb:Nat)(σ1:AS)(i:Nat)(f:F)(base:Nat)(a:Nat→AV)(τ:AS):Prop:=∃(k:Nat),k≤f.lists.length∧a 1=.ptr mb 0∧a 4=.int .i64 (i:Int)∧a 5=.ptr fb 0∧a 6=.int .i64 (k:Int)∧a 3=.int .i64 ((base+zfr id (f.lists.take k):Nat):Int)∧τ=σ1
section
variable {G : Env} {σ : AS} {R : Out → AS → Prop}
theorem zpd{m:M}(h1:m.funcs.length≤40)(h2:∀f∈m.funcs,zCk f)(h3:∀f∈m.funcs,zDI f):zoo m :=
 ⟨by omega,fun f hf=>by have:=(h2 f hf).1;omega,fun f hf=>by have:=(h2 f hf).1;omega,fun f hf=>by have:=(h2 f hf).1;omega,fun f hf=>(h3 f hf).rows,fun f hf=>(h3 f hf).nums⟩
theorem zrM{σ:AS}{v:AV}{l:List W}(h:Al.RepO σ v l)(K:AV→Prop):zgT yb9 54 v K=K (.int .i64 (l.length:Int)):=by
 rcases h with ⟨rfl,rfl⟩|⟨b,rfl,_⟩<;>simp
theorem zDJ{mv:AV}{m:M}(V:zk9 G)(hG:∀k,StillI (G.g k))(hy:∀l,¬G.has l)(hm:Al.MO σ mv m)(hfl:m.funcs.length≤2^20)(hf:∀f∈m.funcs,zDI f)(h:∀b σ',(b=false→Few m)→zg σ σ'→R (.ret (.bool b)) σ'):zzQ G 30 [mv] σ R:=by
 refine ztM rfl ?_
 obtain⟨fv,rfl,hfs⟩:=hm
 have f1:=hfs.one
 have A1:zg σ (σ.newO [fv,ycs yam m.memory,ycs yam m.main]):=(zg.refl σ).newO
 have hf1:=hfs.keep A1
 have hm1:(σ.newO [fv,ycs yam m.memory,ycs yam m.main]).objs σ.no=some [fv,.int .i64 m.memory,.int .i64 m.main]:=by simp
 have hno1:(σ.newO [fv,ycs yam m.memory,ycs yam m.main]).no=σ.no+1:=by simp
 simp[zD3,f1]
 generalize σ.newO [fv,ycs yam m.memory,ycs yam m.main]=σ1 at *
 refine zae (BgO fv m σ.no σ1) (MU 4 (m.funcs.length+1)) ⟨0,0,by omega,by omega,by simp,by simp,by simp,.refl _,fun j f hj=>by omega⟩ fun a τ hI=>?_
 obtain⟨i,z,hi,hz,a1,a3,a4,A,hall⟩:=hI
 have hm2:=(A.obj σ.no (by omega)).trans hm1
 have hft:=hf1.keep A
 have hfl2:=hft.len
 by_cases hlt:i<m.funcs.length
 ·obtain⟨φ,rv,hrd,hfv,hix⟩:=hft.at hlt
  have hrd':=hrd.read
  have hmem:=yaw hlt
  have hget:m.funcs[i]?=some m.funcs[i]:=yau hlt
  obtain⟨q1,q2,q3,q4,q5,q6⟩:=hf _ hmem
  generalize m.funcs[i]=f at *
  obtain⟨pv,lv,tv,rfl,hp,hl,ht⟩:=hfv
  have p1:=hp.one
  have l1:=hl.one
  have t1:=ht.one
  have A3:zg τ ((τ.newO [ycr [],ycz,ycz,ycs yam 0,ycz]).setO τ.no [ycr f.name,pv,lv,ycs yam f.type,tv]):=((zg.refl τ).newO).setO (yah _)
  have hpl:=hp.len
  have hll:=hl.len
  have htl:=ht.len
  have w1:yb4 .i64 ((z:Int)+(f.params.length:Int))=(z:Int)+(f.params.length:Int):=by rw[wrap_i64]<;>omega
  have w2:yb4 .i64 ((z:Int)+(f.params.length:Int)+(f.locals.length:Int))=(z:Int)+(f.params.length:Int)+(f.locals.length:Int):=by rw[wrap_i64]<;>omega
  have w3:yb4 .i64 ((z:Int)+(f.params.length:Int)+(f.locals.length:Int)+(f.lists.length:Int))=(z:Int)+(f.params.length:Int)+(f.locals.length:Int)+(f.lists.length:Int):=by rw[wrap_i64]<;>omega
  have hlt':(i:Int)<(m.funcs.length:Int):=by omega
  have hmn:σ.no≠τ.no:=by have:=A.no;omega
  simp[zin,a1,a3,a4,hm2,hfl2,f1,hlt,hlt',hix,hrd',p1,l1,t1,hpl,hll,htl,w1,w2,w3,splice]
  have hf3:((τ.newO [ycr [],ycz,ycz,ycs yam 0,ycz]).setO τ.no [ycr f.name,pv,lv,ycs yam f.type,tv]).objs τ.no=some [.str f.name,pv,lv,.int .i64 f.type,tv]:=by simp
  have ht3:=ht.keep A3
  generalize (τ.newO [ycr [],ycz,ycz,ycs yam 0,ycz]).setO τ.no [ycr f.name,pv,lv,ycs yam f.type,tv]=σ3 at *
  have htl3:=ht3.len
  refine zae (BgN σ.no τ.no σ3 i f (z+f.params.length+f.locals.length+f.lists.length)) (MU 6 (f.lists.length+1)) ⟨0,by omega,by simp[a1],by simp[a4],by simp,by simp,by simp[zfr],rfl⟩ fun b ρ hJ=>?_
  obtain⟨k,hk,b1,b4,b5,b6,b3,rfl⟩:=hJ
  have hB:=zm4 (ls:=f.lists.take k) (B:=2^20) fun l hl=>q4 l (List.mem_of_mem_take hl)
  have hkk:(f.lists.take k).length≤2^20:=by rw[ybf];omega
  have hB2:zfr id (f.lists.take k)≤2^20*2^20:=yai hB (Nat.mul_le_mul_right _ hkk)
  by_cases hkl:k<f.lists.length
  ·obtain⟨φ2,rv,hrd2,hrep,hix2⟩:=ht3.at hkl
   have hrd2':=hrd2.read
   have hrl:=q4 _ (yaw hkl)
   have r1:=hrep.one
   have hrlen:=zrM hrep
   have hkl':(k:Int)<(f.lists.length:Int):=by omega
   have w5:yb4 .i64 ((k:Int)+1)=((k+1:Nat):Int):=by rw[wrap_i64]<;>omega
   have w6:yb4 .i64 (((z+f.params.length+f.locals.length+f.lists.length+zfr id (f.lists.take k):Nat):Int)+(f.lists[k].length:Int))=((z+f.params.length+f.locals.length+f.lists.length+zfr id (f.lists.take (k+1)):Nat):Int):=by
    rw[zhe hkl,wrap_i64]<;>omega
   generalize ((z+f.params.length+f.locals.length+f.lists.length+zfr id (f.lists.take k):Nat):Int)=y at *
   simp[zim,b1,b4,b5,b6,b3,hf3,htl3,hkl,hkl',hix2,hrd2',r1,hrlen,w5,w6]
   refine⟨⟨k+1,by omega,by simp[b1],by simp[b4],by simp[b5],by simp,by simp,rfl⟩,?_⟩
   simp only[MU,b6];simp;omega
  ·have he:k=f.lists.length:=by omega
   subst he
   rw[ycq]at b3 hB2
   have w5:yb4 .i64 ((i:Int)+1)=((i+1:Nat):Int):=by rw[wrap_i64]<;>omega
   generalize hy2:z+f.params.length+f.locals.length+f.lists.length+zfr id f.lists=y at *
   by_cases hbig:(3000:Int)<(y:Int)
   ·have hbig':3000<y:=by omega
    simp[zim,zkR,b5,b6,b3,hf3,htl3,hbig,hbig']
    exact h true _ (by simp) (A1.trans (A.trans A3))
   ·have hbig':¬3000<y:=by omega
    simp[zim,zkR,b5,b6,b3,hf3,htl3,hbig,hbig']
    refine zyQ q5 ?_
    cases htg:zgU 24 f.name with
    | false =>
     simp
     exact h true _ (by simp) (A1.trans (A.trans A3))
    | true =>
     simp[zn2,b4,w5]
     refine⟨⟨i+1,y,by omega,by omega,by simp[b1],by simp[b3],by simp,A.trans A3,fun j g hj hg=>?_⟩,?_⟩
     ·by_cases ej:j=i
      ·subst ej
       rw[hget]at hg
       cases hg
       exact⟨by omega,htg⟩
      ·exact hall j g (by omega) hg
     ·simp only[MU,a4];simp;omega
 ·have he:i=m.funcs.length:=by omega
  subst he
  have hfew:∀f∈m.funcs,zCk f:=fun f hf=>by
   obtain⟨j,hj,rfl⟩:=List.mem_iff_getElem.1 hf
   exact hall j _ hj (yau hj)
  by_cases hb:(40:Int)<(m.funcs.length:Int)
  ·have hb':40<m.funcs.length:=by omega
   simp[zin,zkS,a1,a4,hm2,hfl2,f1,hb,hb']
   exact h true _ (by simp) (A1.trans A)
  ·have hb':¬40<m.funcs.length:=by omega
   simp[zin,zkS,a1,a4,hm2,hfl2,f1,hb,hb']
   refine zow V hG hy (m:=m) ⟨fv,rfl,hft⟩ (zpd (by omega) hfew hf) ?_
   cases hck:zbW m with
   | error e =>
    have hne:¬e=0:=fun q=>by
     have:=zrI (m:=m) (by rw[hck];exact q)
     rw[hck]at this
     cases this
    simp[zmR,hne]
    exact h true _ (by simp) (A1.trans A)
   | ok u =>
    simp[zmR]
    exact h false _ (fun _=>⟨by omega,hfew,hck⟩) (A1.trans A)
end
end Go.Proofs.YtohfclafhegadaaGreatDoor



namespace Go.Proofs.YtohfclafhegadaaGreatDoor
open Go Go.Abs
theorem znm{w:W}(h:zdQ w=false):zD w=[]:=by
 simp only[zdQ,Bool.or_eq_false_iff,decide_eq_false_iff_not]at h
 unfold zD
 rw[if_neg (by omega),if_neg (by omega)]
theorem zpe{w:W}(h:w.op=11∨w.op=12∨w.op=13∧w.other<0):zD w=[w.body]:=by
 unfold zD
 rw[if_pos h]
theorem zpf{w:W}(h:w.op=13)(ho:0≤w.other):zD w=[w.body,w.other]:=by
 unfold zD
 rw[if_neg (by omega),if_pos h]
def gL(ls:To)(k:Nat):Nat:=(ls.getD k []).length
theorem zrN{B:Nat}{ls:To}(ha:zmT ls){d:Nat}{ws:List W}{acc acc':To}{toks:List Tok}{out:List W}(h:PrB B ls d ws acc toks out acc'):
  out.length+zc2 acc'=zc2 acc+ws.length+zhD (ws.flatMap zD) (zjT (gL ls) ls)∧acc'.length+2*zc2 acc≤acc.length+2*(out.length+zc2 acc'):=by
 have tot:∀{n:Int} {b:List W},ls[n.toNat]?=some b→zjT (gL ls) ls n.toNat=b.length+zhD (b.flatMap zD) (zjT (gL ls) ls):=fun {n b} hb=>by
  rw[zk8 (gL ls) ha hb]
  have:gL ls n.toNat=b.length:=by unfold gL;rw[ycg,hb];rfl
  rw[this]
 induction h with
 | nil=>simp[zhD]
 | @leaf d w r acc t r' acc' hn hf hr _ ih =>
  rw[yaa,znm hn,ycK]
  simp only[yac]
  omega
 | @one d w b r acc tb b' acc1 t r' acc' ho hd hb0 hb p1 p2 ih1 ih2 =>
  have e:=tot hb
  rw[yaa,zpe ho,zdN]
  rw[zbo]at ih2
  have e2:zhD [w.body] (zjT (gL ls) ls)=zjT (gL ls) ls w.body.toNat:=by simp[zhD]
  rw[e2,e]
  simp only[yac,yab,ybl]at *
  omega
 | @two d w b e r acc tb b' acc1 te e' acc2 t r' acc' ho hoo hd hb0 hb he p1 p2 p3 ih1 ih2 ih3 =>
  have q1:=tot hb
  have q2:=tot he
  rw[yaa,zpf ho hoo,zdN]
  rw[zbo]at ih2 ih3
  have e2:zhD [w.body,w.other] (zjT (gL ls) ls)=zjT (gL ls) ls w.body.toNat+zjT (gL ls) ls w.other.toNat:=by simp[zhD]
  rw[e2,q1,q2]
  simp only[yac,yab,ybl]at *
  omega
theorem zmt:∀(ls:To) (k:Nat),k≤ls.length→zaN (gL ls) k=zfr id (ls.take k)
 | ls,0,_=>by simp[zaN,zfr]
 | ls,k+1,h=>by
  rw[zaN,zmt ls k (by omega),ycp (by omega),zgq]
  have:gL ls k=ls[k].length:=by unfold gL;rw[ycg,yau (by omega)];rfl
  rw[this]
  simp[zfr]
theorem zpg{B:Nat}{fs:List F}{f:F}(h:zS fs f=.ok ()){toks:List Tok}{ls':To}(hp:zDA B f toks ls'):zc2 ls'=zfr id f.lists∧ls'.length≤1+2*zfr id f.lists∧(spT toks).length≤64*zfr id f.lists:=by
 obtain⟨h0,ha,ht⟩:=zjU (zgr h)
 obtain⟨row,out,acc,h1,h2,rfl⟩:=hp
 have e:=ht (gL f.lists)
 rw[zk8 (gL f.lists) ha h1,zmt _ _ (yah _),ycq]at e
 have e1:gL f.lists (f.lists.length-1)=row.length:=by unfold gL;rw[ycg,h1];rfl
 rw[e1]at e
 obtain⟨c1,c2⟩:=zrN ha h2
 have c3:=zAa h2
 have r0:zc2 []=0:=rfl
 rw[r0]at c1 c2 c3
 rw[zbo]
 simp only[yab,yac,ybl]at *
 omega
end Go.Proofs.YtohfclafhegadaaGreatDoor





























namespace Go.Proofs.YtohfclafhegadaaGreatDoor
open Go Go.Abs
theorem zuN{w:W}(h:RgW w):RgW (ziO w):=by
 have h1:=h.1
 have h2:=h.2
 unfold RgW ziO
 simp only
 split
 ·exact h
 ·omega
theorem zph{t:List UInt8}(h:zgU 24 t=true):t.length≤24:=by
 rw[zok]at h
 simp only[Bool.and_eq_true,decide_eq_true_eq]at h
 exact h.1.2
theorem zrO(m:M)(toks:List Tok)(h1:-(2^63)≤m.memory)(h2:m.memory<2^63):(zhg (zcm m toks)).length≤(spT toks).length+400:=by
 have hw:=(zeN (m.main+3)).1
 have i1:=Lib.itoa_length_le m.memory (by omega) (by omega)
 have i2:=Lib.itoa_length_le (yb4 .i64 (m.main+3)) (by omega) (by omega)
 have hh:za5.length=185:=by rfl
 have e1:(spT [Lib.itoa m.memory,zf,zf]).length=(Lib.itoa m.memory).length+5:=by simp[spT,zf]
 have e2:(spT [zu,zbM,zg8,zu,za6,Lib.itoa (yb4 .i64 (m.main+3)),zf,zf,zf]).length≤(Lib.itoa (yb4 .i64 (m.main+3))).length+60:=by
  simp[spT,zf,zu,zbM,zg8,za6]
 rw[zlt]
 simp only[yab,yac,ybl]
 omega
theorem zpi(op b o:Int):RgW { op:=op,ty:=0,n:=0,body:=b,other:=o,name:=[] }:=⟨by simp,by simp⟩
theorem zi2{acc:To}{b:List W}(h1:∀l∈acc,∀w∈l,RgW w)(h2:∀w∈b,RgW w):∀l∈acc++[b],∀w∈l,RgW w:=fun l hl=>by
 rcases ybh.1 hl with hl|hl
 ·exact h1 l hl
 ·simp at hl;subst hl;exact h2
theorem zlu{w:W}{l:List W}(h1:RgW w)(h2:∀w∈l,RgW w):∀v∈w::l,RgW v:=fun v hv=>by
 rcases ybC.1 hv with rfl|hv
 ·exact h1
 ·exact h2 v hv
theorem zDK{ls:To}{d:Nat}{ws:List W}{acc acc':To}{toks:List Tok}{out:List W}(h:Pr ls d ws acc toks out acc'):(∀l∈acc,∀w∈l,RgW w)→(∀w∈out,RgW w)∧∀l∈acc',∀w∈l,RgW w:=by
 induction h with
 | nil=>exact fun h=>⟨by simp,h⟩
 | leaf hn hf hr _ ih =>
  intro h
  obtain⟨a,b⟩:=ih h
  exact⟨zlu (zuN hr) a,b⟩
 | one _ _ _ _ _ _ ih1 ih2 =>
  intro h
  obtain⟨a1,b1⟩:=ih1 h
  obtain⟨a2,b2⟩:=ih2 (zi2 b1 a1)
  exact⟨zlu (zpi ..) a2,b2⟩
 | two _ _ _ _ _ _ _ _ _ ih1 ih2 ih3 =>
  intro h
  obtain⟨a1,b1⟩:=ih1 h
  obtain⟨a2,b2⟩:=ih2 (zi2 b1 a1)
  obtain⟨a3,b3⟩:=ih3 (zi2 b2 a2)
  exact⟨zlu (zpi ..) a3,b3⟩
theorem zkm{l:List W}:∀{ls:To},l∈ls→l.length≤zc2 ls
 | x::ls,h=>by
  simp only[zc2,yaL,List.sum_cons]
  rcases ybC.1 h with rfl|h
  ·omega
  ·have:=zkm h
   simp only[zc2]at this
   omega
section
variable {G : Env} {σ : AS} {R : Out → AS → Prop}
end
end Go.Proofs.YtohfclafhegadaaGreatDoor
