/- Parts of the proof of the row WatBackUpto: values, states and quiet operations of an abstract layer over the zKK rules; no condition. -/
import Derived.WalkKit
import Derived.Orders
import Derived.Defers
import Derived.Laws.StructEq
import Derived.ChangeKeysEq
import Derived.Laws.IdiomCopy
import Derived.Laws.Cells
import Derived.Laws.AppendOwn
import GoSem.Core.Utf8
import Derived.Lib.UnsafeStr
import Derived.RangeFuncIn
import Derived.RangeFuncRecord
import Derived.Laws.MakeOwn
import Derived.Laws.IdiomStrings
set_option linter.unusedSimpArgs false
set_option linter.unusedVariables false
open List renaming flatMap_cons→yaa,length_append→yab,length_cons→yac,replicate→yaj,getElem_map→yak,getElem?_eq_some_iff→yaq,getElem?_drop→yas,getElem?_append_left→yat,getElem?_eq_getElem→yau,getElem_mem→yaw,getElem_cons_zero→yaz,mem_of_mem_take→yaB,getElem_drop→yaD,getElem_take→yaE,getElem?_take→yaH,getElem?_append_right→yaI,map_cons→yaL,all_eq_true→yaM,eq_of_mem_replicate→yaP,mem_map→yaV,mem_map_of_mem→yaW,mem_toArray→ya2,foldlM_cons→ya5,foldlM_nil→ya6,range→ya7,getElem_range→ya8,getElem_of_mem→ya9,length_replicate→yba,length_map→ybb,length_range→ybc,length_take→ybf,mem_append→ybh,length_nil→ybl,length_pos_iff→ybm,getLast?_map→ybq,getElem_append_left→ybv
open Nat renaming add_mul→yad,one_mul→yae,add_comm→yaf,lt_of_lt_of_le→yag,le_refl→yah,le_trans→yai,add_assoc→yav,mul_le_mul_right→yax,not_lt_zero→yaA,zero_mul→yaC,add_zero→yaK,ne_of_lt→yaT,mul_pos→yaY,pos_of_ne_zero→yaZ,succ_lt_succ→ybn,eq_zero_or_pos→ybr,min→ybx
open Option renaming isSome_iff_exists→yay,map_none→yaF,map_some→yaG,some→yaR
open Array renaming getElem_toList→yal,getElem?_eq_getElem→yar,getElem?_setIfInBounds_ne→yaJ,range→yaN,size_map→yaO,getElem?_map→yaQ,getElem?_push→yaS,getElem?_eq_some_iff→yaU,map_empty→yaX,getElem?_modify→ya0,getElem_map→ya1,mem_toList_iff→ya3,ext'→ya4,size_append→ybg,getElem?_append_left→ybi,getElem?_append_right→ybj,getElem_mem→ybo,getElem_of_mem→ybp,mem_filter→ybs,eq_empty_of_size_eq_zero→ybt,empty_append→ybu,getElem_push_lt→ybw
open Int renaming natCast_mul→ybd,toNat_natCast→ybe,toNat_zero→ybk
open Go.IntKind renaming i64→yam,max→yan,signed→yao,bits→yap
namespace Go.Abs
open Go
inductive Own where
 | stat (full:Bool)
 | fam (f:Nat) (full:Bool)
def Own.full:Own→Bool
 | .stat b|.fam _ b=>b
inductive AV where
 | undef
 | bool (b:Bool)
 | int (k:IntKind) (n:Int)
 | str (s:List UInt8)
 | nilp
 | ptr (o off:Nat)
 | pv (φ:Own) (v:AV)
 | nilsl
 | sl (φ:Own) (sz:Nat) (xs:List AV)
 | slm (o off sz len:Nat)
 | fn (f:Fn) (first cap:List AV)
 | nilfn
 | iface (t:TypeId) (v:AV)
 | nilif
 | agg (cs:List AV)
 | tuple (vs:List AV)
 | mp (ks vs:List AV)
 | itr (f:Nat) (ks vs:List AV) (zcB:List Nat)
 | mpo (f:Nat) (ks vs:List AV)
 | pt (t n o off:Nat)
 | sit (f:Nat) (bs:List UInt8) (pos:Nat)
 | tys (e:Nat) (v:AV)
 | tyd (e:Nat) (v:AV)
 | lit (bs:List UInt8)
def AV.cells:AV→List AV
 | .agg cs=>cs
 | v=>[v]
def AV.one:AV→Bool
 | .agg _|.tuple _|.undef=>false
 | _=>true
def zy(xs:List AV):List AV:=xs.flatMap AV.cells
theorem zt(sz:Nat):∀(xs:List AV),(∀x∈xs,x.cells.length=sz)→(zy xs).length=xs.length*sz
 | [],_=>by simp[zy]
 | x::xs,h=>by
  have h1:=h x (by simp)
  have h2:=zt sz xs (fun y hy=>h y (by simp[hy]))
  simp only[zy,yaa,yab,yac]at *
  rw[h1,h2,yad];omega
theorem zcU(xs ys:List AV):zy (xs++ys)=zy xs++zy ys:=by simp[zy]
theorem ze0(sz:Nat):∀(xs:List AV) (i:Nat),(∀x∈xs,x.cells.length=sz)→(zy xs).drop (i*sz)=zy (xs.drop i)
 | xs,0,_=>by simp
 | [],i+1,_=>by simp[zy]
 | x::xs,i+1,h=>by
  have h1:=h x (by simp)
  have h2:=ze0 sz xs i (fun y hy=>h y (by simp[hy]))
  simp only[zy,yaa,List.drop_succ_cons]at *
  rw[←h2,yad,yae,yaf,←h1,←List.drop_drop]
  simp
inductive Role where
 | st (m:Bool)|fam (f:Nat)|obj
abbrev Role.stat:Role:=.st false
inductive FSt where
 | alive|spoiled|dead
structure Mp where
 role:Nat→Option Role
 obj:Nat→Nat × Nat
 no:Nat
 nf:Nat
structure AS where
 objs:Nat→Option (List AV)
 no:Nat
 F:Nat→FSt
 nf:Nat
def Mem(M:Mp)(F:Nat→FSt)(w:World):Own→Nat→Nat→Nat→Prop
 | .stat _,B,_,_=>∃m,M.role B=some (.st m)
 | .fam f _,B,off,n=>f<M.nf∧(F f≠.dead→M.role B=some (.fam f)∧∀j,j<n→(w.cell? ⟨B,off+j,none⟩).isSome=true∧w.frozen? ⟨B,off+j,none⟩=false)
def zm(F:Nat→FSt):Own→Prop
 | .stat _=>True
 | .fam f _=>F f=.alive
inductive At:AV→Value→Prop
 | bool (b:Bool):At (.bool b) (.bool b)
 | int (k:IntKind) (n:Int):At (.int k n) (.int k n)
 | str (s:ByteArray):At (.str s.data.toList) (.string s)
inductive AtV:AV→Value→Prop
 | one {v c} (h:At v c):AtV v c
 | agg (cs:List AV) (A:Array Value) (ha:A.size=cs.length) (va:∀j (h:j<cs.length) (h':j<A.size),At cs[j] A[j]):AtV (.agg cs) (.agg A)
structure zrV(ks vs:List AV)(es:Array MapEntry)(clock:Nat):Prop where
 size:es.size=ks.length
 vals:vs.length=ks.length
 key:∀i (h:i<ks.length) (h':i<es.size),At ks[i] es[i].key
 val:∀i (h:i<vs.length) (h':i<es.size),AtV vs[i] es[i].val
 born:∀i (h:i<es.size),es[i].born<clock
 inj:∀i j (h:i<es.size) (h':j<es.size),es[i].born=es[j].born→i=j
def zAF(role:Nat→Option Role)(w:World)(ks vs:List AV)(zcB:List Nat)(B:Nat):Prop :=
 ∃b es clock sn,w.heap[B]?=some (.mapIter (some b) clock sn clock)∧role b=some .stat∧w.heap[b]?=some (.map es clock)∧zrV ks vs es clock∧(∀i∈zcB,i<ks.length)∧sn.toList.map some=zcB.map fun i=>(es[i]?).map (·.born)
def zdj(w:World)(e:TypeId):Value→Prop
 | .slice none _ _=>True
 | .slice (some a) _ cap=>a.off=0∧a.spot=none∧cap≠0∧∃c z,w.heap[a.block]?=some (.cells c e z)∧cap≤c.size
 | _=>False
theorem zdj.slice{w e c}(h:zdj w e c):∃b n cap,c=.slice b n cap:=by
 unfold zdj at h
 split at h
 ·exact⟨_,_,_,rfl⟩
 ·exact⟨_,_,_,rfl⟩
 ·exact h.elim
inductive VR(M:Mp)(F:Nat→FSt)(w:World):AV→Value→Prop
 | undef (c:Value):VR M F w .undef c
 | bool (b:Bool):VR M F w (.bool b) (.bool b)
 | int (k:IntKind) (n:Int):VR M F w (.int k n) (.int k n)
 | str (s:ByteArray):VR M F w (.str s.data.toList) (.string s)
 | nilp:VR M F w .nilp (.pointer none)
 | ptr (o off:Nat) (h:o<M.no):VR M F w (.ptr o off) (.pointer (some ⟨(M.obj o).1,(M.obj o).2+off,none⟩))
 | pt (t n o off:Nat) (h:o<M.no) (hz:(M.obj o).2=0) (hb:∃c z,w.heap[(M.obj o).1]?=some (.cells c t z)∧c.size=n):VR M F w (.pt t n o off) (.pointer (some ⟨(M.obj o).1,off,none⟩))
 | pv (φ:Own) (v:AV) (B off:Nat) (cs:Nat→Value) (hm:Mem M F w φ B off v.cells.length)
   (hc:zm F φ→∀j,j<v.cells.length→w.cell? ⟨B,off+j,none⟩=some (cs j))
   (hv:zm F φ→∀j (h:j<v.cells.length),VR M F w v.cells[j] (cs j)):VR M F w (.pv φ v) (.pointer (some ⟨B,off,none⟩))
 | nilsl:VR M F w .nilsl (.slice none 0 0)
 | sl (φ:Own) (sz:Nat) (xs:List AV) (B off cap:Nat) (cs:Nat→Value) (hcap:xs.length≤cap) (hlit:φ.full=true→cap=xs.length) (hsz:∀x∈xs,x.cells.length=sz)
   (hm:Mem M F w φ B off (cap*sz))
   (hc:zm F φ→∀j,j<(zy xs).length→w.cell? ⟨B,off+j,none⟩=some (cs j))
   (hv:zm F φ→∀j (h:j<(zy xs).length),VR M F w (zy xs)[j] (cs j)):VR M F w (.sl φ sz xs) (.slice (some ⟨B,off,none⟩) xs.length cap)
 | slz (b:Bool) (sz:Nat) (a:Addr):VR M F w (.sl (.stat b) sz []) (.slice (some a) 0 0)
 | slm (o off sz len cap:Nat) (h:o<M.no) (hcap:len≤cap) (hroom:(∀m,M.role (M.obj o).1≠some (.st m))→∀j,j<cap*sz→(w.cell? ⟨(M.obj o).1,(M.obj o).2+off+j,none⟩).isSome=true∧w.frozen? ⟨(M.obj o).1,(M.obj o).2+off+j,none⟩=false) :
   VR M F w (.slm o off sz len) (.slice (some ⟨(M.obj o).1,(M.obj o).2+off,none⟩) len cap)
 | fn (f:Fn) (first cap:List AV) (A B:Array Value) (ha:A.size=first.length) (hb:B.size=cap.length)
   (va:∀j (h:j<first.length) (h':j<A.size),VR M F w first[j] A[j])
   (vb:∀j (h:j<cap.length) (h':j<B.size),VR M F w cap[j] B[j]):VR M F w (.fn f first cap) (.func f A B)
 | nilfn:VR M F w .nilfn .nilFunc
 | iface (t:TypeId) (v:AV) (c:Value) (h:VR M F w v c):VR M F w (.iface t v) (.iface t c)
 | nilif:VR M F w .nilif .nilIface
 | agg (cs:List AV) (A:Array Value) (ha:A.size=cs.length)
   (va:∀j (h:j<cs.length) (h':j<A.size),VR M F w cs[j] A[j]):VR M F w (.agg cs) (.agg A)
 | tuple (vs:List AV) (A:Array Value) (ha:A.size=vs.length)
   (va:∀j (h:j<vs.length) (h':j<A.size),VR M F w vs[j] A[j]):VR M F w (.tuple vs) (.tuple A)
 | mp (ks vs:List AV) (b:Nat) (es:Array MapEntry) (clock:Nat) (hm:M.role b=some .stat) (hh:w.heap[b]?=some (.map es clock)) (hr:zrV ks vs es clock):VR M F w (.mp ks vs) (.map (some b))
 | itr (f:Nat) (ks vs:List AV) (zcB:List Nat) (B:Nat) (hf:f<M.nf) (hm:F f≠.dead→M.role B=some (.fam f)) (hh:F f=.alive→zAF M.role w ks vs zcB B):VR M F w (.itr f ks vs zcB) (.pointer (some ⟨B,0,none⟩))
 | mpo (f:Nat) (ks vs:List AV) (B:Nat) (hf:f<M.nf) (hm:F f≠.dead→M.role B=some (.fam f)) (hh:F f=.alive→∃es clock,w.heap[B]?=some (.map es clock)∧zrV ks vs es clock):VR M F w (.mpo f ks vs) (.map (some B))
 | sit (f:Nat) (bs:List UInt8) (pos:Nat) (B:Nat) (hf:f<M.nf) (hm:F f≠.dead→M.role B=some (.fam f)) (hh:F f=.alive→w.heap[B]?=some (.stringIter ⟨bs.toArray⟩ pos)):VR M F w (.sit f bs pos) (.pointer (some ⟨B,0,none⟩))
 | tys (e:TypeId) (v:AV) (c:Value) (h:VR M F w v c) (ht:zdj w e c):VR M F w (.tys e v) c
 | tyd (e:TypeId) (v:AV) (a:Addr) (n cap:Nat) (h:VR M F w v (.slice (some a) n cap)) (ht:zdj w e (.slice (some a) n cap)):VR M F w (.tyd e v) (.pointer (some a))
 | lit (bs:List UInt8) (B:Nat) (e:TypeId) (z:Nat × Nat) (hm:M.role B=some (.st true)) (hh:w.heap[B]?=some (.cells (bs.map fun b=>Value.int .u8 b.toNat).toArray e z)) (hz:z=(0,0)∨z=(bs.length,bs.length+1)):VR M F w (.lit bs) (.slice (some ⟨B,0,none⟩) bs.length bs.length)
def zaM(w w':World):Prop:=w'.os=w.os∧w'.tape=w.tape∧w'.output=w.output
theorem zaM.refl(w):zaM w w:=⟨rfl,rfl,rfl⟩
theorem zaM.trans{a b c}(h:zaM a b)(k:zaM b c):zaM a c:=⟨k.1.trans h.1,k.2.1.trans h.2.1,k.2.2.trans h.2.2⟩
theorem At.vr{M F w v c}(h:At v c):VR M F w v c:=by
 cases h with
 | bool b=>exact .bool b
 | int k n=>exact .int k n
 | str s=>exact .str s
theorem AtV.vr{M F w v c}(h:AtV v c):VR M F w v c:=by
 cases h with
 | one h=>exact h.vr
 | agg cs A ha va=>exact .agg cs A ha fun j h h'=>(va j h h').vr
def zHB(r:Option Role)(w':World)(B:Nat)(c:Array Value)(e:TypeId)(z:Nat × Nat):Prop :=
 ∃c' z',w'.heap[B]?=some (.cells c' e z')∧c'.size=c.size∧((∀m,r≠some (.st m))→∀i,i<c.size→(decide (z'.1≤i)&&decide (i<z'.2))=true→(decide (z.1≤i)&&decide (i<z.2))=true)
theorem zHB.same{r:Option Role}{w':World}{B:Nat}{c c':Array Value}{e:TypeId}{z:Nat × Nat}(h:w'.heap[B]?=some (.cells c' e z))(hs:c'.size=c.size):zHB r w' B c e z:=⟨c',z,h,hs,fun _ _ _ h=>h⟩
def zdp(m:Bool)(w w':World)(B:Nat):Prop:=w'.heap[B]?=w.heap[B]?∨m=true∧∃c e,w.heap[B]?=some (.cells c e (0,0))∧w'.heap[B]?=some (.cells c e (c.size,c.size+1))
theorem zdp.exact{w w':World}{B:Nat}(h:zdp false w w' B):w'.heap[B]?=w.heap[B]?:=by
 rcases h with h|⟨h,_⟩
 ·exact h
 ·cases h
theorem zdp.trans{m:Bool}{a b c:World}{B:Nat}(h:zdp m a b B)(k:zdp m b c B):zdp m a c B:=by
 rcases h with h|⟨hm,x,e,h1,h2⟩
 ·rcases k with k|⟨hm,x,e,k1,k2⟩
  ·exact .inl (k.trans h)
  ·exact .inr ⟨hm,x,e,h.symm.trans k1,k2⟩
 ·rcases k with k|⟨_,y,e',k1,k2⟩
  ·exact .inr ⟨hm,x,e,h1,k.trans h2⟩
  ·rw[h2]at k1
   simp at k1
theorem zdp.cell{m:Bool}{w w':World}{B:Nat}(h:zdp m w w' B)(i:Nat):w'.cell? ⟨B,i,none⟩=w.cell? ⟨B,i,none⟩:=by
 rcases h with h|⟨_,x,e,h1,h2⟩
 ·simp[World.cell?,h]
 ·simp[World.cell?,h1,h2]
theorem zdp.map{m:Bool}{w w':World}{B:Nat}(h:zdp m w w' B){es:Array MapEntry}{c:Nat}(hm:w.heap[B]?=some (.map es c)):w'.heap[B]?=some (.map es c):=by
 rcases h with h|⟨_,x,e,h1,h2⟩
 ·exact h.trans hm
 ·rw[hm]at h1;cases h1
theorem zdp.cells{m:Bool}{w w':World}{B:Nat}(h:zdp m w w' B){c:Array Value}{e:TypeId}{z:Nat × Nat}(hm:w.heap[B]?=some (.cells c e z)):∃z',w'.heap[B]?=some (.cells c e z'):=by
 rcases h with h|⟨_,x,e,h1,h2⟩
 ·exact⟨z,h.trans hm⟩
 ·rw[hm]at h1;cases h1;exact⟨_,h2⟩
structure Ext(M:Mp)(F:Nat→FSt)(w:World)(M':Mp)(F':Nat→FSt)(w':World):Prop where
 io:zaM w w'
 no:M.no≤M'.no
 nf:M.nf≤M'.nf
 obj:∀o,o<M.no→M'.obj o=M.obj o
 dead:∀f,f<M.nf→F f=.dead→F' f=.dead
 spoil:∀f,f<M.nf→F f=.spoiled→F' f≠.alive
 size:w.heap.size≤w'.heap.size
 shape:∀(B:Nat) c e z,w.heap[B]?=some (.cells c e z)→zHB (M'.role B) w' B c e z
 stat:∀B m,M.role B=some (.st m)→M'.role B=some (.st m)∧zdp m w w' B
 free:∀B,B<w.heap.size→M.role B=none→M'.role B=none∧w'.heap[B]?=w.heap[B]?
 famr:∀B f,f<M.nf→M.role B=some (.fam f)→F' f≠.dead→M'.role B=some (.fam f)
 famc:∀B f,f<M.nf→M.role B=some (.fam f)→F' f=.alive→w'.heap[B]?=w.heap[B]?
theorem zp{w w':World}{B i:Nat}(h:w'.heap[B]?=w.heap[B]?):w'.cell? ⟨B,i,none⟩=w.cell? ⟨B,i,none⟩:=by
 simp[World.cell?,h]
theorem zq{w w':World}{B i:Nat}(h:w'.heap[B]?=w.heap[B]?):w'.frozen? ⟨B,i,none⟩=w.frozen? ⟨B,i,none⟩:=by
 simp[World.frozen?,h]
theorem zkO{w:World}{B i:Nat}(h:(w.cell? ⟨B,i,none⟩).isSome=true):∃c e z,w.heap[B]?=some (.cells c e z)∧i<c.size:=by
 unfold World.cell? at h
 split at h
 ·rename_i c e z hc
  refine⟨c,e,z,hc,?_⟩
  simpa using h
 ·simp at h
theorem Ext.keeps{M F w M' F' w'}(E:Ext M F w M' F' w'){B i:Nat}(h:(w.cell? ⟨B,i,none⟩).isSome=true)(hf:w.frozen? ⟨B,i,none⟩=false)(hn:∀m,M'.role B≠some (.st m)):
  (w'.cell? ⟨B,i,none⟩).isSome=true∧w'.frozen? ⟨B,i,none⟩=false:=by
 obtain⟨c,e,z,hc,hi⟩:=zkO h
 obtain⟨c',z',hc',hs,hz⟩:=E.shape B c e z hc
 constructor
 ·simp[World.cell?,hc',hs,hi]
 ·simp only[World.frozen?,hc]at hf
  simp only[World.frozen?,hc']
  cases hq:(decide (z'.1≤i)&&decide (i<z'.2))with
  | false=>rfl
  | true=>rw[hz hn i hi hq]at hf;cases hf
theorem Ext.alive{M F w M' F' w'}(E:Ext M F w M' F' w'){f:Nat}(hf:f<M.nf)(h:F' f=.alive):F f=.alive:=by
 cases hF:F f with
 | alive=>rfl
 | spoiled=>exact absurd h (E.spoil f hf hF)
 | dead=>rw[E.dead f hf hF]at h;cases h
theorem Ext.undead{M F w M' F' w'}(E:Ext M F w M' F' w'){f:Nat}(hf:f<M.nf)(h:F' f≠.dead):F f≠.dead :=
 fun hd=>h (E.dead f hf hd)
theorem Mem.mono{M F w M' F' w'}(E:Ext M F w M' F' w'){φ B off n}(h:Mem M F w φ B off n):Mem M' F' w' φ B off n:=by
 cases φ with
 | stat b=>obtain⟨m,h⟩:=h;exact⟨m,(E.stat B m h).1⟩
 | fam f b =>
  obtain⟨hf,h⟩:=h
  refine⟨yag hf E.nf,fun hd=>?_⟩
  obtain⟨hr,hk⟩:=h (E.undead hf hd)
  have hr':=E.famr B f hf hr hd
  exact⟨hr',fun j hj=>E.keeps (hk j hj).1 (hk j hj).2 (fun m e=>by rw[hr']at e;cases e)⟩
theorem Mem.readable{M F w M' F' w'}(E:Ext M F w M' F' w'){φ B off n}(h:Mem M F w φ B off n)(hr:zm F' φ):
  zm F φ∧∀i,w'.cell? ⟨B,i,none⟩=w.cell? ⟨B,i,none⟩:=by
 cases φ with
 | stat b=>obtain⟨m,h⟩:=h;exact⟨trivial,(E.stat B m h).2.cell⟩
 | fam f b =>
  have ha:=E.alive h.1 hr
  exact⟨ha,fun i=>zp (E.famc B f h.1 (h.2 (by rw[ha];simp)).1 hr)⟩
theorem zdj.mono{M F w M' F' w'}(E:Ext M F w M' F' w'){e c}(h:zdj w e c):zdj w' e c:=by
 unfold zdj at *
 split at h
 ·trivial
 ·obtain⟨h1,h2,h3,x,z,h4,h5⟩:=h
  obtain⟨x',z',h6,h7,_⟩:=E.shape _ x e z h4
  exact⟨h1,h2,h3,x',z',h6,by rw[h7];exact h5⟩
 ·exact h
theorem VR.mono{M F w M' F' w'}(E:Ext M F w M' F' w'){v:AV}{c:Value}(h:VR M F w v c):VR M' F' w' v c:=by
 induction h with
 | undef c=>exact .undef c
 | bool b=>exact .bool b
 | int k n=>exact .int k n
 | str s=>exact .str s
 | nilp=>exact .nilp
 | ptr o off h=>rw[←E.obj o h];exact .ptr o off (yag h E.no)
 | pt t n o off h hz hb =>
  obtain⟨c,z,h1,h2⟩:=hb
  obtain⟨c',z',h3,h4,_⟩:=E.shape _ c t z h1
  rw[←E.obj o h]
  exact .pt t n o off (yag h E.no) (by rw[E.obj o h];exact hz) ⟨c',z',by rw[E.obj o h];exact h3,by rw[h4,h2]⟩
 | pv φ v B off cs hm hc hv ih =>
  refine .pv φ v B off cs (hm.mono E) (fun hr j hj=>?_) (fun hr j hj=>?_)
  ·obtain⟨h1,h2⟩:=hm.readable E hr
   rw[h2];exact hc h1 j hj
  ·exact ih (hm.readable E hr).1 j hj
 | nilsl=>exact .nilsl
 | sl φ sz xs B off cap cs hcap hlit hsz hm hc hv ih =>
  refine .sl φ sz xs B off cap cs hcap hlit hsz (hm.mono E) (fun hr j hj=>?_) (fun hr j hj=>?_)
  ·obtain⟨h1,h2⟩:=hm.readable E hr
   rw[h2];exact hc h1 j hj
  ·exact ih (hm.readable E hr).1 j hj
 | slz b sz a=>exact .slz b sz a
 | slm o off sz len cap h hcap hr =>
  rw[←E.obj o h]
  refine .slm o off sz len cap (yag h E.no) hcap fun hn j hj=>?_
  rw[E.obj o h]at hn ⊢
  have hr':=hr (fun m e=>hn m (E.stat _ m e).1) j hj
  exact E.keeps hr'.1 hr'.2 hn
 | fn f first cap A B ha hb va vb iha ihb=>exact .fn f first cap A B ha hb iha ihb
 | nilfn=>exact .nilfn
 | tys e v c h ht ih=>exact .tys e v c ih (ht.mono E)
 | sit f bs pos B hf hm hh =>
  refine .sit f bs pos B (yag hf E.nf) (fun hd=>E.famr B f hf (hm (E.undead hf hd)) hd) fun ha=>?_
  have ha':=E.alive hf ha
  exact(E.famc B f hf (hm (by rw[ha'];simp)) ha).trans (hh ha')
 | tyd e v a n cap h ht ih=>exact .tyd e v a n cap ih (ht.mono E)
 | iface t v c h ih=>exact .iface t v c ih
 | nilif=>exact .nilif
 | agg cs A ha va ih=>exact .agg cs A ha ih
 | tuple vs A ha va ih=>exact .tuple vs A ha ih
 | mp ks vs b es clock hm hh hr=>exact .mp ks vs b es clock (E.stat b _ hm).1 ((E.stat b _ hm).2.map hh) hr
 | itr f ks vs zcB B hf hm hh =>
  refine .itr f ks vs zcB B (yag hf E.nf) (fun hd=>E.famr B f hf (hm (E.undead hf hd)) hd) fun ha=>?_
  have ha':=E.alive hf ha
  obtain⟨b,es,clock,sn,h1,h2,h3,h4⟩:=hh ha'
  exact⟨b,es,clock,sn,(E.famc B f hf (hm (by rw[ha'];simp)) ha).trans h1,(E.stat b _ h2).1,(E.stat b _ h2).2.map h3,h4⟩
 | mpo f ks vs B hf hm hh =>
  refine .mpo f ks vs B (yag hf E.nf) (fun hd=>E.famr B f hf (hm (E.undead hf hd)) hd) fun ha=>?_
  have ha':=E.alive hf ha
  obtain⟨es,clock,h1,h2⟩:=hh ha'
  exact⟨es,clock,(E.famc B f hf (hm (by rw[ha'];simp)) ha).trans h1,h2⟩
 | lit bs B e z hm hh hz =>
  rcases(E.stat B _ hm).2 with h|⟨_,c,e',h1,h2⟩
  ·exact .lit bs B e z (E.stat B _ hm).1 (h.trans hh) hz
  ·rw[hh]at h1
   cases h1
   refine .lit bs B e _ (E.stat B _ hm).1 h2 (.inr ?_)
   simp
theorem Ext.refl(M F w):Ext M F w M F w where
 io:=.refl _
 no:=yah _
 nf:=yah _
 obj _ _:=rfl
 dead _ _ h:=h
 spoil _ _ h:=by rw[h];simp
 size:=yah _
 shape _ _ _ _ h:=.same h rfl
 stat _ _ h:=⟨h,.inl rfl⟩
 free _ _ h:=⟨h,rfl⟩
 famr _ _ _ h _:=h
 famc _ _ _ _ _:=rfl
theorem Ext.trans{M F w M' F' w' M2 F2 w2}(E:Ext M F w M' F' w')(E2:Ext M' F' w' M2 F2 w2):Ext M F w M2 F2 w2 where
 io:=E.io.trans E2.io
 no:=yai E.no E2.no
 nf:=yai E.nf E2.nf
 obj o h:=by rw[E2.obj o (yag h E.no),E.obj o h]
 dead f h hd:=E2.dead f (yag h E.nf) (E.dead f h hd)
 spoil f h hd:=by
  have h':=yag h E.nf
  have h1:=E.spoil f h hd
  cases hF:F' f with
  | alive=>exact absurd hF h1
  | spoiled=>exact E2.spoil f h' hF
  | dead=>rw[E2.dead f h' hF];simp
 size:=yai E.size E2.size
 shape B c e z h:=by
  obtain⟨c1,z1,h1,s1,k1⟩:=E.shape B c e z h
  obtain⟨c2,z2,h2,s2,k2⟩:=E2.shape B c1 e z1 h1
  exact⟨c2,z2,h2,by rw[s2,s1],fun hn i hi hq=>k1 (fun m e=>hn m (E2.stat B m e).1) i hi (k2 hn i (by rw[s1];exact hi) hq)⟩
 stat B m h:=by
  obtain⟨a,b⟩:=E.stat B m h
  obtain⟨c,d⟩:=E2.stat B m a
  exact⟨c,b.trans d⟩
 free B hB h:=by
  obtain⟨a,b⟩:=E.free B hB h
  obtain⟨c,d⟩:=E2.free B (yag hB E.size) a
  exact⟨c,by rw[d,b]⟩
 famr B f hf h hd:=by
  have h':=yag hf E.nf
  exact E2.famr B f h' (E.famr B f hf h (E2.undead h' hd)) hd
 famc B f hf h ha:=by
  have h':=yag hf E.nf
  have ha':=E2.alive h' ha
  rw[E2.famc B f h' (E.famr B f hf h (by rw[ha'];simp)) ha,E.famc B f hf h ha']
theorem Ext.of_heap{M F w w'}(h:w'.heap=w.heap)(hio:zaM w w'):Ext M F w M F w' where
 io:=hio
 no:=yah _
 nf:=yah _
 obj _ _:=rfl
 dead _ _ h:=h
 spoil _ _ h:=by rw[h];simp
 size:=by rw[h];exact yah _
 shape _ _ _ _ h':=.same (by rw[h];exact h') rfl
 stat _ _ h':=⟨h',.inl (by rw[h])⟩
 free _ _ h':=⟨h',by rw[h]⟩
 famr _ _ _ h _:=h
 famc _ _ _ _ _:=by rw[h]
structure Sim(M:Mp)(σ:AS)(w:World):Prop where
 no:M.no=σ.no
 nf:M.nf=σ.nf
 role:∀B r,M.role B=some r→B<w.heap.size
 obj:∀o cs,σ.objs o=some cs→o<σ.no∧M.role (M.obj o).1=some .obj ∧
  ∀j (h:j<cs.length),∃c,w.cell? ⟨(M.obj o).1,(M.obj o).2+j,none⟩=some c∧w.frozen? ⟨(M.obj o).1,(M.obj o).2+j,none⟩=false∧VR M σ.F w cs[j] c
 inj:∀o o',(σ.objs o).isSome=true→(σ.objs o').isSome=true→(M.obj o).1=(M.obj o').1→o=o'
theorem Sim.of_heap{M σ w w'}(S:Sim M σ w)(h:w'.heap=w.heap)(hio:zaM w w'):Sim M σ w' where
 no:=S.no
 nf:=S.nf
 role B r hr:=by rw[h];exact S.role B r hr
 obj o cs ho:=by
  obtain⟨a,b,c⟩:=S.obj o cs ho
  refine⟨a,b,fun j hj=>?_⟩
  obtain⟨x,h1,h2,h3⟩:=c j hj
  exact⟨x,(zp (w:=w) (w':=w') (by rw[h])).trans h1,(zq (w:=w) (w':=w') (by rw[h])).trans h2,h3.mono (.of_heap h hio)⟩
 inj:=S.inj
structure Env where
 g:Nat→AV
 has:Nat→Prop
 y:Nat→List AV→AS→(AV→AS→Prop)→(AV→AS→Prop)→Prop
 fix:Nat→Option (Array Value):=fun _=>none
def znD:Value→AV
 | .bool b=>.bool b
 | .int k n=>.int k n
 | .string s=>.str s.data.toList
 | .pointer none=>.nilp
 | .slice none 0 0=>.nilsl
 | .nilFunc=>.nilfn
 | .nilIface=>.nilif
 | _=>.undef
def zdq:Value→AV
 | .agg cs=>.agg (cs.toList.map znD)
 | v=>znD v
def ev(G:Env)(a:Nat→AV):Operand→AV
 | .tmp t=>a t
 | .const v=>zdq v
 | .global g=>G.g g
 | .func f=>.fn (.func f) [] []
def upd{α:Type}(f:Nat→α)(i:Nat)(x:α):Nat→α:=fun j=>if j=i then x else f j
theorem ze{α:Type}(f:Nat→α)(i:Nat)(x:α):upd f i x i=x:=by simp[upd]
theorem zf{α:Type}(f:Nat→α){i j:Nat}(x:α)(h:j≠i):upd f i x j=f j:=by simp[upd,h]
def put(a:Nat→AV):Option Tmp→AV→Nat→AV
 | some d,v=>upd a d v
 | none,_=>a
structure FI where
 off:Nat
 size:Nat
 agg:Bool
def AV.known:AV→Bool
 | .undef=>false
 | _=>true
def zaO(P:Program)(t:TypeId):Bool :=
 match P.underlying t with
 | some (.struct _)|some (.array _ _)=>true
 | _=>false
def za9(P:Program)(t:TypeId):Option Nat :=
 match P.underlying t with
 | some _=>(P.info? t).map (·.size)
 | none=>none
def zba(P:Program)(t:TypeId)(i:Nat):Option FI :=
 match P.underlying t with
 | some (.struct fs) =>
  match fs[i]? with
  | some f=>match za9 P f.type with
   | some n=>if n=0 then none else some ⟨f.offset,n,zaO P f.type⟩
   | none=>none
  | none=>none
 | _=>none
def zcm(P:Program)(t:TypeId):Option Nat :=
 match P.underlying t with
 | some (.slice e)=>za9 P e
 | _=>none
def zpE(P:Program)(t:TypeId):Option (Nat × Nat × Bool) :=
 match P.underlying t with
 | some (.array n e)=>(za9 P e).map fun s=>(n,s,zaO P e)
 | _=>none
def zH(P:Program)(t:TypeId):Option AV:=((P.info? t).bind (·.zero)).map zdq
def za0(P:Program)(t:TypeId):Option AV :=
 match P.underlying t with
 | some (.slice e)=>zH P e
 | _=>none
def zdd(P:Program)(t:TypeId):Option IntKind :=
 match P.underlying t with
 | some (.int k)=>some k
 | _=>none
def zca(P:Program)(t:TypeId):Bool :=
 match P.underlying t with
 | some .string=>true
 | _=>false
def zaA(agg:Bool)(size off:Nat)(cs:List AV)(K:AV→Prop):Prop :=
 if agg then off+size≤cs.length∧K (.agg ((cs.drop off).take size))else ∃v,cs[off]?=some v∧K v
def zjs:TypeDesc→AV→AV→Option Bool
 | .bool,.bool a,.bool b=>some (a==b)
 | .int _,.int k a,.int k' b=>if k=k' then some (a==b)else none
 | .string,.str a,.str b=>some (a==b)
 | .pointer _,.nilp,.nilp=>some true
 | .pointer _,.nilp,.ptr _ _|.pointer _,.nilp,.pv _ _|.pointer _,.ptr _ _,.nilp|.pointer _,.pv _ _,.nilp=>some false
 | .slice _,.nilsl,.nilsl=>some true
 | .interface ms,.nilif,.nilif=>if ms.isEmpty then some true else none
 | .interface _,.nilif,.iface _ _|.interface _,.iface _ _,.nilif=>some false
 | .slice _,.nilsl,.sl _ _ _|.slice _,.nilsl,.slm _ _ _ _|.slice _,.sl _ _ _,.nilsl|.slice _,.slm _ _ _ _,.nilsl=>some false
 | _,_,_=>none
def zoH(P:Program):List Field→List AV→List AV→Option Bool
 | [],_,_=>some true
 | f::fs,xs,ys =>
  if f.name = "_" then none else
  match P.underlying f.type,xs[f.offset]?,ys[f.offset]? with
  | some d,some x,some y=>match zjs d x y with
   | some true=>zoH P fs xs ys
   | some false=>some false
   | none=>none
  | _,_,_=>none
def aeq(P:Program)(t:TypeId)(x y:AV):Option Bool :=
 match P.underlying t with
 | some (.struct fs)=>match x,y with
  | .agg xs,.agg ys=>if P.stoodInHeld t||P.eqGuardType P.depth t then none else zoH P fs.toList xs ys
  | _,_=>none
 | some d=>zjs d x y
 | none=>none
def zg0(op:BinOp)(a b:List UInt8)(K:AV→Prop):Prop :=
 match op with
 | .add=>(a.length+b.length<2^62)∧K (.str (a++b))
 | .eql=>K (.bool (a==b))
 | .neq=>K (.bool (!(a==b)))
 | .lss=>K (.bool (Op.bytesLess a b))
 | .leq=>K (.bool (Op.bytesLess a b||a==b))
 | .gtr=>K (.bool (!(Op.bytesLess a b||a==b)))
 | .geq=>K (.bool (!Op.bytesLess a b))
 | _=>False
def zbl(k:IntKind)(f:BitVec k.bits→BitVec k.bits→BitVec k.bits)(a b:Int):Int :=
 k.wrap (f (BitVec.ofInt k.bits a) (BitVec.ofInt k.bits b)).toNat
def zbG(op:BinOp)(k:IntKind)(a b:Int)(K:AV→Prop):Prop :=
 match op with
 | .add=>K (.int k (k.wrap (a+b)))
 | .sub=>K (.int k (k.wrap (a-b)))
 | .mul=>K (.int k (k.wrap (a*b)))
 | .quo=>b≠0∧K (.int k (k.wrap (a.tdiv b)))
 | .rem=>b≠0∧K (.int k (a.tmod b))
 | .and=>K (.int k (zbl k (· &&& ·) a b))
 | .or=>K (.int k (zbl k (· ||| ·) a b))
 | .xor=>K (.int k (zbl k (· ^^^ ·) a b))
 | .andNot=>K (.int k (zbl k (fun x y=>x &&& ~~~y) a b))
 | .eql=>K (.bool (decide (a=b)))
 | .neq=>K (.bool (!decide (a=b)))
 | .lss=>K (.bool (decide (a<b)))
 | .leq=>K (.bool (decide (a≤b)))
 | .gtr=>K (.bool (decide (b<a)))
 | .geq=>K (.bool (decide (b≤a)))
 | _=>False
def zjt(op:BinOp)(k:IntKind)(a b:Int)(K:AV→Prop):Prop :=
 match op with
 | .shl=>0≤b∧K (.int k (k.wrap (a*2^(min b.toNat k.bits))))
 | .shr=>0≤b∧K (.int k (a.fdiv (2^(min b.toNat k.bits))))
 | _=>False
def zbk(P:Program)(op:BinOp)(t:TypeId)(x y:AV)(K:AV→Prop):Prop :=
 match x,y with
 | .int k a,.int k' b=>match op with
  | .shl|.shr=>zjt op k a b K
  | _=>k=k'∧zbG op k a b K
 | .str a,.str b=>zg0 op a b K
 | x,y=>match op with
  | .eql=>∃r,aeq P t x y=some r∧K (.bool r)
  | .neq=>∃r,aeq P t x y=some r∧K (.bool (!r))
  | _=>False
def aun(op:UnOp)(x:AV)(K:AV→Prop):Prop :=
 match op,x with
 | .not,.bool b=>K (.bool (!b))
 | .neg,.int k n=>K (.int k (k.wrap (-n)))
 | .xor,.int k n=>K (.int k (zbl k (· ^^^ ·) (if k.signed then -1 else k.max) n))
 | _,_=>False
def zig(P:Program)(src dst:TypeId)(x:AV)(K:AV→Prop):Prop :=
 match x with
 | .int _ n=>∃k,zdd P dst=some k∧(P.underlying src).isSome∧K (.int k (k.wrap n))
 | .str s=>zca P dst=true∧(P.underlying src).isSome∧K (.str s)
 | _=>False
def zbS(a:Operand→AV)(d:Int):Option Operand→Option Int
 | none=>some d
 | some x=>match a x with
  | .int _ n=>some n
  | _=>none
def cut(φ:Own)(full:Bool):Own :=
 match φ with
 | .stat _=>.stat full
 | .fam f _=>.fam f full
def zcD(a:Operand→AV)(len:Nat)(lo hi mx:Option Operand)(K:Nat→Nat→Nat→Prop):Prop :=
 ∃l h m:Int,zbS a 0 lo=some l∧zbS a len hi=some h∧zbS a len mx=some m∧0≤l∧l≤h∧h≤m∧m≤len∧(mx.isSome→hi.isSome)∧K l.toNat h.toNat m.toNat
def zep(P:Program)(a:Operand→AV)(t:TypeId)(x:AV)(lo hi mx:Option Operand)(K:AV→Prop):Prop :=
 match x with
 | .str s=>zca P t=true∧mx=none∧zcD a s.length lo hi none fun l h _=>K (.str ((s.take h).drop l))
 | .nilsl=>(zcm P t).isSome=true∧zcD a 0 lo hi mx fun _ _ _=>K .nilsl
 | .sl φ sz xs=>zcm P t=some sz∧zcD a xs.length lo hi mx fun l h m=>K (.sl (cut φ (if mx.isSome then decide (m=h)else φ.full&&decide (h=xs.length))) sz ((xs.take h).drop l))
 | .slm o off sz len=>zcm P t=some sz∧mx=none∧zcD a len lo hi none fun l h _=>(l<len∨l=0)∧K (.slm o (off+l*sz) sz (h-l))
 | _=>False
def zu7(g:Bool)(n:Nat)(v:AV):Prop:=if g then v.cells.length=n else v.cells=[v]
def zw(P:Program)(t:TypeId)(x i:AV)(K:AV→Prop):Prop :=
 match x,i with
 | .sl φ sz xs,.int _ n=>zcm P t=some sz∧0≤n∧∃v,xs[n.toNat]?=some v∧K (.pv φ v)
 | .slm o off sz len,.int _ n=>zcm P t=some sz∧0≤n∧n<len∧K (.ptr o (off+n.toNat * sz))
 | .ptr o off,.int _ n=>∃l s g,zpE P t=some (l,s,g)∧0≤n∧n<(l:Nat)∧K (.ptr o (off+n.toNat * s))
 | .pv φ (.agg cs),.int _ n=>∃l s g,zpE P t=some (l,s,g)∧0≤n∧n<(l:Nat)∧zaA g s (n.toNat * s) cs fun v=>zu7 g s v∧K (.pv φ v)
 | _,_=>False
def zf1(P:Program)(t:TypeId)(x i:AV)(K:AV→Prop):Prop :=
 match x,i with
 | .str s,.int _ n=>zca P t=true∧0≤n∧∃b,s[n.toNat]?=some b∧K (.int .u8 b.toNat)
 | .agg cs,.int _ n=>∃l s g,zpE P t=some (l,s,g)∧0≤n∧n<(l:Nat)∧zaA g s (n.toNat * s) cs K
 | _,_=>False
def zav(P:Program)(t:TypeId)(x:AV)(f:Nat)(K:AV→Prop):Prop :=
 match x with
 | .ptr o off=>∃i,zba P t f=some i∧K (.ptr o (off+i.off))
 | .pt u n o off=>∃i,zba P t f=some i∧K (if f=0 then .pt u n o (off+i.off)else .ptr o (off+i.off))
 | .pv φ (.agg cs)=>∃i,zba P t f=some i∧zaA i.agg i.size i.off cs fun v=>zu7 i.agg i.size v∧K (.pv φ v)
 | _=>False
def zg1(P:Program)(t:TypeId)(x:AV)(f:Nat)(K:AV→Prop):Prop :=
 match x with
 | .agg cs=>∃i,zba P t f=some i∧zaA i.agg i.size i.off cs K
 | _=>False
def splice(cs:List AV)(off:Nat)(vs:List AV):List AV:=cs.take off++vs++cs.drop (off+vs.length)
def zju(P:Program)(t:TypeId)(a:Operand→AV):List (Nat × Operand)→List AV→(List AV→Prop)→Prop
 | [],cs,K=>K cs
 | (i,x)::rest,cs,K=>∃f,zba P t i=some f∧(a x).known=true∧(a x).cells.length=f.size∧f.off+f.size≤cs.length∧zju P t a rest (splice cs f.off (a x).cells) K
def zih(n sz:Nat)(a:Operand→AV):List (Nat × Operand)→List AV→(List AV→Prop)→Prop
 | [],cs,K=>K cs
 | (i,x)::rest,cs,K=>i<n∧(a x).known=true∧(a x).cells.length=sz∧zih n sz a rest (cs.set i (a x)) K
def zY(P:Program)(t:TypeId):Bool :=
 match P.underlying t with
 | some (.struct _)=>true
 | _=>false
def zej(P:Program)(t:TypeId):Bool :=
 match P.underlying t with
 | some (.struct fs)=>fs.toList.all fun f=>(za9 P f.type).isSome
 | _=>false
def ziG(P:Program)(t:TypeId)(a:Operand→AV)(parts:List (Nat × Operand))(K:AV→Prop):Prop :=
 (zY P t=true∧zej P t=true)∧∃z,zH P t=some z∧z.known=true∧zju P t a parts z.cells fun cs=>K (.agg cs)
def zaE(P:Program)(t:TypeId)(n:Nat)(a:Operand→AV)(parts:List (Nat × Operand))(K:AV→Prop):Prop :=
 ∃sz z,zcm P t=some sz∧za0 P t=some z∧z.cells.length=sz∧0<sz∧n*sz≤2^24∧zih n sz a parts (yaj n z) fun xs=>K (.sl (.stat true) sz xs)
def zsa(P:Program)(t:TypeId):Bool :=
 match P.underlying t with
 | some (.slice e)=>match P.underlying e with
  | some (.int .u8)=>true
  | _=>false
 | _=>false
def B(bs:List UInt8):List AV:=bs.map fun b=>.int .u8 b.toNat
def zAG(_:Nat)(ps:List (Nat × Operand)):Bool:=ps.length==108
def zHC(_:Nat)(ps:List (Nat × Operand)):Bool:=ps.length==108
def zg2(t:Nat):Bool:=t==88
def zf2(_:Nat)(ps:List (Nat × Operand)):Bool :=
 let k:=ps.map fun p=>match p.2 with
  | .const (.int .u8 n)=>n
  | _=>-1
 k==[101,110,118]||k==[0,97,115,109,1,0,0,0]||k==[109,97,105,110]||k==[110,97,109,101]
def zg3(P:Program)(t:TypeId)(n:Nat)(a:Operand→AV)(parts:List (Nat × Operand))(K:AV→Prop):Prop :=
 zaE P t n a parts fun v=>∃bs,v=.sl (.stat true) 1 (B bs)∧K (.lit bs)
def zsb(P:Program)(s d:TypeId)(x:AV)(K:AV→Prop):Prop :=
 match x with
 | .lit bs=>s=d∧zsa P s=true∧K (.sl (.stat true) 1 (B bs))
 | _=>zig P s d x K
def zg4(x:AV)(K:AV→Prop):Prop :=
 match x with
 | .tys e (.sl φ sz xs)=>K (.tyd e (.sl φ sz xs))
 | _=>False
def zgF(P:Program)(t:TypeId)(x:AV)(K:AV→Prop):Prop :=
 match x with
 | .str s=>zca P t=true∧K (.int .i64 s.length)
 | .nilsl=>(zcm P t).isSome=true∧K (.int .i64 0)
 | .sl _ _ xs=>(zcm P t).isSome=true∧K (.int .i64 xs.length)
 | .slm _ _ _ len=>(zcm P t).isSome=true∧K (.int .i64 len)
 | .tys _ .nilsl=>(zcm P t).isSome=true∧K (.int .i64 0)
 | .tys _ (.sl _ _ xs)=>(zcm P t).isSome=true∧K (.int .i64 xs.length)
 | _=>False
def zwd(P:Program)(t:TypeId)(x:AV)(K:AV→Prop):Prop :=
 match x with
 | .nilsl=>(zcm P t).isSome=true∧K (.int .i64 0)
 | .sl φ _ xs=>(zcm P t).isSome=true∧φ.full=true∧K (.int .i64 xs.length)
 | _=>False
def zap(P:Program)(t:TypeId):Option Bool :=
 match P.underlying t with
 | some (.interface _)=>some true
 | some _=>some false
 | none=>none
def zdk(P:Program)(op:BinOp)(t:TypeId)(y:Operand)(vx vy:AV)(K:AV→Prop):Prop :=
 match op,y,vx,vy with
 | .eql,.const .nilIface,.nilif,.nilif=>zap P t=some true∧K (.bool true)
 | .neq,.const .nilIface,.nilif,.nilif=>zap P t=some true∧K (.bool false)
 | _,_,_,_=>zbk P op t vx vy K
def zbH(P:Program)(a:Operand→AV):Op→(AV→Prop)→Prop
 | .move x,K|.assign x,K=>K (a x)
 | .pick c x y,K=>∃b,a c=.bool b∧K (if b then a x else a y)
 | .nilCheck x,K=>match a x with
  | .ptr _ _|.pv _ _|.fn (.func _) _ _|.pt _ _ _ _=>K (a x)
  | _=>False
 | .binOp op t x y _,K=>zdk P op t y (a x) (a y) K
 | .unOp op _ x,K=>aun op (a x) K
 | .convert s d x,K=>zsb P s d (a x) K
 | .makeInterface t x,K=>zap P t=some false∧K (.iface t (a x))
 | .typeAssert x _ t ok,K=>match a x with
  | .iface u v=>zap P t=some false∧u=t∧K (if ok then .tuple [v,.bool true]else v)
  | _=>False
 | .makeFunc f first cap,K=>K (.fn f (first.toList.map a) (cap.toList.map a))
 | .slice t x lo hi mx,K=>zep P a t (a x) lo hi mx K
 | .fieldAddr t x f,K=>zav P t (a x) f K
 | .field t x f,K=>zg1 P t (a x) f K
 | .indexAddr t x i,K=>zw P t (a x) (a i) K
 | .index t x i,K=>zf1 P t (a x) (a i) K
 | .extract x i,K=>match a x with
  | .tuple vs=>∃v,vs[i]?=some v∧K v
  | _=>False
 | .build t parts,K=>ziG P t a parts.toList K
 | .buildSlice t n parts,K=>if zf2 t parts.toList=true then zg3 P t n a parts.toList K else zaE P t n a parts.toList K
 | .call c,K=>match c.callee with
  | .builtin .len=>match c.argTypes.toList,c.args.toList with
   | [t],[x]=>zgF P t (a x) K
   | _,_=>False
  | .builtin .cap=>match c.argTypes.toList,c.args.toList with
   | [t],[x]=>zwd P t (a x) K
   | _,_=>False
  | .builtin .unsafeSliceData=>match c.args.toList with
   | [x]=>zg4 (a x) K
   | _=>False
  | .builtin .min=>match c.args.toList with
   | [x,y]=>match a x,a y with
    | .int k m,.int k' n=>k=k'∧K (.int k (min m n))
    | _,_=>False
   | _=>False
  | .builtin .max=>match c.args.toList with
   | [x,y]=>match a x,a y with
    | .int k m,.int k' n=>k=k'∧K (.int k (max m n))
    | _,_=>False
   | _=>False
  | _=>False
 | _,_=>False
def zco:Op→Bool
 | .move _|.assign _|.pick ..|.nilCheck _|.binOp ..|.unOp ..|.makeInterface ..|.typeAssert ..|.makeFunc ..|.slice ..|.fieldAddr ..|.field ..
 | .indexAddr ..|.index ..|.extract ..|.build ..=>true
 | .buildSlice t _ ps=>!zAG t ps.toList
 | .convert s d _=>s==d
 | .call c=>match c.callee with
  | .builtin .len|.builtin .cap|.builtin .unsafeSliceData|.builtin .min|.builtin .max=>true
  | _=>false
 | _=>false
theorem zcV(s:ByteArray):s.toList=s.data.toList:=ByteArray.toList_eq s
theorem VR.bool_inv{M F w b c}(h:VR M F w (.bool b) c):c=.bool b:=by cases h;rfl
theorem VR.int_inv{M F w k n c}(h:VR M F w (.int k n) c):c=.int k n:=by cases h;rfl
theorem VR.str_inv{M F w s c}(h:VR M F w (.str s) c):∃b:ByteArray,c=.string b∧b.data.toList=s:=by cases h;exact⟨_,rfl,rfl⟩
theorem VR.str'{M F w}{s:List UInt8}{b:ByteArray}(h:b.data.toList=s):VR M F w (.str s) (.string b):=by subst h;exact .str b
theorem zkP(M F w)(v:Value):VR M F w (znD v) v:=by
 unfold znD
 split<;>first|exact .undef _|constructor
theorem zbb(M F w)(v:Value):VR M F w (zdq v) v:=by
 unfold zdq
 split
 ·rename_i cs
  refine .agg _ _ (by simp) (fun j h h'=>?_)
  simp only[yak,yal]
  exact zkP ..
 ·exact zkP ..
def zAH(P:Program)(op:(Operand→Value)→Sem Value)(α:Operand→AV)(l:List Operand)(v:AV):Prop :=
 ∀(M:Mp) (F:Nat→FSt) (w:World) (ρ:Operand→Value),(∀B r,M.role B=some r→B<w.heap.size)→(∀x∈l,VR M F w (α x) (ρ x)) →
  ∃v' M' w',(op ρ).run P w=.ok v' w'∧VR M' F w' v v'∧Ext M F w M' F w'∧(∀σ,σ.F=F→Sim M σ w→Sim M' σ w')
theorem zj{P:Program}{t:TypeId}{n:Nat}(h:za9 P t=some n)(w:World):(sizeOf t).run P w=.ok n w:=by
 unfold za9 at h
 split at h
 case h_2=>cases h
 cases hi:P.info? t with
 | none=>simp[hi]at h
 | some i =>
  simp[hi]at h
  simp[sizeOf,typeInfo,hi,h]
theorem zd1{P:Program}{t:TypeId}{d:TypeDesc}(h:P.underlying t=some d)(w:World):(isAgg t).run P w=.ok (zaO P t) w:=by
 unfold zaO
 rw[h]
 cases d<;>simp[isAgg,run_underlying h]
def zHD:TypeDesc→Bool
 | .struct _|.array _ _=>true
 | _=>false
theorem zde{P:Program}{t:TypeId}{d:TypeDesc}(h:P.underlying t=some d)(hd:zHD d=false)(w:World):
  (isAgg t).run P w=.ok false w:=by
 cases d<;>first|(simp[zHD]at hd;done)|simp[isAgg,run_underlying h]
theorem zkQ{op k a b}{K:AV→Prop}(h:zbG op k a b K)(hs:op≠.shl∧op≠.shr)(P:Program)(t:TypeId):
  ∃v,K v∧∀M F w,∃v',(binOp op t (.int k a) (.int k b)).run P w=.ok v' w∧VR M F w v v':=by
 cases op<;>simp only[zbG]at h
 case quo=>exact⟨_,h.2,fun M F w=>⟨_,by simp[binOp,Op.intDiv,h.1]<;>rfl,.int ..⟩⟩
 case rem=>exact⟨_,h.2,fun M F w=>⟨_,by simp[binOp,Op.intDiv,h.1]<;>rfl,.int ..⟩⟩
 case add=>exact⟨_,h,fun M F w=>⟨_,by simp[binOp,Op.intArith]<;>rfl,.int ..⟩⟩
 case sub=>exact⟨_,h,fun M F w=>⟨_,by simp[binOp,Op.intArith]<;>rfl,.int ..⟩⟩
 case mul=>exact⟨_,h,fun M F w=>⟨_,by simp[binOp,Op.intArith]<;>rfl,.int ..⟩⟩
 case and=>exact⟨_,h,fun M F w=>⟨_,by simp[binOp,Op.intBits]<;>rfl,.int ..⟩⟩
 case or=>exact⟨_,h,fun M F w=>⟨_,by simp[binOp,Op.intBits]<;>rfl,.int ..⟩⟩
 case xor=>exact⟨_,h,fun M F w=>⟨_,by simp[binOp,Op.intBits]<;>rfl,.int ..⟩⟩
 case andNot=>exact⟨_,h,fun M F w=>⟨.int k (zbl k (fun x y=>x &&& ~~~y) a b),by simp only[binOp,Op.intBits];rw[if_neg (by simp)];rfl,.int ..⟩⟩
 case eql=>exact⟨_,h,fun M F w=>⟨_,by simp[binOp,Op.intCmp]<;>rfl,.bool ..⟩⟩
 case neq=>exact⟨_,h,fun M F w=>⟨_,by simp[binOp,Op.intCmp]<;>rfl,.bool ..⟩⟩
 case lss=>exact⟨_,h,fun M F w=>⟨_,by simp[binOp,Op.intCmp]<;>rfl,.bool ..⟩⟩
 case leq=>exact⟨_,h,fun M F w=>⟨_,by simp[binOp,Op.intCmp]<;>rfl,.bool ..⟩⟩
 case gtr=>exact⟨_,h,fun M F w=>⟨_,by simp[binOp,Op.intCmp]<;>rfl,.bool ..⟩⟩
 case geq=>exact⟨_,h,fun M F w=>⟨_,by simp[binOp,Op.intCmp]<;>rfl,.bool ..⟩⟩
theorem zeq{op k a b yk}{K:AV→Prop}(h:zjt op k a b K)(P:Program)(t:TypeId):
  ∃v,K v∧∀M F w,∃v',(binOp op t (.int k a) (.int yk b)).run P w=.ok v' w∧VR M F w v v':=by
 cases op<;>simp only[zjt]at h
 case shl=>exact⟨_,h.2,fun M F w=>⟨_,by simp[binOp,Op.shift,show ¬b<0 by omega]<;>rfl,.int ..⟩⟩
 case shr=>exact⟨_,h.2,fun M F w=>⟨_,by simp[binOp,Op.shift,show ¬b<0 by omega]<;>rfl,.int ..⟩⟩
theorem zkR{op a b}{K:AV→Prop}(h:zg0 op a b K)(P:Program)(t:TypeId):
    ∃v,K v∧∀M F w (x y:ByteArray),x.data.toList=a→y.data.toList=b→∃v',(binOp op t (.string x) (.string y)).run P w=.ok v' w∧VR M F w v v':=by
  cases op<;>simp only[zg0]at h
  case add =>
    refine⟨_,h.2,fun M F w x y hx hy=>⟨.string (x++y),?_,VR.str' ?_⟩⟩
    · have h1:x.size=a.length:=by rw[←hx];rfl
      have h2:y.size=b.length:=by rw[←hy];rfl
      have h3:¬(((x.size+y.size:Nat):Int) > yam.max):=by rw[h1,h2];simp[yan,yao,yap];omega
      simp only[binOp,Op.stringOp,if_neg h3,Sem.run_pure]
    · subst hx;subst hy;simp[ByteArray.data_append]
  all_goals first
    | exact h.elim
    | (refine⟨_,h,fun M F w x y hx hy=>⟨_,?_,.bool _⟩⟩
       simp only[binOp,Op.stringOp,Sem.run_pure,zcV,hx,hy])
theorem zfB{d x y r}(h:zjs d x y=some r){P:Program}{t:TypeId}(ht:P.underlying t=some d)(n:Nat){M F w x' y'}(hx:VR M F w x x')(hy:VR M F w y y'):
  (Op.equalIn (n+1) t x' y').run P w=.ok r w:=by
 unfold zjs at h
 split at h
 case h_17=>cases h
 case h_3 =>
  cases hx;cases hy
  simp at h
  simp[Op.equalIn,run_underlying ht,←h,beq_toListBytes,zcV]
 case h_2 =>
  cases hx;cases hy
  split at h
  ·rename_i hk;subst hk;simp at h;simp[Op.equalIn,run_underlying ht,←h]
  ·cases h
 all_goals
  cases hx<;>cases hy <;>
  first
   | (simp at h;simp[Op.equalIn,run_underlying ht,←h];done)
   | (cases h;simp[Op.equalIn,run_underlying ht])
theorem zkS{d x y r}(h:zjs d x y=some r):zHD d=false:=by
 unfold zjs at h
 split at h<;>first|rfl|cases h
theorem zmo{P:Program}{M F w}{xs ys:List AV}{A B:Array Value}(hA:A.size=xs.length)(hB:B.size=ys.length)
  (va:∀j (h:j<xs.length) (h':j<A.size),VR M F w xs[j] A[j]) (vb:∀j (h:j<ys.length) (h':j<B.size),VR M F w ys[j] B[j]) (n:Nat) :
  ∀(fs:List Field) (r:Bool),zoH P fs xs ys=some r→(Op.eqFields (n+1) A B fs).run P w=.ok r w:=by
 intro fs
 induction fs with
 | nil=>intro r h;simp[zoH]at h;simp[Op.eqFields,h]
 | cons f fs ih =>
  intro r h
  simp only[zoH]at h
  split at h
  ·cases h
  ·rename_i hn
   split at h
   ·rename_i d x y hd hx hy
    obtain⟨h1,e1⟩:=yaq.1 hx
    obtain⟨h2,e2⟩:=yaq.1 hy
    have v1:=va _ h1 (by omega)
    have v2:=vb _ h2 (by omega)
    rw[e1]at v1
    rw[e2]at v2
    split at h
    ·rename_i he
     have hag:(isAgg f.type).run P w=.ok false w:=zde hd (zkS he) w
     have hp1:(part f.type A f.offset).run P w=.ok A[f.offset] w:=by
      simp[part,hag,yar (show f.offset<A.size by omega)]
     have hp2:(part f.type B f.offset).run P w=.ok B[f.offset] w:=by
      simp[part,hag,yar (show f.offset<B.size by omega)]
     have hq:=zfB he hd n v1 v2
     simp[Op.eqFields,hn,hp1,hp2,hq,ih r h]
    ·rename_i he
     have hag:(isAgg f.type).run P w=.ok false w:=zde hd (zkS he) w
     have hp1:(part f.type A f.offset).run P w=.ok A[f.offset] w:=by
      simp[part,hag,yar (show f.offset<A.size by omega)]
     have hp2:(part f.type B f.offset).run P w=.ok B[f.offset] w:=by
      simp[part,hag,yar (show f.offset<B.size by omega)]
     have hq:=zfB he hd n v1 v2
     cases h
     simp[Op.eqFields,hn,hp1,hp2,hq]
    ·cases h
   ·cases h
theorem zpL{P:Program}{t x y r}(h:aeq P t x y=some r){M F w x' y'}(hx:VR M F w x x')(hy:VR M F w y y'):
  (Op.equal t x' y').run P w=.ok r w:=by
 unfold aeq at h
 split at h
 ·rename_i fs hd
  split at h
  ·rename_i xs ys
   split at h
   ·cases h
   ·rename_i hg
    simp at hg
    cases hx with
    | agg _ A ha va =>
    cases hy with
    | agg _ B hb vb =>
    have hf:P.fieldsOf t=fs:=by simp[Program.fieldsOf,hd]
    rw[show Op.equal t (.agg A) (.agg B)=Op.equalIn 10000 t (.agg A) (.agg B) from rfl,run_equalIn_struct w 9999 t A B (by rw[hf];exact hd) hg.1,hf]
    exact zmo ha hb va vb 9998 _ _ h
  ·cases h
 ·rename_i d hnot hd
  exact zfB h hd 9999 hx hy
 ·cases h
theorem zjv{P:Program}{t:TypeId}{ms:Array (String × TypeId)}(hd:P.underlying t=some (.interface ms))(h:ms.isEmpty=true)(n:Nat)(w:World):(Op.eqGuardIn (n+1) t .nilIface .nilIface).run P w=.ok false w:=by
 simp only[Op.eqGuardIn,Sem.run_bind,run_underlying hd,Result.andThen_ok,Sem.run_pure,h,Bool.not_true]
theorem zmp{P:Program}{op:BinOp}{t:TypeId}{ms:Array (String × TypeId)}(hd:P.underlying t=some (.interface ms))(h:ms.isEmpty=true)(xo yo:Operand)(w:World):(eqGuard op t xo yo .nilIface .nilIface).run P w=.ok () w:=by
 have e:(Op.eqGuardIn Op.maxDepth t .nilIface .nilIface).run P w=.ok false w:=zjv hd h 9999 w
 unfold eqGuard
 cases op<;>simp only[Bool.not_true,Bool.not_false,Bool.false_eq_true,if_false,if_true,Sem.run_pure]<;>(split<;>simp[Sem.run_bind,e,Result.andThen])
theorem ziH{P:Program}{op t x y r}(h:aeq P t x y=some r){M F w x' y'}(hx:VR M F w x x')(hy:VR M F w y y')(xo yo:Operand):
    (eqGuard op t xo yo x' y').run P w=.ok () w:=by
  unfold aeq at h
  split at h
  · rename_i fs hd
    split at h
    · split at h
      · cases h
      · rename_i hg
        simp at hg
        cases hx;cases hy
        exact run_eqGuard_agg w op t xo yo _ _ hg.2
    · cases h
  · rename_i d hnot hd
    unfold zjs at h
    split at h<;>first
      | (cases h;done)
      | (cases hx<;>cases hy<;>(cases op<;>simp[eqGuard];done))
      | (cases hx;cases hy
         split at h
         · exact zmp hd ‹_› xo yo w
         · cases h)
  · cases h
theorem zeD{P:Program}{op t k k' a b w}(xo yo:Operand):(eqGuard op t xo yo (.int k a) (.int k' b)).run P w=.ok () w:=by
 cases op<;>simp[eqGuard]
theorem zmq{P:Program}{op t a b w}(xo yo:Operand):(eqGuard op t xo yo (.string a) (.string b)).run P w=.ok () w:=by
 cases op<;>simp[eqGuard]
theorem ze1{P:Program}{t x y r}(h:aeq P t x y=some r){M F w x' y'}(hx:VR M F w x x')(hy:VR M F w y y')
  (hn:∀k k' a b,¬(x=.int k a∧y=.int k' b)) (hs:∀a b,¬(x=.str a∧y=.str b)) :
  (binOp .eql t x' y').run P w=.ok (.bool r) w∧(binOp .neq t x' y').run P w=.ok (.bool (!r)) w:=by
 have he:=zpL h hx hy
 have key:∀(k:IntKind) (a:Int) (k':IntKind) (b:Int),¬(x'=.int k a∧y'=.int k' b):=by
  rintro k a k' b ⟨rfl,rfl⟩
  cases hx<;>cases hy<;>first|exact hn _ _ _ _ ⟨rfl,rfl⟩|(unfold aeq zjs at h;(repeat' split at h)<;>simp_all)
 unfold aeq at h
 split at h
 ·split at h
  ·cases hx;cases hy;constructor<;>(simp only[binOp];simp[he])
  ·cases h
 ·unfold zjs at h
  split at h<;>first
   | (cases h;done)
   | exact absurd ⟨rfl,rfl⟩ (hn _ _ _ _)
   | exact absurd ⟨rfl,rfl⟩ (hs _ _)
   | (cases hx<;>cases hy<;>(constructor<;>(simp only[binOp];simp[he])))
   | cases h
 ·cases h
theorem zoI{P:Program}{op t x y}{K:AV→Prop}(h:zbk P op t x y K):
  ∃v,K v∧∀M F w x' y' xo yo,VR M F w x x'→VR M F w y y'→∃v',(do eqGuard op t xo yo x' y';binOp op t x' y':Sem Value).run P w=.ok v' w∧VR M F w v v':=by
 unfold zbk at h
 split at h
 ·rename_i k a k' b
  split at h
  ·obtain⟨v,hv,hh⟩:=zeq (yk:=k') h P t
   refine⟨v,hv,fun M F w x' y' xo yo hx hy=>?_⟩
   rw[hx.int_inv,hy.int_inv]
   obtain⟨v',h1,h2⟩:=hh M F w
   exact⟨v',by simp[zeD,h1],h2⟩
  ·obtain⟨v,hv,hh⟩:=zeq (yk:=k') h P t
   refine⟨v,hv,fun M F w x' y' xo yo hx hy=>?_⟩
   rw[hx.int_inv,hy.int_inv]
   obtain⟨v',h1,h2⟩:=hh M F w
   exact⟨v',by simp[zeD,h1],h2⟩
  ·rename_i n1 n2
   obtain⟨rfl,h⟩:=h
   obtain⟨v,hv,hh⟩:=zkQ h ⟨n1,n2⟩ P t
   refine⟨v,hv,fun M F w x' y' xo yo hx hy=>?_⟩
   rw[hx.int_inv,hy.int_inv]
   obtain⟨v',h1,h2⟩:=hh M F w
   exact⟨v',by simp[zeD,h1],h2⟩
 ·rename_i a b
  obtain⟨v,hv,hh⟩:=zkR h P t
  refine⟨v,hv,fun M F w x' y' xo yo hx hy=>?_⟩
  obtain⟨b1,rfl,e1⟩:=hx.str_inv
  obtain⟨b2,rfl,e2⟩:=hy.str_inv
  obtain⟨v',h1,h2⟩:=hh M F w b1 b2 e1 e2
  exact⟨v',by simp[zmq,h1],h2⟩
 ·rename_i n1 n2
  split at h
  ·obtain⟨r,hr,hk⟩:=h
   refine⟨_,hk,fun M F w x' y' xo yo hx hy=>⟨.bool r,?_,.bool r⟩⟩
   have:=(ze1 hr hx hy (fun k k' a b hh=>n1 k a k' b hh.1 hh.2) (fun a b hh=>n2 a b hh.1 hh.2)).1
   simp[ziH hr hx hy,this]
  ·obtain⟨r,hr,hk⟩:=h
   refine⟨_,hk,fun M F w x' y' xo yo hx hy=>⟨.bool (!r),?_,.bool _⟩⟩
   have:=(ze1 hr hx hy (fun k k' a b hh=>n1 k a k' b hh.1 hh.2) (fun a b hh=>n2 a b hh.1 hh.2)).2
   simp[ziH hr hx hy,this]
  ·exact h.elim
theorem zjw{xs:List AV}{sz i j:Nat}{v:AV}(hsz:∀x∈xs,x.cells.length=sz)(hv:xs[i]?=some v)(hj:j<v.cells.length):
  i*sz+j<(zy xs).length∧(zy xs)[i*sz+j]?=some v.cells[j]:=by
 have hd:=ze0 sz xs i hsz
 obtain⟨hi,hx⟩:=yaq.1 hv
 have hcons:xs.drop i=v::xs.drop (i+1):=by rw[←hx];exact List.drop_eq_getElem_cons hi
 have h1:(zy xs)[i*sz+j]?=((zy xs).drop (i*sz))[j]?:=by rw[yas]
 have h2:(zy xs)[i*sz+j]?=some v.cells[j]:=by
  rw[h1,hd,hcons]
  simp only[zy,yaa]
  rw[yat hj,yau hj]
 exact⟨(yaq.1 h2).1,h2⟩
theorem Mem.sub{M F w φ B off n}(h:Mem M F w φ B off n){d m:Nat}(hm:d+m≤n):Mem M F w φ B (off+d) m:=by
 cases φ with
 | stat b=>exact h
 | fam f b =>
  refine⟨h.1,fun hd=>⟨(h.2 hd).1,fun j hj=>?_⟩⟩
  have:=(h.2 hd).2 (d+j) (by omega)
  rw[yav]
  exact this
theorem zG(B off n:Nat):(⟨B,off,none⟩:Addr).add n=⟨B,off+n,none⟩:=by
 unfold Addr.add;split
 ·rename_i h;subst h;rfl
 ·rfl
theorem VR.elem{M F w φ sz xs a c cap}(h:VR M F w (.sl φ sz xs) c)(hcc:c=.slice (some a) xs.length cap){i:Nat}{v:AV}(hv:xs[i]?=some v):
  VR M F w (.pv φ v) (.pointer (some (a.add (i*sz)))):=by
 cases h with
 | slz=>simp at hv
 | sl _ _ _ B off _ cs hcap hlit hsz hm hc hv' =>
 cases hcc
 rw[zG]
 obtain⟨hi,hx⟩:=yaq.1 hv
 have hl:v.cells.length=sz:=hsz v (by rw[←hx];exact yaw hi)
 refine .pv φ v B (off+i*sz) (fun j=>cs (i*sz+j)) ?_ (fun hr j hj=>?_) (fun hr j hj=>?_)
 ·refine hm.sub (n:=cap*sz) ?_
  rw[hl]
  have:(i+1)*sz≤cap*sz:=yax _ (by omega)
  rw[yad,yae]at this
  exact this
 ·have:=hc hr (i*sz+j) (zjw hsz hv hj).1
  rw[yav];exact this
 ·obtain⟨h1,h2⟩:=zjw hsz hv hj
  have h3:=hv' hr _ h1
  obtain⟨_,h4⟩:=yaq.1 h2
  rw[h4]at h3
  exact h3
theorem zC{P:Program}{t sz}(h:zcm P t=some sz):∃e,P.underlying t=some (.slice e)∧za9 P e=some sz:=by
 unfold zcm at h
 split at h
 ·exact⟨_,‹_›,h⟩
 ·cases h
theorem zg5{P:Program}{t l s g}(h:zpE P t=some (l,s,g)):∃e,P.underlying t=some (.array l e)∧za9 P e=some s∧zaO P e=g:=by
 unfold zpE at h
 split at h
 ·rename_i n e hd
  cases hs:za9 P e with
  | none=>simp[hs]at h
  | some s'=>simp[hs]at h;obtain⟨rfl,rfl,rfl⟩:=h;exact⟨e,hd,hs,rfl⟩
 ·cases h
theorem zdr{P:Program}{t i f}(h:zba P t i=some f):
  ∃fs fd,P.underlying t=some (.struct fs)∧fs[i]?=some fd∧za9 P fd.type=some f.size∧f.size≠0∧fd.offset=f.off∧zaO P fd.type=f.agg:=by
 unfold zba at h
 split at h
 ·rename_i fs hd
  split at h
  ·rename_i fd hf
   split at h
   ·rename_i n hn
    split at h
    ·cases h
    ·simp at h;subst h;exact⟨fs,fd,hd,hf,hn,by assumption,rfl,rfl⟩
   ·cases h
  ·cases h
 ·cases h
theorem zgG{P:Program}{t:TypeId}{n:Nat}(h:za9 P t=some n):∃d,P.underlying t=some d:=by
 unfold za9 at h
 split at h
 ·exact⟨_,‹_›⟩
 ·cases h
theorem zpM{M F w cs c}(h:VR M F w (.agg cs) c):∃A:Array Value,c=.agg A∧A.size=cs.length∧∀j (h:j<cs.length) (h':j<A.size),VR M F w cs[j] A[j]:=by
 cases h;exact⟨_,rfl,‹_›,‹_›⟩
theorem zwe{M F w}{cs:List AV}{A:Array Value}(hA:A.size=cs.length)(va:∀j (h:j<cs.length) (h':j<A.size),VR M F w cs[j] A[j])(off n:Nat)(hn:off+n≤cs.length):
  VR M F w (.agg ((cs.drop off).take n)) (.agg (A.extract off (off+n))):=by
 refine .agg _ _ (by simp;omega) (fun j h h'=>?_)
 have h1:j<n:=by simp at h;omega
 have h3:=va (off+j) (by omega) (by omega)
 simpa using h3
theorem zf3{P:Program}{t:TypeId}{n off:Nat}{d:TypeDesc}(hd:P.underlying t=some d)(hn:za9 P t=some n){cs:List AV}{K:AV→Prop}(h:zaA (zaO P t) n off cs K):
  ∃v,K v∧∀M F w (A:Array Value),A.size=cs.length→(∀j (h:j<cs.length) (h':j<A.size),VR M F w cs[j] A[j])→∃v',(part t A off).run P w=.ok v' w∧VR M F w v v':=by
 unfold zaA at h
 split at h
 ·rename_i hg
  refine⟨_,h.2,fun M F w A hA va=>⟨.agg (A.extract off (off+n)),?_,zwe hA va off n h.1⟩⟩
  simp[part,zd1 hd,hg,zj hn]
 ·rename_i hg
  obtain⟨v,hv,hk⟩:=h
  obtain⟨hi,hx⟩:=yaq.1 hv
  refine⟨v,hk,fun M F w A hA va=>⟨A[off],?_,?_⟩⟩
  ·simp[part,zd1 hd,hg,yar (show off<A.size by omega)]
  ·have:=va off hi (by omega)
   rw[hx]at this;exact this
theorem zpN{op x}{K:AV→Prop}(h:aun op x K)(P:Program):
  ∃v,K v∧∀M F w x',VR M F w x x'→∃v',(Op.unary op x').run P w=.ok v' w∧VR M F w v v':=by
 unfold aun at h
 split at h
 ·refine⟨_,h,fun M F w x' hx=>⟨_,by rw[hx.bool_inv];simp[Op.unary]<;>rfl,.bool _⟩⟩
 ·rename_i k n
  refine⟨_,h,fun M F w x' hx=>⟨.int k (k.wrap (-n)),by rw[hx.int_inv];simp[Op.unary,Op.intArith],.int ..⟩⟩
 ·rename_i k n
  refine⟨_,h,fun M F w x' hx=>⟨.int k (zbl k (· ^^^ ·) (if k.signed then -1 else k.max) n),by rw[hx.int_inv];simp[Op.unary,Op.intBits,zbl],.int ..⟩⟩
 ·exact h.elim
theorem zah{P:Program}{t}(h:zca P t=true):P.underlying t=some .string:=by
 unfold zca at h
 split at h
 ·assumption
 ·cases h
theorem zg6{P:Program}{t k}(h:zdd P t=some k):P.underlying t=some (.int k):=by
 unfold zdd at h
 split at h
 ·simp at h;subst h;assumption
 ·cases h
theorem zeE{P:Program}{s d x}{K:AV→Prop}(h:zig P s d x K):
  ∃v,K v∧∀M F w x',VR M F w x x'→∃v',(convert s d x').run P w=.ok v' w∧VR M F w v v':=by
 unfold zig at h
 split at h
 ·rename_i k0 n
  obtain⟨k,hk,hs,hK⟩:=h
  obtain⟨ds,hs⟩:=yay.1 hs
  refine⟨_,hK,fun M F w x' hx=>⟨.int k (k.wrap n),?_,.int ..⟩⟩
  rw[hx.int_inv]
  simp[convert,run_underlying hs,run_underlying (zg6 hk),Conv.intToInt]
 ·obtain⟨hk,hs,hK⟩:=h
  obtain⟨ds,hs⟩:=yay.1 hs
  refine⟨_,hK,fun M F w x' hx=>?_⟩
  obtain⟨b,rfl,e⟩:=hx.str_inv
  refine⟨.string b,?_,VR.str' e⟩
  simp[convert,run_underlying hs,run_underlying (zah hk)]
 ·exact h.elim
theorem zkT{P:Program}{t x i}{K:AV→Prop}(h:zf1 P t x i K):
  ∃v,K v∧∀M F w x' i',VR M F w x x'→VR M F w i i'→∃v',(Instr.index t x' i').run P w=.ok v' w∧VR M F w v v':=by
 unfold zf1 at h
 split at h
 ·rename_i s k n
  obtain⟨hs,h0,b,hb,hK⟩:=h
  refine⟨_,hK,fun M F w x' i' hx hi=>?_⟩
  obtain⟨bs,rfl,e⟩:=hx.str_inv
  rw[hi.int_inv]
  refine⟨.int .u8 b.toNat,?_,.int ..⟩
  subst e
  have hb':bs[n.toNat]?=some b:=by
   obtain⟨h1,h2⟩:=yaq.1 hb
   rw[getElem?_pos bs n.toNat (by simpa using h1)]
   rw[←h2];rfl
  simp[Instr.index,asIntOf,run_underlying (zah hs),h0,hb']
 ·rename_i cs k n
  obtain⟨l,s,g,har,h0,hl,hp⟩:=h
  obtain⟨e,he,hs,rfl⟩:=zg5 har
  obtain⟨d,hd⟩:=zgG hs
  obtain⟨v,hK,hh⟩:=zf3 hd hs hp
  refine⟨v,hK,fun M F w x' i' hx hi=>?_⟩
  obtain⟨A,rfl,hA,va⟩:=zpM hx
  rw[hi.int_inv]
  obtain⟨v',h1,h2⟩:=hh M F w A hA va
  exact⟨v',by simp[Instr.index,asIntOf,run_underlying he,h0,hl,zj hs,h1],h2⟩
 ·exact h.elim
theorem zkU{P:Program}{t x f}{K:AV→Prop}(h:zg1 P t x f K):
  ∃v,K v∧∀M F w x',VR M F w x x'→∃v',(Instr.field t x' f).run P w=.ok v' w∧VR M F w v v':=by
 unfold zg1 at h
 split at h
 ·rename_i cs
  obtain⟨i,hi,hp⟩:=h
  obtain⟨fs,fd,hu,hf,hs,hne,ho,hg⟩:=zdr hi
  obtain⟨d,hd⟩:=zgG hs
  rw[←hg]at hp
  obtain⟨v,hK,hh⟩:=zf3 hd hs hp
  refine⟨v,hK,fun M F w x' hx=>?_⟩
  obtain⟨A,rfl,hA,va⟩:=zpM hx
  obtain⟨v',h1,h2⟩:=hh M F w A hA va
  exact⟨v',by simp[Instr.field,run_underlying hu,hf,asAgg,ho,h1],h2⟩
 ·exact h.elim
theorem zu8{φ cs}{d n:Nat}{g:Bool}{K:AV→Prop}(hp:zaA g n d cs fun v=>zu7 g n v∧K v):
  ∃v,K v∧∀M F w B off,VR M F w (.pv φ (.agg cs)) (.pointer (some ⟨B,off,none⟩))→VR M F w (.pv φ v) (.pointer (some ⟨B,off+d,none⟩)):=by
 unfold zaA at hp
 split at hp
 ·rename_i hg
  obtain⟨hn,hl,hK⟩:=hp
  simp only[zu7,hg,if_true]at hl
  refine⟨_,hK,fun M F w B off h=>?_⟩
  cases h with
  | pv _ _ _ _ c hm hc hv =>
  refine .pv φ _ B (off+d) (fun j=>c (d+j)) ?_ (fun hr j hj=>?_) (fun hr j hj=>?_)
  ·rw[hl];exact hm.sub (by simpa [AV.cells]using hn)
  ·rw[yav];exact hc hr _ (by simp[AV.cells]at hj ⊢;omega)
  ·have:=hv hr (d+j) (by simp[AV.cells]at hj ⊢;omega)
   simpa [AV.cells]using this
 ·rename_i hg
  obtain⟨v,hx,hone,hK⟩:=hp
  obtain⟨hi,hx'⟩:=yaq.1 hx
  simp only[zu7,hg]at hone
  have hone:v.cells=[v]:=hone
  refine⟨v,hK,fun M F w B off h=>?_⟩
  cases h with
  | pv _ _ _ _ c hm hc hv =>
  refine .pv φ v B (off+d) (fun _=>c d) ?_ (fun hr j hj=>?_) (fun hr j hj=>?_)
  ·rw[hone];exact hm.sub (by simp[AV.cells];omega)
  ·have:j=0:=by rw[hone]at hj;simp at hj;omega
   subst this
   exact hc hr d (by simpa [AV.cells]using hi)
  ·have:j=0:=by rw[hone]at hj;simp at hj;omega
   subst this
   have h3:=hv hr d (by simpa [AV.cells]using hi)
   simp only[AV.cells,hx']at h3
   simp only[hone,yaz]
   exact h3
theorem zpO{M F w φ v c}(h:VR M F w (.pv φ v) c):∃B off,c=.pointer (some ⟨B,off,none⟩):=by cases h;exact⟨_,_,rfl⟩
theorem zfC{M F w o off c}(h:VR M F w (.ptr o off) c):o<M.no∧c=.pointer (some ⟨(M.obj o).1,(M.obj o).2+off,none⟩):=by cases h;exact⟨‹_›,rfl⟩
theorem znE{M F w t n o off c}(h:VR M F w (.pt t n o off) c):o<M.no∧(M.obj o).2=0∧(∃c z,w.heap[(M.obj o).1]?=some (.cells c t z)∧c.size=n)∧c=.pointer (some ⟨(M.obj o).1,off,none⟩):=by cases h;exact⟨‹_›,‹_›,‹_›,rfl⟩
theorem ze2{M F w φ sz xs c}(h:VR M F w (.sl φ sz xs) c):∃a cap,c=.slice (some a) xs.length cap∧xs.length≤cap:=by cases h;exact⟨_,_,rfl,‹_›⟩;exact⟨_,_,rfl,yah _⟩
theorem zfD{M F w f b sz xs c}(h:VR M F w (.sl (.fam f b) sz xs) c):∃B off cap,c=.slice (some ⟨B,off,none⟩) xs.length cap∧xs.length≤cap:=by cases h;exact⟨_,_,_,rfl,‹_›⟩
theorem zmr{M F w o off sz len c}(h:VR M F w (.slm o off sz len) c):o<M.no∧∃cap,len≤cap∧c=.slice (some ⟨(M.obj o).1,(M.obj o).2+off,none⟩) len cap:=by
 cases h with|slm _ _ _ _ cap h1 h2 h3=>exact⟨h1,cap,h2,rfl⟩
theorem znF{M F w o off sz len c}(h:VR M F w (.slm o off sz len) c):o<M.no∧∃cap,len≤cap∧c=.slice (some ⟨(M.obj o).1,(M.obj o).2+off,none⟩) len cap∧((∀m,M.role (M.obj o).1≠some (.st m))→∀j,j<cap*sz→(w.cell? ⟨(M.obj o).1,(M.obj o).2+off+j,none⟩).isSome=true∧w.frozen? ⟨(M.obj o).1,(M.obj o).2+off+j,none⟩=false):=by
 cases h with|slm _ _ _ _ cap h1 h2 h3=>exact⟨h1,cap,h2,rfl,h3⟩
theorem zaS{M F w c}(h:VR M F w .nilsl c):c=.slice none 0 0:=by cases h;rfl
theorem zgu{P:Program}{t x f}{K:AV→Prop}(h:zav P t x f K):
  ∃v,K v∧∀M F w x',VR M F w x x'→∃v',(Instr.fieldAt t x' f).run P w=.ok v' w∧VR M F w v v':=by
 unfold zav at h
 split at h
 ·rename_i o off
  obtain⟨i,hi,hK⟩:=h
  obtain⟨fs,fd,hu,hf,hs,hne,ho,hg⟩:=zdr hi
  refine⟨_,hK,fun M F w x' hx=>?_⟩
  obtain⟨hlt,rfl⟩:=zfC hx
  refine⟨_,?_,.ptr o (off+i.off) hlt⟩
  simp[Instr.fieldAt,run_underlying hu,hf,Instr.sureAddr,fieldPlace,zj hs,hne,ho,zG,yav]
 ·rename_i u n o off
  obtain⟨i,hi,hK⟩:=h
  obtain⟨fs,fd,hu,hf,hs,hne,ho,hg⟩:=zdr hi
  refine⟨_,hK,fun M F w x' hx=>?_⟩
  obtain⟨hlt,hz,hb,rfl⟩:=znE hx
  refine⟨.pointer (some ⟨(M.obj o).1,off+i.off,none⟩),?_,?_⟩
  ·simp[Instr.fieldAt,run_underlying hu,hf,Instr.sureAddr,fieldPlace,zj hs,hne,ho,zG,yav]
  ·split
   ·exact .pt u n o (off+i.off) hlt hz hb
   ·have:=VR.ptr (M:=M) (F:=F) (w:=w) o (off+i.off) hlt
    rw[hz,Nat.zero_add]at this
    exact this
 ·rename_i φ cs
  obtain⟨i,hi,hp⟩:=h
  obtain⟨fs,fd,hu,hf,hs,hne,ho,hg⟩:=zdr hi
  obtain⟨v,hK,hh⟩:=zu8 (φ:=φ) hp
  refine⟨_,hK,fun M F w x' hx=>?_⟩
  obtain⟨B,off,rfl⟩:=zpO hx
  refine⟨_,?_,hh M F w B off hx⟩
  simp[Instr.fieldAt,run_underlying hu,hf,Instr.sureAddr,fieldPlace,zj hs,hne,ho,zG]
 ·exact h.elim
theorem zgv{P:Program}{t x i}{K:AV→Prop}(h:zw P t x i K):
  ∃v,K v∧∀M F w x' i',VR M F w x x'→VR M F w i i'→∃v',(Instr.indexAt t x' i').run P w=.ok v' w∧VR M F w v v':=by
 unfold zw at h
 split at h
 ·rename_i φ sz xs k n
  obtain⟨he,h0,v,hv,hK⟩:=h
  obtain⟨e,hu,hs⟩:=zC he
  refine⟨_,hK,fun M F w x' i' hx hi=>?_⟩
  rw[hi.int_inv]
  obtain⟨a,cap,rfl,hcap⟩:=ze2 hx
  refine⟨_,?_,hx.elem rfl hv⟩
  have hl:n<(xs.length:Int):=by
   have:=(yaq.1 hv).1
   omega
  simp[Instr.indexAt,asIntOf,run_underlying hu,h0,hl,zj hs]
 ·rename_i o off sz len k n
  obtain⟨he,h0,hl,hK⟩:=h
  obtain⟨e,hu,hs⟩:=zC he
  refine⟨_,hK,fun M F w x' i' hx hi=>?_⟩
  rw[hi.int_inv]
  obtain⟨hlt,cap,hcap,rfl⟩:=zmr hx
  refine⟨_,?_,.ptr o _ hlt⟩
  simp[Instr.indexAt,asIntOf,run_underlying hu,h0,hl,zj hs,zG,yav]
 ·rename_i o off k n
  obtain⟨l,s,g,har,h0,hl,hK⟩:=h
  obtain⟨e,hu,hs,rfl⟩:=zg5 har
  refine⟨_,hK,fun M F w x' i' hx hi=>?_⟩
  rw[hi.int_inv]
  obtain⟨hlt,rfl⟩:=zfC hx
  refine⟨_,?_,.ptr o _ hlt⟩
  simp[Instr.indexAt,Instr.sureAddr,asIntOf,run_underlying hu,h0,hl,zj hs,zG,yav]
 ·rename_i φ cs k n
  obtain⟨l,s,g,har,h0,hl,hp⟩:=h
  obtain⟨e,hu,hs,rfl⟩:=zg5 har
  obtain⟨v,hK,hh⟩:=zu8 (φ:=φ) hp
  refine⟨_,hK,fun M F w x' i' hx hi=>?_⟩
  rw[hi.int_inv]
  obtain⟨B,off,rfl⟩:=zpO hx
  refine⟨_,?_,hh M F w B off hx⟩
  simp[Instr.indexAt,Instr.sureAddr,asIntOf,run_underlying hu,h0,hl,zj hs,zG]
 ·exact h.elim
theorem zoJ{P:Program}{t x}{K:AV→Prop}(h:zwd P t x K):
  ∃v,K v∧∀M F w x' ty,VR M F w x x'→∃v',(Builtin.cap_ #[t] ty #[x']).run P w=.ok v' w∧VR M F w v v':=by
 unfold zwd at h
 split at h
 ·obtain⟨he,hK⟩:=h
  obtain⟨sz,he⟩:=yay.1 he
  obtain⟨e,hu,hs⟩:=zC he
  refine⟨_,hK,fun M F w x' ty hx=>⟨.int .i64 0,?_,.int ..⟩⟩
  rw[zaS hx]
  simp[Builtin.cap_,run_underlying hu,goInt]
 ·rename_i φ z xs
  obtain⟨he,hf,hK⟩:=h
  obtain⟨sz,he⟩:=yay.1 he
  obtain⟨e,hu,hs⟩:=zC he
  refine⟨_,hK,fun M F w x' ty hx=>⟨.int .i64 xs.length,?_,.int ..⟩⟩
  cases hx with
  | sl _ _ _ B off cap cs hcap hlit hsz hm hc hv =>
   have:=hlit hf
   subst this
   simp[Builtin.cap_,run_underlying hu,goInt]
  | slz=>simp[Builtin.cap_,run_underlying hu,goInt]
 ·exact h.elim
theorem zkV{P:Program}{x}{K:AV→Prop}(h:zg4 x K):
  ∃v,K v∧∀M F w x' ts ty,VR M F w x x'→∃v',(Builtin.unsafeSliceData_ ts ty #[x']).run P w=.ok v' w∧VR M F w v v':=by
 unfold zg4 at h
 split at h
 ·rename_i e φ sz xs
  refine⟨_,h,fun M F w x' ts ty hx=>?_⟩
  cases hx with
  | tys _ _ _ hx ht =>
  obtain⟨a,cap,rfl,_⟩:=ze2 hx
  have hc:cap≠0:=ht.2.2.1
  obtain⟨k,rfl⟩:∃k,cap=k+1:=⟨cap-1,by omega⟩
  exact⟨.pointer (some a),rfl,.tyd e _ a _ _ hx ht⟩
 ·exact h.elim
theorem zoK{P:Program}{t x}{K:AV→Prop}(h:zgF P t x K):
  ∃v,K v∧∀M F w x' ty,VR M F w x x'→∃v',(Builtin.len_ #[t] ty #[x']).run P w=.ok v' w∧VR M F w v v':=by
 unfold zgF at h
 split at h
 ·obtain⟨hs,hK⟩:=h
  refine⟨_,hK,fun M F w x' ty hx=>?_⟩
  obtain⟨b,rfl,rfl⟩:=hx.str_inv
  refine⟨.int .i64 b.data.toList.length,?_,.int ..⟩
  simp[Builtin.len_,run_underlying (zah hs),goInt]
 ·obtain⟨he,hK⟩:=h
  obtain⟨sz,he⟩:=yay.1 he
  obtain⟨e,hu,hs⟩:=zC he
  refine⟨_,hK,fun M F w x' ty hx=>⟨.int .i64 0,?_,.int ..⟩⟩
  rw[zaS hx]
  simp[Builtin.len_,run_underlying hu,goInt]
 ·rename_i φ z xs
  obtain⟨he,hK⟩:=h
  obtain⟨sz,he⟩:=yay.1 he
  obtain⟨e,hu,hs⟩:=zC he
  refine⟨_,hK,fun M F w x' ty hx=>⟨.int .i64 xs.length,?_,.int ..⟩⟩
  obtain⟨a,cap,rfl,_⟩:=ze2 hx
  simp[Builtin.len_,run_underlying hu,goInt]
 ·rename_i o off z len
  obtain⟨he,hK⟩:=h
  obtain⟨sz,he⟩:=yay.1 he
  obtain⟨e,hu,hs⟩:=zC he
  refine⟨_,hK,fun M F w x' ty hx=>⟨.int .i64 len,?_,.int ..⟩⟩
  obtain⟨_,cap,_,rfl⟩:=zmr hx
  simp[Builtin.len_,run_underlying hu,goInt]
 ·obtain⟨he,hK⟩:=h
  obtain⟨sz,he⟩:=yay.1 he
  obtain⟨e,hu,hs⟩:=zC he
  refine⟨_,hK,fun M F w x' ty hx=>⟨.int .i64 0,?_,.int ..⟩⟩
  cases hx with
  | tys _ _ _ hx _ =>
  rw[zaS hx]
  simp[Builtin.len_,run_underlying hu,goInt]
 ·rename_i e0 φ z xs
  obtain⟨he,hK⟩:=h
  obtain⟨sz,he⟩:=yay.1 he
  obtain⟨e,hu,hs⟩:=zC he
  refine⟨_,hK,fun M F w x' ty hx=>⟨.int .i64 xs.length,?_,.int ..⟩⟩
  cases hx with
  | tys _ _ _ hx _ =>
  obtain⟨a,cap,rfl,_⟩:=ze2 hx
  simp[Builtin.len_,run_underlying hu,goInt]
 ·exact h.elim
theorem zeF{α:Operand→AV}{d n:Int}{x:Operand}(h:zbS α d (some x)=some n):∃k,α x=.int k n:=by
 unfold zbS at h
 split at h
 ·rename_i h';cases h'
 ·rename_i y hy
  cases hy
  split at h
  ·rename_i k m hx;simp at h;subst h;exact⟨k,hx⟩
  ·cases h
theorem zaw{P:Program}{w:World}{k n}{y:Nat}{code}(h0:0≤n)(h1:n≤(y:Int)):
  (Instr.sliceBound (.int k n) y code).run P w=.ok n.toNat w:=by
 simp[Instr.sliceBound,asIntOf,h0,h1]
theorem zbc{P:Program}{M F w}{α:Operand→AV}{ρ:Operand→Value}{isS:Bool}{len cap:Nat}{lo hi mx:Option Operand}{l h m:Int}
  (hl:zbS α 0 lo=some l) (hh:zbS α len hi=some h) (hm:zbS α len mx=some m) (b0:0≤l) (b1:l≤h) (b2:h≤m) (b3:m≤len) (hc:len≤cap)
  (hmx:mx.isSome→hi.isSome) (vl:∀x,lo=some x→VR M F w (α x) (ρ x)) (vh:∀x,hi=some x→VR M F w (α x) (ρ x)) (vm:∀x,mx=some x→VR M F w (α x) (ρ x)) :
  (Instr.sliceBounds isS len cap (lo.map ρ) (hi.map ρ) (mx.map ρ)).run P w=.ok (l.toNat,h.toNat,if mx.isSome then m.toNat else cap) w:=by
 have e1:∀x,lo=some x→∃k,ρ x=.int k l:=by
  rintro x rfl;obtain⟨k,hk⟩:=zeF hl;have:=vl x rfl;rw[hk]at this;exact⟨k,this.int_inv⟩
 have e2:∀x,hi=some x→∃k,ρ x=.int k h:=by
  rintro x rfl;obtain⟨k,hk⟩:=zeF hh;have:=vh x rfl;rw[hk]at this;exact⟨k,this.int_inv⟩
 have e3:∀x,mx=some x→∃k,ρ x=.int k m:=by
  rintro x rfl;obtain⟨k,hk⟩:=zeF hm;have:=vm x rfl;rw[hk]at this;exact⟨k,this.int_inv⟩
 have f1:lo=none→l=0:=by rintro rfl;simp[zbS]at hl;omega
 have f2:hi=none→h=len:=by rintro rfl;simp[zbS]at hh;omega
 cases mx with
 | none =>
  cases hi with
  | none =>
   have g2:=f2 rfl
   cases lo with
   | none =>
    have g1:=f1 rfl
    simp[Instr.sliceBounds,g1,g2]
   | some x =>
    obtain⟨k,hk⟩:=e1 x rfl
    simp[Instr.sliceBounds,g2,hk,zaw b0 (show l≤((len:Nat):Int)by omega)]
  | some y =>
   obtain⟨ky,hky⟩:=e2 y rfl
   have r2:=fun c=>zaw (P:=P) (w:=w) (k:=ky) (n:=h) (y:=cap) (code:=c) (by omega) (by omega)
   cases lo with
   | none =>
    have g1:=f1 rfl
    simp[Instr.sliceBounds,g1,hky,r2]
   | some x =>
    obtain⟨k,hk⟩:=e1 x rfl
    simp[Instr.sliceBounds,hky,hk,r2,zaw b0 (show l≤((h.toNat:Nat):Int)by omega)]
 | some z =>
  obtain⟨kz,hkz⟩:=e3 z rfl
  have r3:=fun c=>zaw (P:=P) (w:=w) (k:=kz) (n:=m) (y:=cap) (code:=c) (by omega) (by omega)
  cases hi with
  | none=>simp at hmx
  | some y =>
   obtain⟨ky,hky⟩:=e2 y rfl
   have r2:=fun c=>zaw (P:=P) (w:=w) (k:=ky) (n:=h) (y:=m.toNat) (code:=c) (by omega) (by omega)
   cases lo with
   | none =>
    have g1:=f1 rfl
    simp[Instr.sliceBounds,g1,hky,hkz,r2,r3]
   | some x =>
    obtain⟨k,hk⟩:=e1 x rfl
    simp[Instr.sliceBounds,hky,hkz,hk,r2,r3,zaw b0 (show l≤((h.toNat:Nat):Int)by omega)]
theorem Mem.cut{M F w φ B off n b}(h:Mem M F w φ B off n):Mem M F w (cut φ b) B off n:=by
 cases φ<;>exact h
theorem zf4{F φ b}(h:zm F (cut φ b)):zm F φ:=by
 cases φ<;>exact h
theorem zsc{φ b}:(cut φ b).full=b:=by cases φ<;>rfl
theorem Mem.zero{M F w φ B off n off'}(h:Mem M F w φ B off n):Mem M F w φ B off' 0:=by
 cases φ with
 | stat b=>exact h
 | fam f b=>exact⟨h.1,fun hd=>⟨(h.2 hd).1,fun j hj=>absurd hj (yaA _)⟩⟩
theorem zg7(sz:Nat):∀(xs:List AV) (i:Nat),(∀x∈xs,x.cells.length=sz)→(zy xs).take (i*sz)=zy (xs.take i)
 | xs,0,_=>by simp[zy]
 | [],i+1,_=>by simp[zy]
 | x::xs,i+1,h=>by
  have h1:=h x (by simp)
  have h2:=zg7 sz xs i (fun y hy=>h y (by simp[hy]))
  simp only[zy,yaa,List.take_succ_cons]at *
  rw[←h2,yad,yae,yaf,←h1,List.take_append]
  simp
  exact List.take_of_length_le (by omega)
theorem VR.sub{M F w φ sz xs ad c cap}(hv:VR M F w (.sl φ sz xs) c)(hcc:c=.slice (some ad) xs.length cap){l h m:Nat}(hlh:l≤h)(hhm:h≤m)(hm:m≤cap)(hx:h≤xs.length)
  {b:Bool} (hlit:b=true→m=h) :
  VR M F w (.sl (cut φ b) sz ((xs.take h).drop l)) (.slice (if m=l then some ad else some (ad.add (l*sz))) (h-l) (m-l)):=by
 cases hv with
 | slz b' sz' a' =>
  cases hcc
  have e1:m=0:=by omega
  have e2:l=0:=by omega
  have e3:h=0:=by omega
  subst e1 e2 e3
  cases b'<;>simpa [cut]using VR.slz _ sz ad
 | sl _ _ _ B off _ cs hcap hl hsz hmem hc hv' =>
 cases hcc
 rw[zG]
 have hlen:((xs.take h).drop l).length=h-l:=by simp;omega
 have hflat:zy ((xs.take h).drop l)=((zy xs).take (h*sz)).drop (l*sz):=by
  rw[zg7 sz xs h hsz,ze0 sz _ l (fun x hx=>hsz x (yaB hx))]
 have hfl:(zy xs).length=xs.length*sz:=zt sz xs hsz
 have hsz':∀x∈(xs.take h).drop l,x.cells.length=sz:=fun x hx=>hsz x (yaB (List.mem_of_mem_drop hx))
 have hcap':((xs.take h).drop l).length≤m-l:=by rw[hlen];omega
 have hlit':(cut φ b).full=true→m-l=((xs.take h).drop l).length:=by
  intro e
  rw[zsc]at e
  rw[hlen,hlit e]
 rw[←hlen]
 split
 ·rename_i hml
  have hz:(xs.take h).drop l=[]:=by apply List.eq_nil_of_length_eq_zero;rw[hlen];omega
  have hcz:m-l=0:=by omega
  rw[hcz,hz]
  refine .sl _ _ _ B off 0 cs (by simp) (by intro;simp) (by simp) ?_ (fun _ j hj=>by simp[zy]at hj) (fun _ j hj=>by simp[zy]at hj)
  rw[yaC]
  exact hmem.cut.zero
 ·refine .sl _ _ _ B (off+l*sz) (m-l) (fun j=>cs (l*sz+j)) hcap' hlit' hsz' ?_ (fun hr j hj=>?_) (fun hr j hj=>?_)
  ·refine hmem.cut.sub ?_
   have:l*sz+(m-l)*sz=m*sz:=by rw[←yad];congr 1;omega
   rw[this];exact yax _ hm
  ·rw[yav]
   refine hc (zf4 hr) (l*sz+j) ?_
   rw[hflat]at hj;simp at hj;omega
  ·have hj2:=hj
   rw[hflat]at hj2
   simp at hj2
   have h3:=hv' (zf4 hr) (l*sz+j) (by omega)
   have:(zy ((xs.take h).drop l))[j]=(zy xs)[l*sz+j]'(by omega):=by
    simp only[hflat,yaD,yaE]
   rw[this];exact h3
theorem zkW{P:Program}{α t x lo hi mx}{K:AV→Prop}(h:zep P α t x lo hi mx K):
  ∃v,K v∧∀M F w x' ρ,VR M F w x x'→(∀y,lo=some y→VR M F w (α y) (ρ y))→(∀y,hi=some y→VR M F w (α y) (ρ y))→(∀y,mx=some y→VR M F w (α y) (ρ y)) →
   ∃v',(Instr.sliceAt t x' (lo.map ρ) (hi.map ρ) (mx.map ρ)).run P w=.ok v' w∧VR M F w v v':=by
 unfold zep at h
 split at h
 ·rename_i s
  obtain⟨hs,rfl,l,hh,m,h1,h2,h3,b0,b1,b2,b3,hmx,hK⟩:=h
  refine⟨_,hK,fun M F w x' ρ hx vl vh vm=>?_⟩
  obtain⟨b,rfl,rfl⟩:=hx.str_inv
  have hsz:b.data.toList.length=b.size:=rfl
  rw[hsz]at h2 h3 b3
  have hb:=zbc (P:=P) (isS:=false) (cap:=b.size) h1 h2 h3 b0 b1 b2 b3 (yah _) hmx vl vh vm
  refine⟨.string (b.extract l.toNat hh.toNat),?_,VR.str' ?_⟩
  ·simp only[yaF]at hb
   simp[Instr.sliceAt,Instr.slice,run_underlying (zah hs),hb]
  ·simp[ByteArray.data_extract,List.drop_take]
 ·obtain⟨he,l,hh,m,h1,h2,h3,b0,b1,b2,b3,hmx,hK⟩:=h
  obtain⟨sz,he⟩:=yay.1 he
  obtain⟨e,hu,hs⟩:=zC he
  refine⟨_,hK,fun M F w x' ρ hx vl vh vm=>?_⟩
  rw[zaS hx]
  have hb:=zbc (P:=P) (isS:=true) (cap:=0) h1 h2 h3 b0 b1 b2 b3 (yah _) hmx vl vh vm
  have z1:l.toNat=0:=by omega
  have z2:hh.toNat=0:=by omega
  have z3:m.toNat=0:=by omega
  refine⟨.slice none 0 0,?_,.nilsl⟩
  rw[z1,z2,z3]at hb
  simp[Instr.sliceAt,Instr.slice,run_underlying hu,hb,zj hs]
 ·rename_i φ sz xs
  obtain⟨he,l,hh,m,h1,h2,h3,b0,b1,b2,b3,hmx,hK⟩:=h
  obtain⟨e,hu,hs⟩:=zC he
  refine⟨_,hK,fun M F w x' ρ hx vl vh vm=>?_⟩
  obtain⟨ad,cap,rfl,hcap⟩:=ze2 hx
  have hb:=zbc (P:=P) (isS:=true) (cap:=cap) h1 h2 h3 b0 b1 b2 b3 hcap hmx vl vh vm
  refine⟨_,?_,hx.sub rfl (l:=l.toNat) (h:=hh.toNat) (m:=if mx.isSome then m.toNat else cap) (by omega) (by split<;>omega) (by split<;>omega) (by omega) ?_⟩
  ·simp[Instr.sliceAt,Instr.slice,run_underlying hu,hb,zj hs]
  ·intro hb'
   split at hb'
   ·rename_i hm';rw[if_pos hm'];simpa using hb'
   ·rename_i hm'
    rw[if_neg hm']
    simp at hb'
    have hl:cap=xs.length:=by cases hx with|slz=>rfl|sl _ _ _ _ _ _ _ _ hl=>exact hl hb'.1
    omega
 ·rename_i o off sz len
  obtain⟨he,rfl,l,hh,m,h1,h2,h3,b0,b1,b2,b3,hmx,hz,hK⟩:=h
  obtain⟨e,hu,hs⟩:=zC he
  refine⟨_,hK,fun M F w x' ρ hx vl vh vm=>?_⟩
  obtain⟨hlt,cap,hcap,rfl,hroom⟩:=znF hx
  have hb:=zbc (P:=P) (isS:=true) (cap:=cap) h1 h2 h3 b0 b1 b2 b3 hcap hmx vl vh vm
  have hadd:(if cap=l.toNat then(some ⟨(M.obj o).1,(M.obj o).2+off,none⟩:Option Addr)else some ⟨(M.obj o).1,(M.obj o).2+(off+l.toNat * sz),none⟩)=some ⟨(M.obj o).1,(M.obj o).2+(off+l.toNat * sz),none⟩:=by
   split
   ·rename_i hc
    have:l.toNat=0:=by omega
    rw[this];simp
   ·rfl
  refine⟨.slice (some ⟨(M.obj o).1,(M.obj o).2+(off+l.toNat * sz),none⟩) (hh.toNat-l.toNat) (cap-l.toNat),?_,.slm o _ sz _ _ hlt (by omega) fun hn j hj=>?_⟩
  ·simp only[yaF]at hb
   simp only[Instr.sliceAt,Instr.slice,Sem.run_bind,run_underlying hu,Result.andThen_ok,hb,zj hs,Sem.run_pure,yaG,zG,yav,yaF]
   simp[hadd]
  ·have e:(M.obj o).2+(off+l.toNat * sz)+j=(M.obj o).2+off+(l.toNat * sz+j):=by omega
   rw[e]
   exact hroom hn _ (by rw[Nat.sub_mul]at hj;omega)
 ·exact h.elim
theorem VR.cells_rel{M F w v c}(h:VR M F w v c)(hk:v.known=true):c.cells.size=v.cells.length∧∀j (h:j<v.cells.length) (h':j<c.cells.size),VR M F w v.cells[j] c.cells[j]:=by
 have single:∀{v:AV} {c:Value},VR M F w v c→v.cells=[v]→c.cells=#[c]→c.cells.size=v.cells.length∧∀j (h:j<v.cells.length) (h':j<c.cells.size),VR M F w v.cells[j] c.cells[j]:=by
  intro v c h e1 e2
  refine⟨by rw[e1,e2];rfl,fun j hj hj'=>?_⟩
  have:j=0:=by rw[e1]at hj;simp at hj;omega
  subst this
  simp only[e1,e2]
  simpa using h
 cases h with
 | undef=>simp[AV.known]at hk
 | agg cs A ha va=>exact⟨ha,fun j h h'=>va j h h'⟩
 | bool=>exact single (.bool ..) rfl rfl
 | int=>exact single (.int ..) rfl rfl
 | str=>exact single (.str ..) rfl rfl
 | nilp=>exact single .nilp rfl rfl
 | ptr o off h=>exact single (.ptr o off h) rfl rfl
 | pt t n o off h h1 h2=>exact single (.pt t n o off h h1 h2) rfl rfl
 | sit f bs pos B h1 h2 h3=>exact single (.sit f bs pos B h1 h2 h3) rfl rfl
 | tys e v c h ht =>
  obtain⟨b,n,cap,rfl⟩:=ht.slice
  exact single (.tys e v _ h ht) rfl rfl
 | tyd e v a n cap h ht=>exact single (.tyd e v a n cap h ht) rfl rfl
 | pv φ v B off cs hm hc hv=>exact single (.pv φ v B off cs hm hc hv) rfl rfl
 | nilsl=>exact single .nilsl rfl rfl
 | slz b sz a=>exact single (.slz b sz a) rfl rfl
 | sl φ sz xs B off cap cs h1 h2 h3 h4 h5 h6=>exact single (.sl φ sz xs B off cap cs h1 h2 h3 h4 h5 h6) rfl rfl
 | slm o off sz len cap h h' hr=>exact single (.slm o off sz len cap h h' hr) rfl rfl
 | fn f a b A B h1 h2 h3 h4=>exact single (.fn f a b A B h1 h2 h3 h4) rfl rfl
 | nilfn=>exact single .nilfn rfl rfl
 | iface t v c h=>exact single (.iface t v c h) rfl rfl
 | nilif=>exact single .nilif rfl rfl
 | tuple vs A h1 h2=>exact single (.tuple vs A h1 h2) rfl rfl
 | mp ks vs b es c h1 h2 h3=>exact single (.mp ks vs b es c h1 h2 h3) rfl rfl
 | itr f ks vs zcB B h1 h2 h3=>exact single (.itr f ks vs zcB B h1 h2 h3) rfl rfl
 | mpo f ks vs B h1 h2 h3=>exact single (.mpo f ks vs B h1 h2 h3) rfl rfl
 | lit bs B e z h1 h2 h3=>exact single (.lit bs B e z h1 h2 h3) rfl rfl
def Cells(M:Mp)(F:Nat→FSt)(w:World)(cs:List AV)(A:Array Value):Prop :=
 A.size=cs.length∧∀(j:Nat) v,cs[j]?=some v→∃c,A[j]?=some c∧VR M F w v c
theorem Cells.of{M F w}{cs:List AV}{A:Array Value}(h:A.size=cs.length)(hv:∀j (h:j<cs.length) (h':j<A.size),VR M F w cs[j] A[j]):Cells M F w cs A:=by
 refine⟨h,fun j v hj=>?_⟩
 obtain⟨h1,rfl⟩:=yaq.1 hj
 exact⟨A[j],yar (by omega),hv j h1 (by omega)⟩
theorem Cells.get{M F w}{cs:List AV}{A:Array Value}(h:Cells M F w cs A):∀j (h:j<cs.length) (h':j<A.size),VR M F w cs[j] A[j]:=by
 intro j h1 h2
 obtain⟨c,h3,h4⟩:=h.2 j _ (yau h1)
 rw[yar h2]at h3
 cases h3
 exact h4
theorem zb2{cs vs:List AV}{off:Nat}(h:off+vs.length≤cs.length):(splice cs off vs).length=cs.length:=by
 simp[splice];omega
theorem zb9{cs vs:List AV}{off j:Nat}(h:off+vs.length≤cs.length):
  (splice cs off vs)[j]?=if off≤j∧j<off+vs.length then vs[j-off]? else cs[j]?:=by
 unfold splice
 by_cases h1:j<off
 ·rw[List.append_assoc,yat (by simp;omega),yaH,if_pos h1,if_neg (by omega)]
 ·by_cases h2:j<off+vs.length
  ·rw[if_pos ⟨by omega,h2⟩,yat (by simp;omega),yaI (by simp;omega)]
   congr 1;simp;omega
  ·rw[if_neg (by omega),yaI (by simp;omega),yas]
   congr 1;simp;omega
def zu9(A:Array Value)(off:Nat)(vs:Array Value):Array Value:=vs.zipIdx.foldl (fun cs (c,j)=>cs.setIfInBounds (off+j) c) A
theorem zsd(off:Nat):∀(l:List Value) (k:Nat) (A:Array Value),
  ((l.zipIdx k).foldl (fun cs (c,j)=>cs.setIfInBounds (off+j) c) A).size=A.size ∧
  ∀j,((l.zipIdx k).foldl (fun cs (c,j)=>cs.setIfInBounds (off+j) c) A)[j]?=if off+k≤j∧j<off+k+l.length∧j<A.size then l[j-(off+k)]? else A[j]?:=by
 intro l
 induction l with
 | nil=>intro k A;simp;intro j h1 h2;omega
 | cons c l ih =>
  intro k A
  simp only[List.zipIdx_cons,List.foldl_cons]
  obtain⟨h1,h2⟩:=ih (k+1) (A.setIfInBounds (off+k) c)
  refine⟨by rw[h1];simp,fun j=>?_⟩
  rw[h2 j]
  simp only[Array.size_setIfInBounds,yac]
  by_cases e:j=off+k
  ·subst e
   rw[if_neg (by omega)]
   by_cases hb:off+k<A.size
   ·rw[if_pos (by omega),Array.getElem?_setIfInBounds_self_of_lt hb];simp
   ·rw[if_neg (by omega),Array.getElem?_setIfInBounds_self];simp[hb]
  ·rw[yaJ (by omega)]
   by_cases hc:off+(k+1)≤j∧j<off+(k+1)+l.length∧j<A.size
   ·rw[if_pos hc,if_pos (by omega)]
    rw[show j-(off+k)=(j-(off+(k+1)))+1 by omega,List.getElem?_cons_succ]
   ·rw[if_neg hc,if_neg (by omega)]
theorem zpP(A:Array Value)(off:Nat)(vs:Array Value)(h:off+vs.size≤A.size):
  (zu9 A off vs).size=A.size∧∀j,(zu9 A off vs)[j]?=if off≤j∧j<off+vs.size then vs[j-off]? else A[j]?:=by
 have:=zsd off vs.toList 0 A
 have e:zu9 A off vs=(vs.toList.zipIdx 0).foldl (fun cs (c,j)=>cs.setIfInBounds (off+j) c) A:=by
  unfold zu9
  rw[←Array.foldl_toList,Array.toList_zipIdx]
 rw[e]
 refine⟨this.1,fun j=>?_⟩
 rw[this.2 j]
 simp only[yaK,Array.length_toList,Array.getElem?_toList]
 by_cases hc:off≤j∧j<off+vs.size
 ·rw[if_pos hc,if_pos (by omega)]
 ·rw[if_neg hc,if_neg (by omega)]
theorem Cells.splice{M F w}{cs vs:List AV}{A B:Array Value}(h:Cells M F w cs A)(hv:Cells M F w vs B){off:Nat}(hl:off+vs.length≤cs.length):
  Cells M F w (splice cs off vs) (zu9 A off B):=by
 obtain⟨h1,h2⟩:=zpP A off B (by rw[hv.1,h.1];exact hl)
 refine⟨by rw[h1,zb2 hl,h.1],fun j v hj=>?_⟩
 rw[zb9 hl]at hj
 rw[h2 j,hv.1]
 split at hj
 ·rename_i hc;rw[if_pos hc];exact hv.2 _ _ hj
 ·rename_i hc;rw[if_neg hc];exact h.2 _ _ hj
theorem zkX{place:Nat→Option (Nat × Nat)}{A:Array Value}{i:Nat}{v:Value}{rest:List (Nat × Value)}{off size:Nat}(hp:place i=some (off,size))(hs:v.cells.size=size)(hb:off+size≤A.size):
  Instr.fill place A ((i,v)::rest)=Instr.fill place (zu9 A off v.cells) rest:=by
 simp only[Instr.fill,hp]
 rw[if_neg (by simp[hs];omega)]
 rfl
theorem zms{P:Program}{t α}{place:Nat→Option (Nat × Nat)}(hplace:∀i f,zba P t i=some f→place i=some (f.off,f.size)):
  ∀(parts:List (Nat × Operand)) (cs:List AV) (K:List AV→Prop),zju P t α parts cs K →
   ∃cs',K cs'∧∀M F w (ρ:Operand→Value) A,Cells M F w cs A→(∀x∈parts,VR M F w (α x.2) (ρ x.2))→∃A',Instr.fill place A (parts.map fun x=>(x.1,ρ x.2))=some A'∧Cells M F w cs' A':=by
 intro parts
 induction parts with
 | nil=>intro cs K h;exact⟨cs,h,fun M F w ρ A hA _=>⟨A,rfl,hA⟩⟩
 | cons p parts ih =>
  obtain⟨i,x⟩:=p
  intro cs K h
  obtain⟨f,hf,hk,hsz,hb,h⟩:=h
  obtain⟨cs',hK,hh⟩:=ih _ K h
  refine⟨cs',hK,fun M F w ρ A hA hl=>?_⟩
  have hx:=hl (i,x) (by simp)
  obtain⟨c1,c2⟩:=hx.cells_rel hk
  obtain⟨A',h1,h2⟩:=hh M F w ρ (zu9 A f.off (ρ x).cells) (hA.splice (.of c1 c2) (by simp only at hsz ⊢;rw[hsz];exact hb)) (fun y hy=>hl y (by simp[hy]))
  refine⟨A',?_,h2⟩
  rw[yaL,zkX (hplace i f hf) (by simp only;rw[c1,hsz]) (by rw[hA.1];exact hb)]
  exact h1
theorem zaX{P:Program}{t z}(h:zH P t=some z)(w:World):∃v,(zeroValue t).run P w=.ok v w∧z=zdq v:=by
 unfold zH at h
 cases hi:P.info? t with
 | none=>simp[hi]at h
 | some i =>
  cases hz:i.zero with
  | none=>simp[hi,hz]at h
  | some v=>simp[hi,hz]at h;exact⟨v,by simp[zeroValue,typeInfo,hi,hz],h.symm⟩
theorem zjx{P:Program}{t}(h:zY P t=true):∃fs,P.underlying t=some (.struct fs):=by
 unfold zY at h
 split at h
 ·exact⟨_,‹_›⟩
 ·cases h
theorem zii{P:Program}{w:World}:∀(fs:List Field),(∀f∈fs,∃n,za9 P f.type=some n) →
  (fs.mapM fun f=>(do pure (f.offset,←sizeOf f.type):Sem (Nat × Nat))).run P w=.ok (fs.map fun f=>(f.offset,(za9 P f.type).getD 0)) w:=by
 intro fs
 induction fs with
 | nil=>intro _;simp
 | cons f fs ih =>
  intro h
  obtain⟨n,hn⟩:=h f (by simp)
  have:=ih (fun g hg=>h g (by simp[hg]))
  simp only[List.mapM_cons,Sem.run_bind,zj hn,Result.andThen_ok,Sem.run_pure,this,yaL,hn,Option.getD_some]
theorem zkY{P:Program}{t α parts}{K:AV→Prop}(h:ziG P t α parts K):
  ∃v,K v∧∀M F w (ρ:Operand→Value),(∀x∈parts,VR M F w (α x.2) (ρ x.2))→∃v',(Instr.build t (parts.map fun x=>(x.1,ρ x.2)).toArray).run P w=.ok v' w∧VR M F w v v':=by
 obtain⟨hs,z,hz,hzk,hf⟩:=h
 obtain⟨fs,hu⟩:=zjx hs.1
 have hsized:∀f∈fs.toList,∃n,za9 P f.type=some n:=by
  have:=hs.2
  simp only[zej,hu,yaM]at this
  exact fun f hf=>yay.1 (this f hf)
 have hplace:∀i f,zba P t i=some f→(fs.toList.map fun f=>(f.offset,(za9 P f.type).getD 0)).toArray[i]?=some (f.off,f.size):=by
  intro i f hf
  obtain⟨fs',fd,hu',hfd,hs',hne,ho,hg⟩:=zdr hf
  rw[hu]at hu'
  cases hu'
  simp[hfd,hs',ho]
 obtain⟨cs',hK,hh⟩:=zms hplace parts z.cells _ hf
 refine⟨_,hK,fun M F w ρ hl=>?_⟩
 obtain⟨zv,hzv,rfl⟩:=zaX hz w
 obtain⟨c1,c2⟩:=(zbb M F w zv).cells_rel hzk
 obtain⟨A',h1,h2⟩:=hh M F w ρ zv.cells (.of c1 c2) hl
 refine⟨.agg A',?_,.agg _ _ h2.1 h2.get⟩
 have hm:(fs.mapM fun f=>(do pure (f.offset,←sizeOf f.type):Sem (Nat × Nat))).run P w=.ok (fs.toList.map fun f=>(f.offset,(za9 P f.type).getD 0)).toArray w:=by
  rw[Array.mapM_eq_mapM_toList,Sem.run_map,zii fs.toList hsized]
  rfl
 simp only[Instr.build,Sem.run_bind,hzv,Result.andThen_ok,run_underlying hu,hm,h1]
 simp
theorem zse{xs:List AV}{sz i:Nat}{v:AV}(hsz:∀x∈xs,x.cells.length=sz)(hi:i<xs.length)(hv:v.cells.length=sz):
  zy (xs.set i v)=splice (zy xs) (i*sz) v.cells:=by
 rw[List.set_eq_take_append_cons_drop,if_pos hi]
 unfold splice
 rw[zg7 sz xs i hsz,hv,show i*sz+sz=(i+1)*sz by rw[yad,yae],ze0 sz xs (i+1) hsz]
 simp[zy]
theorem ze3{z:AV}{sz:Nat}(hz:z.cells.length=sz):∀(n j:Nat),j<n*sz→(zy (yaj n z))[j]?=z.cells[j%sz]?:=by
 intro n
 induction n with
 | zero=>intro j h;omega
 | succ n ih =>
  intro j h
  simp only[zy,List.replicate_succ,yaa]
  by_cases hj:j<sz
  ·rw[yat (by omega),Nat.mod_eq_of_lt hj]
  ·rw[yaI (by omega),hz]
   have:=ih (j-sz) (by rw[yad,yae]at h;omega)
   simp only[zy]at this
   rw[this,Nat.mod_eq_sub_mod (a:=j) (by omega)]
theorem Cells.zeros'{M F w}{z:AV}{zv:Value}(hc:zv.cells.size=z.cells.length∧∀j (h:j<z.cells.length) (h':j<zv.cells.size),VR M F w z.cells[j] zv.cells[j]){sz:Nat}(hz:z.cells.length=sz)(n:Nat):
  Cells M F w (zy (yaj n z)) ((yaN (n*sz)).map fun i=>zv.cells[i%zv.cells.size]!):=by
 obtain⟨c1,c2⟩:=hc
 refine⟨by simp only[yaO,Array.size_range];rw[zt sz _ (fun x hx=>by rw[yaP hx];exact hz)];simp,fun j v hj=>?_⟩
 have hjl:j<n*sz:=by
  have:=(yaq.1 hj).1
  rw[zt sz _ (fun x hx=>by rw[yaP hx];exact hz)]at this
  simpa using this
 rw[ze3 hz n j hjl]at hj
 obtain⟨h1,h2⟩:=yaq.1 hj
 refine⟨zv.cells[j%sz]'(by omega),?_,?_⟩
 ·rw[yaQ,Array.getElem?_range,if_pos hjl]
  simp only[yaG,yaR.injEq]
  have e:zv.cells.size=sz:=by rw[c1,hz]
  simp only[e]
  rw[getElem!_pos]
 ·have:=c2 (j%sz) h1 (by omega)
  rw[h2]at this;exact this
theorem Cells.zeros{M F w}{z:AV}{zv:Value}(h:VR M F w z zv)(hk:z.known=true){sz:Nat}(hz:z.cells.length=sz)(n:Nat):
  Cells M F w (zy (yaj n z)) ((yaN (n*sz)).map fun i=>zv.cells[i%zv.cells.size]!):=Cells.zeros' (h.cells_rel hk) hz n
theorem zg8(M F w)(v:Value):v.cells.size=(zdq v).cells.length∧∀j (h:j<(zdq v).cells.length) (h':j<v.cells.size),VR M F w (zdq v).cells[j] v.cells[j]:=by
 have hv:=zbb M F w v
 by_cases hk:(zdq v).known=true
 ·exact hv.cells_rel hk
 ·have hu:zdq v=.undef:=by
   generalize zdq v=x at hk
   cases x<;>simp_all [AV.known]
  have hc:v.cells=#[v]:=by
   cases v with
   | agg cs=>simp[zdq]at hu
   | _=>rfl
  rw[hu]
  refine⟨by rw[hc];rfl,fun j h h'=>?_⟩
  have:j=0:=by simp[AV.cells]at h;omega
  subst this
  exact .undef _
theorem zeG{α n sz}:∀(parts:List (Nat × Operand)) (xs:List AV) (K:List AV→Prop),xs.length=n→(∀x∈xs,x.cells.length=sz)→zih n sz α parts xs K →
   ∃xs',K xs'∧xs'.length=n∧(∀x∈xs',x.cells.length=sz)∧∀M F w (ρ:Operand→Value) A,Cells M F w (zy xs) A→(∀x∈parts,VR M F w (α x.2) (ρ x.2)) →
    ∃A',Instr.fill (fun i=>some (i*sz,sz)) A (parts.map fun x=>(x.1,ρ x.2))=some A'∧Cells M F w (zy xs') A':=by
 intro parts
 induction parts with
 | nil=>intro xs K hl hs h;exact⟨xs,h,hl,hs,fun M F w ρ A hA _=>⟨A,rfl,hA⟩⟩
 | cons p parts ih =>
  obtain⟨i,x⟩:=p
  intro xs K hl hs h
  obtain⟨hi,hk,hsz,h⟩:=h
  obtain⟨xs',hK,e1,e2,hh⟩:=ih (xs.set i (α x)) K (by simpa using hl) (fun y hy=>by rcases List.mem_or_eq_of_mem_set hy with h'|h';exact hs y h';rw[h',hsz]) h
  refine⟨xs',hK,e1,e2,fun M F w ρ A hA hv=>?_⟩
  have hx:=hv (i,x) (by simp)
  obtain⟨c1,c2⟩:=hx.cells_rel hk
  have hbound:i*sz+sz≤n*sz:=by
   have:(i+1)*sz≤n*sz:=yax _ hi
   rwa [yad,yae]at this
  have hfl:=zt sz xs hs
  have hsp:=zse (v:=α x) hs (by omega:i<xs.length) hsz
  obtain⟨A',h1,h2⟩:=hh M F w ρ (zu9 A (i*sz) (ρ x).cells) (by rw[hsp];exact hA.splice (.of c1 c2) (by rw[hsz,hfl,hl];exact hbound)) (fun y hy=>hv y (by simp[hy]))
  refine⟨A',?_,h2⟩
  rw[yaL,zkX rfl (by simp only;rw[c1,hsz]) (by rw[hA.1,hfl,hl];exact hbound)]
  exact h1
theorem zS{w:World}{o:Obj}{B:Nat}(h:B<w.heap.size):({ w with heap:=w.heap.push o }:World).heap[B]?=w.heap[B]?:=by
 simp[yaS,yaT h]
def Mp.newRole(M:Mp)(B:Nat)(r:Role):Mp:={ M with role:=upd M.role B (some r) }
theorem zgH{M F}{w:World}(hM:∀B r,M.role B=some r→B<w.heap.size)(o:Obj)(r:Role):Ext M F w (M.newRole w.heap.size r) F { w with heap:=w.heap.push o } where
 io:=⟨rfl,rfl,rfl⟩
 no:=yah _
 nf:=yah _
 obj _ _:=rfl
 dead _ _ h:=h
 spoil _ _ h:=by rw[h];simp
 size:=by simp
 shape B c e z h:=by
  have hB:B<w.heap.size:=(yaU.1 h).1
  exact .same (by rw[zS hB];exact h) rfl
 stat B _ h:=by
  have hB:=hM B _ h
  exact⟨by simp only[Mp.newRole];rw[zf _ _ (by omega)];exact h,.inl (zS hB)⟩
 free B hB h:=⟨by simp only[Mp.newRole];rw[zf _ _ (by omega)];exact h,zS hB⟩
 famr B f hf h _:=by
  have hB:=hM B _ h
  simp only[Mp.newRole];rw[zf _ _ (by omega)];exact h
 famc B f hf h _:=zS (hM B _ h)
theorem zjy{M σ}{w:World}(S:Sim M σ w)(o:Obj)(r:Role):Sim (M.newRole w.heap.size r) σ { w with heap:=w.heap.push o } where
 no:=S.no
 nf:=S.nf
 role B r' h:=by
  simp only[Mp.newRole,upd]at h
  split at h
  ·simp;omega
  ·have:=S.role B r' h
   simp;omega
 obj x cs hx:=by
  obtain⟨a,b,c⟩:=S.obj x cs hx
  have hB:=S.role _ _ b
  refine⟨a,by simp only[Mp.newRole];rw[zf _ _ (by omega)];exact b,fun j hj=>?_⟩
  obtain⟨v,h1,h2,h3⟩:=c j hj
  have e:=zS (o:=o) hB
  exact⟨v,(zp e).trans h1,(zq e).trans h2,h3.mono (zgH S.role o r)⟩
 inj:=S.inj
theorem zcE{P:Program}{t}(h:zsa P t=true):∃e,P.underlying t=some (.slice e)∧P.underlying e=some (.int .u8):=by
 unfold zsa at h
 split at h
 ·split at h
  ·exact⟨_,‹_›,‹_›⟩
  ·cases h
 ·cases h
theorem zbT(bs:List UInt8):zy (B bs)=B bs:=by
 induction bs with
 | nil=>rfl
 | cons b bs ih=>simp only[zy,B,yaL,yaa,AV.cells]at *;rw[ih];rfl
theorem zpQ(bs:List UInt8):∀x∈B bs,x.cells.length=1:=by
 intro x hx;simp only[B,yaV]at hx;obtain⟨b,_,rfl⟩:=hx;rfl
theorem zjz{M F w b c}(h:VR M F w (.int .u8 ((b:UInt8).toNat:Int)) c):c=.int .u8 (b.toNat:Int):=h.int_inv
theorem zfE{P:Program}{t n α parts}{K:AV→Prop}(h:zaE P t n α parts K):
  ∃v,K v∧zAH P (fun ρ=>Instr.buildSlice t n (parts.map fun x=>(x.1,ρ x.2)).toArray) α (parts.map (·.2)) v:=by
 obtain⟨sz,z,he,hz,hzl,h0,hn,hf⟩:=h
 obtain⟨e,hu,hs⟩:=zC he
 obtain⟨xs,hK,hl,hsz,hh⟩:=zeG parts (yaj n z) _ (by simp) (fun x hx=>by rw[yaP hx];exact hzl) hf
 refine⟨_,hK,fun M F w ρ hM hv=>?_⟩
 have hz':zH P e=some z:=by unfold za0 at hz;rw[hu]at hz;exact hz
 obtain⟨zv,hzv,rfl⟩:=zaX hz' w
 have hzr:=zbb M F w zv
 obtain⟨A',h1,h2⟩:=hh M F w ρ _ (Cells.zeros' (zg8 M F w zv) hzl n) (fun x hx=>hv x.2 (yaW hx))
 have hE:=zgH (F:=F) hM (.cells A' e) .stat
 refine⟨.slice (some ⟨w.heap.size,0,none⟩) n n,_,{ w with heap:=w.heap.push (.cells A' e) },?_,?_,hE,fun σ _ S=>zjy S (.cells A' e) .stat⟩
 ·by_cases hn0:n=0
  ·subst hn0
   have hr:yaN (0*sz)=#[]:=by rw[yaC];rfl
   rw[hr,yaX]at h1
   simp only[Instr.buildSlice,Sem.run_bind,run_underlying hu,Result.andThen_ok,zj hs,Sem.run_ite,Sem.run_pure]
   rw[if_neg (by simp),if_pos (yaC _)]
   simp only[hr,yaX,h1]
   simp[newRow]
  ·have hne:n*sz≠0:=by
    have:=yaY (yaZ hn0) h0;omega
   simp only[Instr.buildSlice,Sem.run_bind,run_underlying hu,Result.andThen_ok,zj hs,Sem.run_ite,if_neg hne,hzv,Sem.run_pure]
   rw[if_neg (by omega)]
   simp only[h1]
   simp[newRow]
 ·have hcell:∀j,({ w with heap:=w.heap.push (.cells A' e) }:World).cell? ⟨w.heap.size,0+j,none⟩=A'[j]?:=by
   intro j;simp[World.cell?]
  rw[←hl]
  refine .sl (.stat true) sz xs w.heap.size 0 xs.length (fun j=>(A'[j]?).getD undef) (yah _) (fun _=>rfl) hsz ?_ (fun _ j hj=>?_) (fun _ j hj=>?_)
  ·simp[Mem,Mp.newRole,upd]
  ·rw[hcell,yar (by rw[h2.1];exact hj)];rfl
  ·have:=h2.get j hj (by rw[h2.1];exact hj)
   rw[yar (by rw[h2.1];exact hj)]
   exact this.mono hE
theorem zg9{P:Program}{t n α parts}{K:AV→Prop}(h:zg3 P t n α parts K):
  ∃v,K v∧zAH P (fun ρ=>Instr.buildSlice t n (parts.map fun x=>(x.1,ρ x.2)).toArray) α (parts.map (·.2)) v:=by
 obtain⟨sz,z,he,hz,hzl,h0,hn,hf⟩:=h
 obtain⟨e,hu,hs⟩:=zC he
 obtain⟨xs,hK,hl,hsz,hh⟩:=zeG parts (yaj n z) _ (by simp) (fun x hx=>by rw[yaP hx];exact hzl) hf
 obtain⟨bs,hbs,hK⟩:=hK
 simp only[AV.sl.injEq,true_and]at hbs
 obtain⟨rfl,rfl⟩:=hbs
 refine⟨_,hK,fun M F w ρ hM hv=>?_⟩
 have hz':zH P e=some z:=by unfold za0 at hz;rw[hu]at hz;exact hz
 obtain⟨zv,hzv,rfl⟩:=zaX hz' w
 have hzr:=zbb M F w zv
 obtain⟨A',h1,h2⟩:=hh M F w ρ _ (Cells.zeros' (zg8 M F w zv) hzl n) (fun x hx=>hv x.2 (yaW hx))
 have hE:=zgH (F:=F) hM (.cells A' e) (.st true)
 refine⟨.slice (some ⟨w.heap.size,0,none⟩) n n,_,{ w with heap:=w.heap.push (.cells A' e) },?_,?_,hE,fun σ _ S=>zjy S (.cells A' e) (.st true)⟩
 ·by_cases hn0:n=0
  ·subst hn0
   have hr:yaN (0*1)=#[]:=by rw[yaC];rfl
   rw[hr,yaX]at h1
   simp only[Instr.buildSlice,Sem.run_bind,run_underlying hu,Result.andThen_ok,zj hs,Sem.run_ite,Sem.run_pure]
   rw[if_neg (by simp)]
   simp only[if_true,hr,yaX,h1]
   simp[newRow]
  ·have hne:n*1≠0:=by
    have:=yaY (yaZ hn0) h0;omega
   simp only[Instr.buildSlice,Sem.run_bind,run_underlying hu,Result.andThen_ok,zj hs,Sem.run_ite,if_neg hne,hzv,Sem.run_pure]
   rw[if_neg (by omega)]
   simp only[h1]
   simp[newRow]
 ·have hbl:(B bs).length=bs.length:=by simp[B]
  have hA':A'=(bs.map fun b=>Value.int .u8 b.toNat).toArray:=by
   apply Array.ext
   ·rw[h2.1,zbT,hbl];simp
   ·intro j hj hj'
    have hjb:j<bs.length:=by simpa using hj'
    have:=h2.get j (by rw[zbT,hbl];exact hjb) hj
    simp only[zbT]at this
    simp only[B,yak]at this
    rw[zjz this]
    simp
  subst hA'
  rw[←hl,hbl]
  exact .lit bs w.heap.size e (0,0) (by simp[Mp.newRole,upd]) (by simp) (.inl rfl)
theorem zds(parts:Array (Nat × Operand))(ρ:Operand→Value):(parts.toList.map fun x=>(x.1,ρ x.2)).toArray=parts.map fun x=>(x.1,ρ x.2):=by
 rw[←List.map_toArray]
theorem zf5{P:Program}{t}(h:zap P t=some false):∃d,P.underlying t=some d∧∀ms,d≠.interface ms:=by
 unfold zap at h
 split at h
 ·simp at h
 ·rename_i d hn hd;exact⟨d,hd,fun ms e=>hn ms e⟩
 ·cases h
def zjA(P:Program)(o:Oper)(α:Operand→AV)(v:AV):Prop :=
 ∀(M:Mp) (F:Nat→FSt) (w:World) (ρ:Operand→Value),(∀B r,M.role B=some r→B<w.heap.size)→(∀x∈o.op.operands,VR M F w (α x) (ρ x)) →
  ∃v' M' w',(execOp ρ o).run P w=.ok (.value v') w'∧VR M' F w' v v'∧Ext M F w M' F w'∧(∀σ,σ.F=F→Sim M σ w→Sim M' σ w')
theorem zjA.same{P:Program}{o:Oper}{α v}
  (h:∀M F w ρ,(∀x∈o.op.operands,VR M F w (α x) (ρ x))→∃v',(execOp ρ o).run P w=.ok (.value v') w∧VR M F w v v'):zjA P o α v :=
 fun M F w ρ _ hl=>let ⟨v',h1,h2⟩:=h M F w ρ hl;⟨v',M,w,h1,h2,Ext.refl ..,fun _ _ S=>S⟩
theorem zmt{P:Program}{op:BinOp}{t:TypeId}{xo y:Operand}{vx vy:AV}{K:AV→Prop}(h:zdk P op t y vx vy K):
  ∃v,K v∧∀M F w x' y',VR M F w vx x'→VR M F w vy y'→∃v',(do eqGuard op t xo y x' y';binOp op t x' y':Sem Value).run P w=.ok v' w∧VR M F w v v':=by
 have hif:∀{t},zap P t=some true→∃ms,P.underlying t=some (.interface ms):=fun {t} h=>by
  unfold zap at h
  split at h
  ·exact⟨_,‹_›⟩
  ·cases h
  ·cases h
 unfold zdk at h
 split at h
 ·obtain⟨hi,hK⟩:=h
  obtain⟨ms,hu⟩:=hif hi
  refine⟨_,hK,fun M F w x' y' hx hy=>⟨.bool true,?_,.bool true⟩⟩
  cases hx
  cases hy
  have e0:∀d,(Op.equalIn (d+1) t .nilIface .nilIface).run P w=.ok true w:=fun d=>by simp[Op.equalIn,run_underlying hu]
  have e:(Op.equalIn Op.maxDepth t .nilIface .nilIface).run P w=.ok true w:=e0 9999
  simp[eqGuard,binOp,Op.equal,e]
 ·obtain⟨hi,hK⟩:=h
  obtain⟨ms,hu⟩:=hif hi
  refine⟨_,hK,fun M F w x' y' hx hy=>⟨.bool false,?_,.bool false⟩⟩
  cases hx
  cases hy
  have e0:∀d,(Op.equalIn (d+1) t .nilIface .nilIface).run P w=.ok true w:=fun d=>by simp[Op.equalIn,run_underlying hu]
  have e:(Op.equalIn Op.maxDepth t .nilIface .nilIface).run P w=.ok true w:=e0 9999
  simp[eqGuard,binOp,Op.equal,e]
 ·obtain⟨v,hK,hh⟩:=zoI h
  exact⟨v,hK,fun M F w x' y' hx hy=>hh M F w x' y' xo y hx hy⟩
theorem zmu{P:Program}{M F w v c}{o:Oper}{x:Operand}{ρ:Operand→Value}(ho:o.op=.nilCheck x)(hc:ρ x=c)(h:VR M F w v c)
  (hv:(∃a b,v=.ptr a b)∨(∃a b,v=.pv a b)∨(∃f a b,v=.fn (.func f) a b)∨(∃t n a b,v=.pt t n a b)):(execOp ρ o).run P w=.ok (.value c) w:=by
 subst hc
 rcases hv with ⟨a,b,rfl⟩|⟨a,b,rfl⟩|⟨f,a,b,rfl⟩|⟨t,n,a,b,rfl⟩
 ·obtain⟨_,e⟩:=zfC h
  unfold execOp;simp only[ho];rw[e];simp
 ·obtain⟨_,_,e⟩:=zpO h
  unfold execOp;simp only[ho];rw[e];simp
 ·obtain⟨A,B,e⟩:∃A B,ρ x=.func (.func f) A B:=by
   generalize ρ x=c at h
   cases h;exact⟨_,_,rfl⟩
  unfold execOp;simp only[ho];rw[e];simp
 ·obtain⟨_,_,_,e⟩:=znE h
  unfold execOp;simp only[ho];rw[e];simp
theorem zoL{P:Program}{s:TypeId}{M:Mp}{F:Nat→FSt}{w:World}{bs:List UInt8}{x':Value}(hs:zsa P s=true)(hM:∀B r,M.role B=some r→B<w.heap.size)(hx:VR M F w (.lit bs) x'):
  ∃v' w',(convert s s x').run P w=.ok v' w'∧VR M F w' (.sl (.stat true) 1 (B bs)) v'∧Ext M F w M F w'∧(∀σ,σ.F=F→Sim M σ w→Sim M σ w'):=by
 obtain⟨e,hu,he⟩:=zcE hs
 cases hx with
 | lit _ C e' z hm hh hz =>
 generalize hcs:(bs.map fun b=>Value.int .u8 b.toNat).toArray=cs at hh
 have hsz:cs.size=bs.length:=by rw[←hcs];simp
 have hC:C<w.heap.size:=(yaU.1 hh).1
 let w':World:={ w with heap:=w.heap.setIfInBounds C (.cells cs e' (cs.size,cs.size+1)) }
 have hne:∀D,D≠C→w'.heap[D]?=w.heap[D]?:=fun D hD=>yaJ (Ne.symm hD)
 have heq:w'.heap[C]?=some (.cells cs e' (cs.size,cs.size+1)):=by simp[w',hC]
 have hmod:∀g:Obj→Obj,g (.cells cs e' z)=.cells cs e' (cs.size,cs.size+1)→w.heap.modify C g=w.heap.setIfInBounds C (.cells cs e' (cs.size,cs.size+1)):=fun g hg=>by
  apply Array.ext_getElem?
  intro i
  rw[ya0,Array.getElem?_setIfInBounds]
  by_cases hi:C=i
  ·subst hi
   rw[if_pos rfl,if_pos rfl,if_pos hC,hh,yaG,hg]
  ·rw[if_neg hi,if_neg hi]
 have hw':w.freeze ⟨C,cs.size,none⟩ 1=w':=by
  simp only[World.freeze,w']
  rw[if_neg (by decide),hmod _ (by rcases hz with rfl|rfl<;>simp[hsz])]
 have hrun:(convert s s (.slice (some ⟨C,0,none⟩) bs.length bs.length)).run P w=.ok (.slice (some ⟨C,0,none⟩) bs.length bs.length) w':=by
  rw[←hw']
  simp[convert,run_underlying hu,run_underlying he,markStringish,shape,freeze,Sem.run,World.shape?,hh]
 have hS:zdp true w w' C:=by
  rcases hz with rfl|rfl
  ·exact .inr ⟨rfl,cs,e',hh,heq⟩
  ·exact .inl (by rw[heq,hh,hsz])
 have hall:∀D m,M.role D=some (.st m)→zdp m w w' D:=fun D m hr=>by
  by_cases hD:D=C
  ·subst hD;rw[hm]at hr;cases hr;exact hS
  ·exact .inl (hne D hD)
 have hcell:∀D i,w'.cell? ⟨D,i,none⟩=w.cell? ⟨D,i,none⟩:=fun D i=>by
  by_cases hD:D=C
  ·subst hD;exact hS.cell i
  ·exact zp (hne D hD)
 have hfz:∀D i,(∃x,w.cell? ⟨D,i,none⟩=some x)→w.frozen? ⟨D,i,none⟩=false→w'.frozen? ⟨D,i,none⟩=false:=fun D i hx hf=>by
  by_cases hD:D=C
  ·subst hD
   obtain⟨x,hx⟩:=hx
   simp only[World.cell?,hh]at hx
   have hi:i<cs.size:=by
    rcases Nat.lt_or_ge i cs.size with h|h
    ·exact h
    ·rw[Array.getElem?_eq_none h]at hx;simp at hx
   simp[World.frozen?,heq];omega
  ·rw[zq (hne D hD)];exact hf
 have E:Ext M F w M F w':={
  io:=⟨rfl,rfl,rfl⟩
  no:=yah _
  nf:=yah _
  obj:=fun _ _=>rfl
  dead:=fun _ _ h=>h
  spoil:=fun _ _ h=>by rw[h];simp
  size:=by simp[w']
  shape:=fun D c e z h=>by
   by_cases hD:D=C
   ·subst hD
    rw[hh]at h
    cases h
    refine⟨cs,(cs.size,cs.size+1),heq,rfl,fun _ i hi hq=>?_⟩
    simp at hq;omega
   ·exact .same (by rw[hne D hD];exact h) rfl
  stat:=fun D m hD=>⟨hD,hall D m hD⟩
  free:=fun D _ hD=>⟨hD,hne D (by rintro rfl;rw[hD]at hm;cases hm)⟩
  famr:=fun _ _ _ h _=>h
  famc:=fun D g _ hD _=>hne D (by rintro rfl;rw[hD]at hm;cases hm) }
 refine⟨_,w',hrun,?_,E,fun σ hF S=>⟨S.no,S.nf,fun D r h=>by have:=S.role D r h;simpa [w']using this,fun o cs' h=>?_,S.inj⟩⟩
 ·have hl:(B bs).length=bs.length:=by simp[B]
  have:=VR.sl (M:=M) (F:=F) (w:=w') (.stat true) 1 (B bs) C 0 bs.length (fun j=>(cs[j]?).getD undef) (by omega) (fun _=>hl.symm) (zpQ bs) ⟨true,hm⟩ (fun _ j hj=>?_) (fun _ j hj=>?_)
  ·rw[hl]at this;exact this
  ·rw[zbT,hl]at hj
   simp[World.cell?,heq,←hcs,hj]
  ·rw[zbT,hl]at hj
   simp only[zbT]
   simp only[B,yak]
   rw[←hcs]
   simp[hj]
   exact .int ..
 ·obtain⟨g1,g2,g3⟩:=S.obj o cs' h
  refine⟨g1,g2,fun j hj=>?_⟩
  obtain⟨v,v1,v2,v3⟩:=g3 j hj
  exact⟨v,(hcell _ _).trans v1,hfz _ _ ⟨v,v1⟩ v2,by rw[hF]at v3 ⊢;exact v3.mono E⟩
theorem zha{P:Program}{o:Oper}{α:Operand→AV}{K:AV→Prop}(h:zbH P α o.op K):∃v,K v∧zjA P o α v:=by
 cases ho:o.op<;>rw[ho]at h
 case move x =>
  simp only[zbH]at h
  exact⟨_,h,.same fun M F w ρ hl=>⟨ρ x,by unfold execOp;simp only[ho];simp,hl x (by rw[ho];simp[Op.operands])⟩⟩
 case assign x =>
  simp only[zbH]at h
  exact⟨_,h,.same fun M F w ρ hl=>⟨ρ x,by unfold execOp;simp only[ho];simp,hl x (by rw[ho];simp[Op.operands])⟩⟩
 case pick c x y =>
  simp only[zbH]at h
  obtain⟨b,hb,h⟩:=h
  refine⟨_,h,.same fun M F w ρ hl=>⟨if b then ρ x else ρ y,?_,?_⟩⟩
  ·have hc:=hl c (by rw[ho];simp[Op.operands])
   rw[hb]at hc
   unfold execOp;simp only[ho];simp[hc.bool_inv,asBool]
  ·cases b
   ·exact hl y (by rw[ho];simp[Op.operands])
   ·exact hl x (by rw[ho];simp[Op.operands])
 case nilCheck x =>
  simp only[zbH]at h
  have key:((∃a b,α x=.ptr a b)∨(∃a b,α x=.pv a b)∨(∃f a b,α x=.fn (.func f) a b)∨(∃t n a b,α x=.pt t n a b))∧K (α x):=by
   split at h
   ·exact⟨.inl ⟨_,_,‹_›⟩,h⟩
   ·exact⟨.inr (.inl ⟨_,_,‹_›⟩),h⟩
   ·exact⟨.inr (.inr (.inl ⟨_,_,_,‹_›⟩)),h⟩
   ·exact⟨.inr (.inr (.inr ⟨_,_,_,_,‹_›⟩)),h⟩
   ·exact h.elim
  refine⟨_,key.2,.same fun M F w ρ hl=>⟨ρ x,zmu ho rfl (hl x (by rw[ho];simp[Op.operands])) key.1,hl x (by rw[ho];simp[Op.operands])⟩⟩
 case binOp op t x y ty =>
  simp only[zbH]at h
  obtain⟨v,hK,hh⟩:=zmt (xo:=x) h
  refine⟨v,hK,.same fun M F w ρ hl=>?_⟩
  obtain⟨v',h1,h2⟩:=hh M F w (ρ x) (ρ y) (hl x (by rw[ho];simp[Op.operands])) (hl y (by rw[ho];simp[Op.operands]))
  exact⟨v',by unfold execOp;simp only[ho];rw[Sem.run_bind,h1];rfl,h2⟩
 case unOp op t x =>
  simp only[zbH]at h
  obtain⟨v,hK,hh⟩:=zpN h P
  refine⟨v,hK,.same fun M F w ρ hl=>?_⟩
  obtain⟨v',h1,h2⟩:=hh M F w (ρ x) (hl x (by rw[ho];simp[Op.operands]))
  exact⟨v',by unfold execOp;simp only[ho];rw[Sem.run_bind,h1];rfl,h2⟩
 case convert s d x =>
  simp only[zbH]at h
  unfold zsb at h
  split at h
  ·rename_i bs hbs
   obtain⟨rfl,hs,hK⟩:=h
   refine⟨_,hK,fun M F w ρ hM hl=>?_⟩
   have hx:=hl x (by rw[ho];simp[Op.operands])
   rw[hbs]at hx
   obtain⟨v',w',h1,h2,h3,h4⟩:=zoL (P:=P) hs hM hx
   exact⟨v',M,w',by unfold execOp;simp only[ho];rw[Sem.run_bind,h1];rfl,h2,h3,h4⟩
  ·obtain⟨v,hK,hh⟩:=zeE h
   refine⟨v,hK,.same fun M F w ρ hl=>?_⟩
   obtain⟨v',h1,h2⟩:=hh M F w (ρ x) (hl x (by rw[ho];simp[Op.operands]))
   exact⟨v',by unfold execOp;simp only[ho];rw[Sem.run_bind,h1];rfl,h2⟩
 case makeInterface t x =>
  simp only[zbH]at h
  obtain⟨hi,hK⟩:=h
  obtain⟨d,hd,hn⟩:=zf5 hi
  refine⟨_,hK,.same fun M F w ρ hl=>⟨.iface t (ρ x),?_,.iface t _ _ (hl x (by rw[ho];simp[Op.operands]))⟩⟩
  unfold execOp;simp only[ho]
  cases d<;>first|exact absurd rfl (hn _)|simp[Instr.makeInterface,run_underlying hd]
 case typeAssert x xt t ok =>
  simp only[zbH]at h
  split at h
  ·rename_i u v hx
   obtain⟨hi,rfl,hK⟩:=h
   obtain⟨d,hd,hn⟩:=zf5 hi
   refine⟨_,hK,.same fun M F w ρ hl=>?_⟩
   have hv:=hl x (by rw[ho];simp[Op.operands])
   rw[hx]at hv
   generalize hc:ρ x=c at hv
   cases hv with
   | iface _ _ c' hc' =>
    cases ok with
    | true =>
     refine⟨.tuple #[c',.bool true],?_,?_⟩
     ·unfold execOp;simp only[ho,hc]
      cases d<;>first|exact absurd rfl (hn _)|simp[Instr.typeAssert,run_underlying hd]
     ·refine .tuple _ _ rfl fun j h h'=>?_
      match j,h with
      | 0,_=>exact hc'
      | 1,_=>exact .bool true
    | false =>
     refine⟨c',?_,hc'⟩
     unfold execOp;simp only[ho,hc]
     cases d<;>first|exact absurd rfl (hn _)|simp[Instr.typeAssert,run_underlying hd]
  ·exact h.elim
 case makeFunc f first cap =>
  simp only[zbH]at h
  refine⟨_,h,.same fun M F w ρ hl=>⟨.func f (first.map ρ) (cap.map ρ),by unfold execOp;simp only[ho];simp[Instr.makeFunc],.fn f _ _ _ _ (by simp) (by simp) (fun j h h'=>?_) (fun j h h'=>?_)⟩⟩
  ·simp only[yak,ya1,yal]
   exact hl _ (by rw[ho];simp[Op.operands])
  ·simp only[yak,ya1,yal]
   exact hl _ (by rw[ho];simp[Op.operands])
 case slice t x lo hi mx =>
  simp only[zbH]at h
  obtain⟨v,hK,hh⟩:=zkW h
  refine⟨v,hK,.same fun M F w ρ hl=>?_⟩
  obtain⟨v',h1,h2⟩:=hh M F w (ρ x) ρ (hl x (by rw[ho];simp[Op.operands])) (fun y e=>hl y (by rw[ho,e];simp[Op.operands])) (fun y e=>hl y (by rw[ho,e];simp[Op.operands]))
   (fun y e=>hl y (by rw[ho,e];simp[Op.operands]))
  exact⟨v',by unfold execOp;simp only[ho];rw[Sem.run_bind,h1];rfl,h2⟩
 case fieldAddr t x f =>
  simp only[zbH]at h
  obtain⟨v,hK,hh⟩:=zgu h
  refine⟨v,hK,.same fun M F w ρ hl=>?_⟩
  obtain⟨v',h1,h2⟩:=hh M F w (ρ x) (hl x (by rw[ho];simp[Op.operands]))
  exact⟨v',by unfold execOp;simp only[ho];rw[Sem.run_bind,h1];rfl,h2⟩
 case field t x f =>
  simp only[zbH]at h
  obtain⟨v,hK,hh⟩:=zkU h
  refine⟨v,hK,.same fun M F w ρ hl=>?_⟩
  obtain⟨v',h1,h2⟩:=hh M F w (ρ x) (hl x (by rw[ho];simp[Op.operands]))
  exact⟨v',by unfold execOp;simp only[ho];rw[Sem.run_bind,h1];rfl,h2⟩
 case indexAddr t x i =>
  simp only[zbH]at h
  obtain⟨v,hK,hh⟩:=zgv h
  refine⟨v,hK,.same fun M F w ρ hl=>?_⟩
  obtain⟨v',h1,h2⟩:=hh M F w (ρ x) (ρ i) (hl x (by rw[ho];simp[Op.operands])) (hl i (by rw[ho];simp[Op.operands]))
  exact⟨v',by unfold execOp;simp only[ho];rw[Sem.run_bind,h1];rfl,h2⟩
 case index t x i =>
  simp only[zbH]at h
  obtain⟨v,hK,hh⟩:=zkT h
  refine⟨v,hK,.same fun M F w ρ hl=>?_⟩
  obtain⟨v',h1,h2⟩:=hh M F w (ρ x) (ρ i) (hl x (by rw[ho];simp[Op.operands])) (hl i (by rw[ho];simp[Op.operands]))
  exact⟨v',by unfold execOp;simp only[ho];rw[Sem.run_bind,h1];rfl,h2⟩
 case extract x i =>
  simp only[zbH]at h
  split at h
  ·rename_i vs hx
   obtain⟨v,hv,hK⟩:=h
   refine⟨v,hK,.same fun M F w ρ hl=>?_⟩
   have hr:=hl x (by rw[ho];simp[Op.operands])
   rw[hx]at hr
   generalize hc:ρ x=c at hr
   cases hr with
   | tuple _ A hA va =>
   obtain⟨h1,rfl⟩:=yaq.1 hv
   refine⟨A[i],?_,va i h1 (by omega)⟩
   unfold execOp;simp only[ho]
   simp[Instr.extract,hc,yar (show i<A.size by omega)]
  ·exact h.elim
 case build t parts =>
  simp only[zbH]at h
  obtain⟨v,hK,hh⟩:=zkY h
  refine⟨v,hK,.same fun M F w ρ hl=>?_⟩
  obtain⟨v',h1,h2⟩:=hh M F w ρ (fun p hp=>hl p.2 (by rw[ho];simp only[Op.operands,ya2];exact yaW hp))
  rw[zds]at h1
  exact⟨v',by unfold execOp;simp only[ho];rw[Sem.run_bind,h1];rfl,h2⟩
 case buildSlice t n parts =>
  simp only[zbH]at h
  split at h
  ·obtain⟨v,hK,hh⟩:=zg9 h
   refine⟨v,hK,fun M F w ρ hM hl=>?_⟩
   obtain⟨v',M',w',h1,h2⟩:=hh M F w ρ hM (fun p hp=>hl p (by rw[ho];simp only[Op.operands,ya2];exact hp))
   simp only[zds]at h1
   exact⟨v',M',w',by unfold execOp;simp only[ho];rw[Sem.run_bind,h1];rfl,h2⟩
  ·obtain⟨v,hK,hh⟩:=zfE h
   refine⟨v,hK,fun M F w ρ hM hl=>?_⟩
   obtain⟨v',M',w',h1,h2⟩:=hh M F w ρ hM (fun p hp=>hl p (by rw[ho];simp only[Op.operands,ya2];exact hp))
   simp only[zds]at h1
   exact⟨v',M',w',by unfold execOp;simp only[ho];rw[Sem.run_bind,h1];rfl,h2⟩
 case call c =>
  simp only[zbH]at h
  split at h
  ·rename_i hc
   split at h
   ·rename_i t x ht hx
    obtain⟨v,hK,hh⟩:=zoK h
    refine⟨v,hK,.same fun M F w ρ hl=>?_⟩
    obtain⟨v',h1,h2⟩:=hh M F w (ρ x) o.type (hl x (by rw[ho];simp[Op.operands,Call.operands,←ya3,hx]))
    have e1:c.args.map ρ=#[ρ x]:=by apply ya4;simp[hx]
    have e2:c.argTypes=#[t]:=by apply ya4;simp[ht]
    refine⟨v',?_,h2⟩
    unfold execOp;simp only[ho]
    simp only[resolve,hc,Sem.run_bind,Sem.run_pure,Result.andThen_ok,invoke,builtin,e1,e2,h1]
   ·exact h.elim
  ·rename_i hc
   split at h
   ·rename_i t x ht hx
    obtain⟨v,hK,hh⟩:=zoJ h
    refine⟨v,hK,.same fun M F w ρ hl=>?_⟩
    obtain⟨v',h1,h2⟩:=hh M F w (ρ x) o.type (hl x (by rw[ho];simp[Op.operands,Call.operands,←ya3,hx]))
    have e1:c.args.map ρ=#[ρ x]:=by apply ya4;simp[hx]
    have e2:c.argTypes=#[t]:=by apply ya4;simp[ht]
    refine⟨v',?_,h2⟩
    unfold execOp;simp only[ho]
    simp only[resolve,hc,Sem.run_bind,Sem.run_pure,Result.andThen_ok,invoke,builtin,e1,e2,h1]
   ·exact h.elim
  ·rename_i hc
   split at h
   ·rename_i x hx
    obtain⟨v,hK,hh⟩:=zkV (P:=P) h
    refine⟨v,hK,.same fun M F w ρ hl=>?_⟩
    obtain⟨v',h1,h2⟩:=hh M F w (ρ x) c.argTypes o.type (hl x (by rw[ho];simp[Op.operands,Call.operands,←ya3,hx]))
    have e1:c.args.map ρ=#[ρ x]:=by apply ya4;simp[hx]
    refine⟨v',?_,h2⟩
    unfold execOp;simp only[ho]
    simp only[resolve,hc,Sem.run_bind,Sem.run_pure,Result.andThen_ok,invoke,builtin,e1,h1]
   ·exact h.elim
  ·rename_i hc
   split at h
   ·rename_i x y hx
    split at h
    ·rename_i k m k' n ex ey
     obtain⟨rfl,hK⟩:=h
     refine⟨_,hK,.same fun M F w ρ hl=>⟨.int k (min m n),?_,.int ..⟩⟩
     have v1:=hl x (by rw[ho];simp[Op.operands,Call.operands,←ya3,hx])
     have v2:=hl y (by rw[ho];simp[Op.operands,Call.operands,←ya3,hx])
     rw[ex]at v1;rw[ey]at v2
     have e1:c.args.map ρ=#[.int k m,.int k n]:=by apply ya4;simp[hx,v1.int_inv,v2.int_inv]
     unfold execOp;simp only[ho]
     simp only[resolve,hc,Sem.run_bind,Sem.run_pure,Result.andThen_ok,invoke,builtin,e1,Builtin.min_,ya5,ya6,Builtin.min2]
     congr 3;split<;>omega
    ·exact h.elim
   ·exact h.elim
  ·rename_i hc
   split at h
   ·rename_i x y hx
    split at h
    ·rename_i k m k' n ex ey
     obtain⟨rfl,hK⟩:=h
     refine⟨_,hK,.same fun M F w ρ hl=>⟨.int k (max m n),?_,.int ..⟩⟩
     have v1:=hl x (by rw[ho];simp[Op.operands,Call.operands,←ya3,hx])
     have v2:=hl y (by rw[ho];simp[Op.operands,Call.operands,←ya3,hx])
     rw[ex]at v1;rw[ey]at v2
     have e1:c.args.map ρ=#[.int k m,.int k n]:=by apply ya4;simp[hx,v1.int_inv,v2.int_inv]
     unfold execOp;simp only[ho]
     simp only[resolve,hc,Sem.run_bind,Sem.run_pure,Result.andThen_ok,invoke,builtin,e1,Builtin.max_,ya5,ya6,Builtin.max2]
     congr 3;split<;>omega
    ·exact h.elim
   ·exact h.elim
  ·exact h.elim
 all_goals (simp only[zbH]at h)
def AS.newO(σ:AS)(cs:List AV):AS:={ σ with objs:=upd σ.objs σ.no (some cs),no:=σ.no+1 }
def AS.setO(σ:AS)(o:Nat)(cs:List AV):AS:={ σ with objs:=upd σ.objs o (some cs) }
def AS.newF(σ:AS):AS:={ σ with F:=upd σ.F σ.nf .alive,nf:=σ.nf+1 }
def AS.setF(σ:AS)(f:Nat)(s:FSt):AS:={ σ with F:=upd σ.F f s }
theorem exists_list{n:Nat}{p:Nat→Value→Prop}(h:∀j,j<n→∃c,p j c):∃l:List Value,l.length=n∧∀j c,l[j]?=some c→p j c:=by
 induction n with
 | zero=>exact⟨[],rfl,by simp⟩
 | succ n ih =>
  obtain⟨l,hl,hp⟩:=ih (fun j hj=>h j (by omega))
  obtain⟨c,hc⟩:=h n (by omega)
  refine⟨l++[c],by simp[hl],fun j d hd=>?_⟩
  by_cases e:j<n
  ·rw[yat (by omega)]at hd;exact hp j d hd
  ·rw[yaI (by omega)]at hd
   have:j-l.length=0:=by
    by_cases h0:j-l.length=0
    ·exact h0
    ·rw[List.getElem?_eq_none (by simp;omega)]at hd;cases hd
   rw[this]at hd
   simp at hd
   subst hd
   rw[show j=n by omega];exact hc
theorem Sim.cells{M σ w}(S:Sim M σ w){o cs}(h:σ.objs o=some cs):
  ∃l:List Value,l.length=cs.length∧(∀j c,l[j]?=some c→w.cell? ⟨(M.obj o).1,(M.obj o).2+j,none⟩=some c∧w.frozen? ⟨(M.obj o).1,(M.obj o).2+j,none⟩=false) ∧
   ∀j (h1:j<cs.length) (h2:j<l.length),VR M σ.F w cs[j] l[j]:=by
 obtain⟨_,_,hc⟩:=S.obj o cs h
 obtain⟨l,hl,hp⟩:=exists_list (n:=cs.length) (p:=fun j c=>w.cell? ⟨(M.obj o).1,(M.obj o).2+j,none⟩=some c∧w.frozen? ⟨(M.obj o).1,(M.obj o).2+j,none⟩=false∧∀h:j<cs.length,VR M σ.F w cs[j] c)
  (fun j hj=>by obtain⟨c,h1,h2,h3⟩:=hc j hj;exact⟨c,h1,h2,fun _=>h3⟩)
 exact⟨l,hl,fun j c hj=>⟨(hp j c hj).1,(hp j c hj).2.1⟩,fun j h1 h2=>(hp j _ (yau h2)).2.2 h1⟩
def zcF(P:Program)(t:TypeId)(p:AV)(σ:AS)(K:AV→Prop):Prop :=
 match p with
 | .ptr o off=>∃cs n,σ.objs o=some cs∧za9 P t=some n∧zaA (zaO P t) n off cs K
 | .pv φ v=>zm σ.F φ∧∃n,za9 P t=some n∧(if zaO P t then ∃cs,v=.agg cs∧cs.length=n∧K v else v.cells=[v]∧K v)
 | _=>False
theorem zdf{P:Program}{t n}(hn:za9 P t=some n){w:World}{B off:Nat}{l:List Value}(hl:l.length=n)(hg:zaO P t=true)
  (h:∀j c,l[j]?=some c→w.cell? ⟨B,off+j,none⟩=some c):(loadVar t ⟨B,off,none⟩).run P w=.ok (.agg l.toArray) w:=by
 obtain⟨d,hd⟩:=zgG hn
 have:=run_loadCells_list (P:=P) w ⟨B,off,none⟩ l (fun j v hv=>by rw[zG];exact h j v hv)
 simp[loadVar,zd1 hd,hg,zj hn,←hl,this]
theorem zdt{P:Program}{t n}(hn:za9 P t=some n){w:World}{B off:Nat}{c:Value}(hg:zaO P t=false)
  (h:w.cell? ⟨B,off,none⟩=some c):(loadVar t ⟨B,off,none⟩).run P w=.ok c w:=by
 obtain⟨d,hd⟩:=zgG hn
 simp[loadVar,zd1 hd,hg,h]
theorem zeH{P:Program}{t p σ}{K:AV→Prop}(h:zcF P t p σ K):
  ∃v,K v∧∀M w p',Sim M σ w→VR M σ.F w p p'→∃v',(Instr.loadAt t p').run P w=.ok v' w∧VR M σ.F w v v':=by
 unfold zcF at h
 split at h
 ·rename_i o off
  obtain⟨cs,n,ho,hn,hp⟩:=h
  unfold zaA at hp
  split at hp
  ·rename_i hg
   refine⟨_,hp.2,fun M w p' S hv=>?_⟩
   obtain⟨hlt,rfl⟩:=zfC hv
   obtain⟨l,hl,hc,hr⟩:=S.cells ho
   have hlen:((l.drop off).take n).length=n:=by simp;omega
   refine⟨.agg ((l.drop off).take n).toArray,?_,?_⟩
   ·simp only[Instr.loadAt,Instr.sureAddr,Sem.run_bind,Sem.run_pure,Result.andThen_ok]
    refine zdf hn hlen hg (fun j c hj=>?_)
    have hj':l[off+j]?=some c:=by
     rw[yaH]at hj
     split at hj
     ·rwa [yas]at hj
     ·cases hj
    have:=(hc _ _ hj').1
    rwa [←yav]at this
   ·refine .agg _ _ (by simp;omega) (fun j h1 h2=>?_)
    have h1':j<n:=by simp at h1;omega
    have:=hr (off+j) (by have:=hp.1;omega) (by have:=hp.1;omega)
    simpa using this
  ·rename_i hg
   obtain⟨v,hv,hK⟩:=hp
   refine⟨v,hK,fun M w p' S hv'=>?_⟩
   obtain⟨hlt,rfl⟩:=zfC hv'
   obtain⟨h1,rfl⟩:=yaq.1 hv
   obtain⟨_,_,hc⟩:=S.obj o cs ho
   obtain⟨c,h2,h3,h4⟩:=hc off h1
   refine⟨c,?_,h4⟩
   simp only[Instr.loadAt,Instr.sureAddr,Sem.run_bind,Sem.run_pure,Result.andThen_ok]
   exact zdt hn (by simpa using hg) h2
 ·rename_i φ v
  obtain⟨hrd,n,hn,hp⟩:=h
  split at hp
  ·rename_i hg
   obtain⟨cs,rfl,hl,hK⟩:=hp
   refine⟨_,hK,fun M w p' S hv=>?_⟩
   cases hv with
   | pv _ _ B off c hm hc hv =>
   have hlen:((ya7 n).map c).length=n:=by simp
   refine⟨.agg ((ya7 n).map c).toArray,?_,?_⟩
   ·simp only[Instr.loadAt,Instr.sureAddr,Sem.run_bind,Sem.run_pure,Result.andThen_ok]
    refine zdf hn hlen hg (fun j x hj=>?_)
    obtain⟨h1,rfl⟩:=yaq.1 hj
    simp only[yak,ya8]
    simp at h1
    exact hc hrd j (by simp[AV.cells];omega)
   ·refine .agg _ _ (by simp;omega) (fun j h1 h2=>?_)
    have:=hv hrd j (by simpa [AV.cells]using h1)
    simpa [AV.cells]using this
  ·rename_i hg
   obtain⟨hone,hK⟩:=hp
   refine⟨_,hK,fun M w p' S hv=>?_⟩
   cases hv with
   | pv _ _ B off c hm hc hv =>
   have h0:0<v.cells.length:=by rw[hone];simp
   refine⟨c 0,?_,?_⟩
   ·simp only[Instr.loadAt,Instr.sureAddr,Sem.run_bind,Sem.run_pure,Result.andThen_ok]
    exact zdt hn (by simpa using hg) (hc hrd 0 h0)
   ·have:=hv hrd 0 h0
    simp only[hone,yaz]at this
    exact this
 ·exact h.elim
def Mp.newObj(M:Mp)(B:Nat):Mp:={ role:=upd M.role B (some .obj),obj:=upd M.obj M.no (B,0),no:=M.no+1,nf:=M.nf }
theorem zcG{M F}{w:World}(hM:∀B r,M.role B=some r→B<w.heap.size)(o:Obj):Ext M F w (M.newObj w.heap.size) F { w with heap:=w.heap.push o } where
 io:=⟨rfl,rfl,rfl⟩
 no:=by simp[Mp.newObj]
 nf:=yah _
 obj x h:=by simp only[Mp.newObj];rw[zf _ _ (by omega)]
 dead _ _ h:=h
 spoil _ _ h:=by rw[h];simp
 size:=by simp
 shape B c e z h:=by
  have hB:B<w.heap.size:=(yaU.1 h).1
  exact .same (by rw[zS hB];exact h) rfl
 stat B _ h:=by
  have hB:=hM B _ h
  exact⟨by simp only[Mp.newObj];rw[zf _ _ (by omega)];exact h,.inl (zS hB)⟩
 free B hB h:=⟨by simp only[Mp.newObj];rw[zf _ _ (by omega)];exact h,zS hB⟩
 famr B f hf h _:=by
  have hB:=hM B _ h
  simp only[Mp.newObj];rw[zf _ _ (by omega)];exact h
 famc B f hf h _:=zS (hM B _ h)
theorem zd2{M σ}{w:World}(S:Sim M σ w){A:Array Value}{e:TypeId}{cs:List AV}(hA:Cells M σ.F w cs A):
  Sim (M.newObj w.heap.size) (σ.newO cs) { w with heap:=w.heap.push (.cells A e) } where
 no:=by simp[Mp.newObj,AS.newO,S.no]
 nf:=S.nf
 role B r' h:=by
  simp only[Mp.newObj,upd]at h
  split at h
  ·simp;omega
  ·have:=S.role B r' h
   simp;omega
 obj x cs' hx:=by
  have hE:=zcG (F:=σ.F) S.role (.cells A e)
  by_cases hxn:x=σ.no
  ·subst hxn
   simp only[AS.newO,ze]at hx
   cases hx
   refine⟨by simp[AS.newO],by simp only[Mp.newObj];rw[←S.no,ze,ze],fun j hj=>?_⟩
   have e1:(M.newObj w.heap.size).obj σ.no=(w.heap.size,0):=by simp only[Mp.newObj];rw[←S.no,ze]
   refine⟨A[j]'(by rw[hA.1];exact hj),?_,?_,(hA.get j hj (by rw[hA.1];exact hj)).mono hE⟩
   ·rw[e1];simp[World.cell?]
   ·rw[e1];simp[World.frozen?]
  ·simp only[AS.newO]at hx
   rw[zf _ _ hxn]at hx
   obtain⟨a,b,c⟩:=S.obj x cs' hx
   have hB:=S.role _ _ b
   have e1:(M.newObj w.heap.size).obj x=M.obj x:=by simp only[Mp.newObj];rw[zf _ _ (by rw[S.no];exact hxn)]
   rw[e1]
   refine⟨by simp[AS.newO];omega,by simp only[Mp.newObj];rw[zf _ _ (by omega)];exact b,fun j hj=>?_⟩
   obtain⟨v,h1,h2,h3⟩:=c j hj
   have e:=zS (o:=.cells A e) hB
   exact⟨v,(zp e).trans h1,(zq e).trans h2,h3.mono hE⟩
 inj x y hx hy hxy:=by
  have key:∀z,((σ.newO cs).objs z).isSome=true→z=σ.no∨(z≠σ.no∧(σ.objs z).isSome=true∧(M.obj z).1<w.heap.size):=by
   intro z hz
   by_cases h:z=σ.no
   ·exact .inl h
   ·simp only[AS.newO]at hz
    rw[zf _ _ h]at hz
    obtain⟨c,hc⟩:=yay.1 hz
    exact .inr ⟨h,hz,S.role _ _ (S.obj z c hc).2.1⟩
  have e0:(M.newObj w.heap.size).obj σ.no=(w.heap.size,0):=by simp only[Mp.newObj];rw[←S.no,ze]
  have e1:∀z,z≠σ.no→(M.newObj w.heap.size).obj z=M.obj z:=by intro z hz;simp only[Mp.newObj];rw[zf _ _ (by rw[S.no];exact hz)]
  rcases key x hx with rfl|⟨h1,h2,h3⟩<;>rcases key y hy with rfl|⟨h4,h5,h6⟩
  ·rfl
  ·rw[e0,e1 y h4]at hxy;simp only at hxy;omega
  ·rw[e0,e1 x h1]at hxy;simp only at hxy;omega
  ·rw[e1 x h1,e1 y h4]at hxy;exact S.inj x y h2 h5 hxy
def zhb(P:Program)(t:TypeId)(p v:AV)(σ:AS)(K:AS→Prop):Prop :=
 match p with
 | .ptr o off=>∃cs,σ.objs o=some cs∧v.known=true∧za9 P t=some v.cells.length∧off+v.cells.length≤cs.length∧(∀c∈v.cells,c.one=true)∧K (σ.setO o (splice cs off v.cells))
 | .pv (.fam f _) u=>σ.F f≠.dead∧v.known=true∧za9 P t=some v.cells.length∧u.cells.length=v.cells.length∧(∀c∈v.cells,c.one=true)∧K (σ.setF f .spoiled)
 | _=>False
theorem VR.oneCell{M F w v c}(h:VR M F w v c)(h1:v.one=true):c.oneCell'=true:=by
 cases h<;>first|rfl|(simp[AV.one]at h1;done)|(rename_i ht;obtain⟨b,n,cap,rfl⟩:=ht.slice;rfl)
theorem zeI(b:Nat):∀(vs:List Value) (o:Nat) (w:World),zaM w (w.setCells b o vs)
 | [],_,_=>⟨rfl,rfl,rfl⟩
 | v::r,o,w=>by
  rw[World.setCells]
  exact zaM.trans ⟨rfl,rfl,rfl⟩ (zeI b r _ _)
theorem zo(b:Nat):∀(vs:List Value) (o:Nat) (w:World) (B:Nat),B≠b→(w.setCells b o vs).heap[B]?=w.heap[B]?
 | [],_,_,_,_=>rfl
 | v::r,o,w,B,h=>by
  rw[World.setCells,zo b r _ _ B h]
  simp[World.setCell,ya0,Ne.symm h]
theorem zbL(b:Nat):∀(vs:List Value) (o:Nat) (w:World) c e z,w.heap[b]?=some (.cells c e z)→∃c',(w.setCells b o vs).heap[b]?=some (.cells c' e z)∧c'.size=c.size
 | [],_,_,c,_,_,h=>⟨c,h,rfl⟩
 | v::r,o,w,c,e,z,h=>by
  rw[World.setCells]
  obtain⟨c',h1,h2⟩:=zbL b r (o+1) (w.setCell ⟨b,o,none⟩ v) (c.setIfInBounds o v) e z (by simp[World.setCell,ya0,h])
  exact⟨c',h1,by rw[h2];simp⟩
theorem zaq(b:Nat):∀(vs:List Value) (o:Nat) (w:World),(w.setCells b o vs).heap.size=w.heap.size
 | [],_,_=>rfl
 | v::r,o,w=>by rw[World.setCells,zaq b r];simp[World.setCell]
theorem zdu{M F F'}{w:World}{b:Nat}{r:Role}(hr:M.role b=some r)(hn:∀m,r≠.st m)(hf:∀f,r=.fam f→f<M.nf→F' f≠.alive)
  (hd:∀f,f<M.nf→F f=.dead→F' f=.dead) (hs:∀f,f<M.nf→F f=.spoiled→F' f≠.alive) (vs:List Value) (o:Nat):Ext M F w M F' (w.setCells b o vs) where
 io:=zeI b vs o w
 no:=yah _
 nf:=yah _
 obj _ _:=rfl
 dead:=hd
 spoil:=hs
 size:=by rw[zaq];exact yah _
 shape B c e z h:=by
  by_cases hB:B=b
  ·subst hB;obtain⟨c',q1,q2⟩:=zbL B vs o w c e z h;exact .same q1 q2
  ·exact .same (by rw[zo b vs o w B hB];exact h) rfl
 stat B _ h:=⟨h,.inl (zo b vs o w B (by rintro rfl;rw[h]at hr;cases hr;exact hn _ rfl))⟩
 free B _ h:=⟨h,zo b vs o w B (by rintro rfl;rw[h]at hr;cases hr)⟩
 famr _ _ _ h _:=h
 famc B f hlt h ha:=zo b vs o w B (by rintro rfl;rw[h]at hr;cases hr;exact hf f rfl hlt ha)
theorem ziI{M F w}{v:AV}{c:Value}(h:VR M F w v c)(hk:v.known=true)(h1:∀x∈v.cells,x.one=true):
  c.cells.toList.length=v.cells.length∧(∀x∈c.cells.toList,x.oneCell'=true)∧∀j (h:j<v.cells.length) (h':j<c.cells.toList.length),VR M F w v.cells[j] c.cells.toList[j]:=by
 obtain⟨e1,e2⟩:=h.cells_rel hk
 refine⟨by simp[e1],fun x hx=>?_,fun j h h'=>by simpa using e2 j h (by simpa using h')⟩
 obtain⟨j,hj,rfl⟩:=ya9 hx
 have hj':j<c.cells.size:=by simpa using hj
 have:=e2 j (by omega) hj'
 simp only[yal]
 exact this.oneCell (h1 _ (yaw _))
theorem zkZ{P:Program}{t p v σ}{K:AS→Prop}(h:zhb P t p v σ K){M w p' v'}(S:Sim M σ w)(hp:VR M σ.F w p p')(hv:VR M σ.F w v v'):
  ∃σ' w',(Instr.storeAt t p' v').run P w=.ok () w'∧K σ'∧Sim M σ' w'∧Ext M σ.F w M σ'.F w':=by
 unfold zhb at h
 split at h
 ·rename_i o off
  obtain⟨cs,ho,hk,hn,hb,hone,hK⟩:=h
  obtain⟨hlt,rfl⟩:=zfC hp
  obtain⟨hol,hor,hoc⟩:=S.obj o cs ho
  obtain⟨l1,l2,l3⟩:=ziI hv hk hone
  have hcell:∀j,j<v'.cells.toList.length→(w.cell? ⟨(M.obj o).1,(M.obj o).2+off+0+j,none⟩).isSome=true:=fun j hj=>by
   obtain⟨c,h1,_⟩:=hoc (off+j) (by omega)
   rw[yaK,yav,h1];rfl
  have hfz:∀j,j<v'.cells.toList.length→w.frozen? ⟨(M.obj o).1,(M.obj o).2+off+0+j,none⟩=false:=fun j hj=>by
   obtain⟨c,_,h2,_⟩:=hoc (off+j) (by omega)
   rw[yaK,yav];exact h2
  have hrun:=run_storeCells_cells (P:=P) (M.obj o).1 ((M.obj o).2+off) v'.cells.toList 0 w hcell hfz l2
  have hE:Ext M σ.F w M σ.F (w.setCells (M.obj o).1 ((M.obj o).2+off+0) v'.cells.toList) :=
   zdu (F':=σ.F) hor (by simp) (by intro f hf;cases hf) (fun _ _ h=>h) (fun _ _ h=>by rw[h];simp) _ _
  refine⟨_,_,?_,hK,?_,hE⟩
  ·have hsz:v'.cells.size=v.cells.length:=by simpa using l1
   simp only[Instr.storeAt,Instr.sureAddr,storeVar,Sem.run_bind,Sem.run_pure,Result.andThen_ok,zj hn,Sem.run_ite]
   rw[if_neg (by rw[hsz];simp)]
   exact hrun
  ·refine⟨S.no,S.nf,fun B r hr=>by rw[zaq];exact S.role B r hr,fun x cs' hx=>?_,fun x y hx hy hxy=>?_⟩
   ·by_cases hxo:x=o
    ·subst hxo
     simp only[AS.setO,ze]at hx
     cases hx
     refine⟨hol,hor,fun j hj=>?_⟩
     have hj':j<cs.length:=by rwa [zb2 hb]at hj
     obtain⟨c,h1,h2,h3⟩:=hoc j hj'
     by_cases hin:off≤j∧j<off+v.cells.length
     ·obtain⟨i,rfl⟩:∃i,j=off+i:=⟨j-off,by omega⟩
      refine⟨v'.cells.toList[i]'(by omega),?_,?_,?_⟩
      ·have:=World.cell?_setCells_in (M.obj x).1 v'.cells.toList ((M.obj x).2+off+0) w hcell i (by omega)
       rw[←yav]
       exact this
      ·rw[World.frozen?_setCells];exact h2
      ·have e:(splice cs off v.cells)[off+i]=v.cells[i]'(by omega):=by
        have:=zb9 (cs:=cs) (vs:=v.cells) (off:=off) (j:=off+i) hb
        rw[if_pos hin,yau hj,yau (by omega)]at this
        simp only[yaR.injEq]at this
        rw[this];congr 1;omega
       rw[e]
       exact(l3 i (by omega) (by omega)).mono hE
     ·refine⟨c,?_,?_,?_⟩
      ·rw[World.cell?_setCells_out]
       ·exact h1
       ·intro _ _;simp only;omega
      ·rw[World.frozen?_setCells];exact h2
      ·have e:(splice cs off v.cells)[j]=cs[j]:=by
        have:=zb9 (cs:=cs) (vs:=v.cells) (off:=off) (j:=j) hb
        rw[if_neg hin,yau hj,yau hj']at this
        simpa using this
       rw[e]
       exact h3.mono hE
    ·simp only[AS.setO]at hx
     rw[zf _ _ hxo]at hx
     obtain⟨a,b,c⟩:=S.obj x cs' hx
     refine⟨a,b,fun j hj=>?_⟩
     obtain⟨u,h1,h2,h3⟩:=c j hj
     have hne:(M.obj x).1≠(M.obj o).1:=fun e=>hxo (S.inj x o (by rw[hx];rfl) (by rw[ho];rfl) e)
     have e:=zo (M.obj o).1 v'.cells.toList ((M.obj o).2+off+0) w _ hne
     exact⟨u,(zp e).trans h1,(zq e).trans h2,h3.mono hE⟩
   ·have key:∀z,((σ.setO o (splice cs off v.cells)).objs z).isSome=true→(σ.objs z).isSome=true:=by
     intro z hz
     by_cases hzo:z=o
     ·subst hzo;rw[ho];rfl
     ·simp only[AS.setO]at hz;rwa [zf _ _ hzo]at hz
    exact S.inj x y (key x hx) (key y hy) hxy
 ·rename_i f b u
  obtain⟨hfd,hk,hn,hu,hone,hK⟩:=h
  cases hp with
  | pv _ _ B off c hm hc hv' =>
  obtain⟨hfl,hm⟩:=hm
  obtain⟨hrole,hmem⟩:=hm hfd
  obtain⟨l1,l2,l3⟩:=ziI hv hk hone
  have hrun:=run_storeCells_cells (P:=P) B off v'.cells.toList 0 w (fun j hj=>by rw[yaK];exact(hmem j (by omega)).1) (fun j hj=>by rw[yaK];exact(hmem j (by omega)).2) l2
  have hE:Ext M σ.F w M (upd σ.F f .spoiled) (w.setCells B (off+0) v'.cells.toList):=by
   refine zdu hrole (by simp) (by intro g hg _;cases hg;rw[ze];simp) (fun g hg hd=>?_) (fun g hg hd=>?_) _ _
   ·by_cases e:g=f
    ·subst e;exact absurd hd hfd
    ·rw[zf _ _ e];exact hd
   ·by_cases e:g=f
    ·subst e;rw[ze];simp
    ·rw[zf _ _ e,hd];simp
  refine⟨_,_,?_,hK,?_,hE⟩
  ·have hsz:v'.cells.size=v.cells.length:=by simpa using l1
   simp only[Instr.storeAt,Instr.sureAddr,storeVar,Sem.run_bind,Sem.run_pure,Result.andThen_ok,zj hn,Sem.run_ite]
   rw[if_neg (by rw[hsz];simp)]
   exact hrun
  ·refine⟨S.no,S.nf,fun B r hr=>by rw[zaq];exact S.role B r hr,fun x cs' hx=>?_,S.inj⟩
   obtain⟨a,b',c'⟩:=S.obj x cs' hx
   refine⟨a,b',fun j hj=>?_⟩
   obtain⟨q,h1,h2,h3⟩:=c' j hj
   have hne:(M.obj x).1≠B:=by rintro e;rw[e,hrole]at b';cases b'
   have e:=zo B v'.cells.toList (off+0) w _ hne
   exact⟨q,(zp e).trans h1,(zq e).trans h2,h3.mono hE⟩
 ·exact h.elim
def zbM(P:Program)(t:TypeId):Option Nat :=
 match P.underlying t with
 | some (.slice e)=>(P.info? e).map (·.bytes)
 | _=>none
def zcx(P:Program)(tX:TypeId)(zero:AV)(sz:Nat)(x:AV)(F:Nat→FSt)(K:List AV→Prop):Prop :=
 match x with
 | .int _ n=>(zdd P tX).isSome=true∧0≤n∧n<2^40∧K (yaj n.toNat zero)
 | .nilsl=>(zcm P tX).isSome=true∧K []
 | .sl φ s ys=>zcm P tX=some s∧s=sz∧zm F φ∧K ys
 | .str bs=>zca P tX=true∧sz=1∧K (bs.map fun b=>.int .u8 b.toNat)
 | _=>False
structure Src(P:Program)(M:Mp)(F:Nat→FSt)(w:World)(e tX:TypeId)(sz:Nat)(x':Value)(ys:List AV)(zeros:Bool)(new:Array Value):Prop where
 typ:∃d,P.underlying tX=some d∧(zeros=true↔∃k,d=.int k)
 len:∀w',zeros=false→(Builtin.lenOf x').run P w'=.ok ys.length w'
 first:∀w',w'.heap=w.heap→zeros=false→(Builtin.firstCells sz ys.length x').run P w'=.ok new w'
 num:zeros=true→∃k,x'=.int k ys.length∧ys.length<2^40
 fill:∀zv,zeros=true→∀w',(zeroValue e).run P w'=.ok zv w'→new=if ys.length*sz=0 then #[]else Builtin.zeroCells zv.cells ys.length
 cells:Cells M F w (zy ys) new
theorem zk0(z:Array Value)(n:Nat):Builtin.zeroCells z n=(yaN (n*z.size)).map fun i=>z[i%z.size]!:=rfl
theorem zjB{P:Program}{tX zero sz x F}{K:List AV→Prop}{e:TypeId}(hz:zH P e=some zero)(hzk:zero.known=true)(hzl:zero.cells.length=sz)
  (h:zcx P tX zero sz x F K) :
  ∃ys,K ys∧∀M F' w x',(∀φ,zm F φ→zm F' φ)→VR M F' w x x'→∃zeros new,Src P M F' w e tX sz x' ys zeros new:=by
 unfold zcx at h
 split at h
 ·rename_i k n
  obtain⟨hi,h0,h1,hK⟩:=h
  obtain⟨k',hk'⟩:=yay.1 hi
  refine⟨_,hK,fun M F' w x' hF hx=>?_⟩
  obtain⟨zv,hzv,rfl⟩:=zaX hz w
  have hzr:=zbb M F' w zv
  have hcz:=Cells.zeros hzr hzk hzl n.toNat
  have hzs:zv.cells.size=sz:=by rw[(hzr.cells_rel hzk).1,hzl]
  refine⟨true,(yaN (n.toNat * sz)).map fun i=>zv.cells[i%zv.cells.size]!,⟨⟨_,zg6 hk',by simp⟩,by simp,by simp,fun _=>⟨k,?_,by simp;omega⟩,?_,hcz⟩⟩
  ·rw[hx.int_inv];simp;omega
  ·intro zv' _ w' hw'
   have:zv'=zv:=by
    unfold zH at hz
    have hzv2:=hzv
    unfold zeroValue at hw' hzv2
    cases hi2:P.info? e with
    | none=>simp[typeInfo,hi2]at hw'
    | some i =>
     simp[typeInfo,hi2]at hw' hzv2
     cases hiz:i.zero with
     | none=>simp[hiz]at hw'
     | some u=>simp[hiz]at hw' hzv2;rw[←hw',←hzv2]
   subst this
   simp only[yba]
   split
   ·rename_i h0'
    have:n.toNat * sz=0:=h0'
    rw[this,show yaN 0=#[] from rfl,yaX]
   ·rw[zk0,hzs]
 ·obtain⟨he,hK⟩:=h
  obtain⟨s,he⟩:=yay.1 he
  obtain⟨e',hu,hs⟩:=zC he
  refine⟨_,hK,fun M F' w x' hF hx=>⟨false,#[],⟨⟨_,hu,by simp⟩,fun w' _=>?_,fun w' _ _=>?_,by simp,by simp,⟨by simp[zy],by simp[zy]⟩⟩⟩⟩
  ·rw[zaS hx];simp[Builtin.lenOf]
  ·rw[zaS hx];simp[Builtin.firstCells]
 ·rename_i φ s ys
  obtain⟨he,rfl,hrd,hK⟩:=h
  obtain⟨e',hu,hs⟩:=zC he
  refine⟨_,hK,fun M F' w x' hF hx=>?_⟩
  cases hx with
  | slz b sz a=>exact⟨false,#[],⟨⟨_,hu,by simp⟩,fun w' _=>by simp[Builtin.lenOf],fun w' hw' _=>by have:=run_loadCells_list (P:=P) w' a [] (by simp);simpa [Builtin.firstCells]using this,by simp,by simp,⟨by simp[zy],by simp[zy]⟩⟩⟩
  | sl _ _ _ B off cap cs hcap hlit hsz hm hc hv =>
  have hfl:=zt s ys hsz
  refine⟨false,((ya7 (zy ys).length).map cs).toArray,⟨⟨_,hu,by simp⟩,fun w' _=>by simp[Builtin.lenOf],fun w' hw' _=>?_,by simp,by simp,?_⟩⟩
  ·simp only[Builtin.firstCells]
   have:=run_loadCells_list (P:=P) w' ⟨B,off,none⟩ ((ya7 (zy ys).length).map cs) (fun j v hj=>by
    obtain⟨h1,rfl⟩:=yaq.1 hj
    simp at h1
    rw[zG,zp (w:=w) (by rw[hw'])]
    simp only[yak,ya8]
    exact hc (hF _ hrd) j h1)
   simp only[ybb,ybc,hfl]at this
   rw[this,hfl]
  ·refine Cells.of (by simp) (fun j h1 h2=>?_)
   simpa using hv (hF _ hrd) j h1
 ·rename_i bs
  obtain⟨hs,rfl,hK⟩:=h
  refine⟨_,hK,fun M F' w x' hF hx=>?_⟩
  obtain⟨b,rfl,rfl⟩:=hx.str_inv
  refine⟨false,(b.data.map fun b=>.int .u8 b.toNat),⟨⟨_,zah hs,by simp⟩,fun w' _=>?_,fun w' _ _=>?_,by simp,by simp,?_⟩⟩
  ·simp[Builtin.lenOf]
  ·have hlen:(b.data.toList.map fun c=>AV.int .u8 c.toNat).length=b.size:=by simp
   rw[hlen]
   have hb:b.extract 0 b.size=b:=by simp
   simp[Builtin.firstCells,hb]
  ·refine⟨?_,fun j v hj=>?_⟩
   ·rw[zt 1 _ (by intro x hx;simp at hx;obtain⟨c,_,rfl⟩:=hx;rfl)];simp
   ·have:zy (b.data.toList.map fun c=>AV.int .u8 c.toNat)=b.data.toList.map fun c=>AV.int .u8 c.toNat:=by
     simp[zy,AV.cells,List.flatMap_map]
     induction b.data.toList with
     | nil=>rfl
     | cons a l ih=>simp[yaa,ih]
    rw[this]at hj
    obtain⟨h1,rfl⟩:=yaq.1 hj
    simp at h1
    refine⟨.int .u8 (b.data[j]).toNat,?_,?_⟩
    ·rw[yaQ,yar (by simpa using h1)];rfl
    ·simp;exact .int ..
 ·exact h.elim
theorem wrap_nat{n:Nat}(h:n<2^62):yam.wrap (n:Int)=n:=by
 have e:(n:Int)%(2^yam.bits:Int)=n:=by
  show(n:Int)%(2^64:Int)=n
  omega
 simp only[IntKind.wrap,e]
 rw[if_neg]
 simp[yap,yao]
 omega
theorem zij{P:Program}{tS tX e:TypeId}{sz:Nat}(hu:P.underlying tS=some (.slice e))(hs:za9 P e=some sz){i:TypeInfo}(hi:P.info? e=some i){zv:Value}(hz:i.zero=some zv)
  {M F} {w:World} {x':Value} {ys zeros new} (hsrc:Src P M F w e tX sz x' ys zeros new) (hb:zeros=true→ys.length*i.bytes≤2^47)
  {B off len cap:Nat} (hfit:len+ys.length≤cap) (hc:∀j,j<new.toList.length→(w.cell? ⟨B,off+len*sz+j,none⟩).isSome=true)
  (hf:∀j,j<new.toList.length→w.frozen? ⟨B,off+len*sz+j,none⟩=false) (h1:∀v∈new.toList,v.oneCell'=true) (ty:TypeId) :
  (Builtin.append_ #[tS,tX] ty #[.slice (some ⟨B,off,none⟩) len cap,x']).run P w=.ok (.slice (some ⟨B,off,none⟩) (len+ys.length) cap) (w.setCells B (off+len*sz) new.toList):=by
 have hst:=run_storeCells_cells (P:=P) B (off+len*sz) new.toList 0 w (by simpa using hc) (by simpa using hf) h1
 rw[yaK]at hst
 have hzv:∀w',(zeroValue e).run P w'=.ok zv w':=fun w'=>by simp[zeroValue,typeInfo,hi,hz]
 have hti:∀w',(typeInfo e).run P w'=.ok i w':=fun w'=>by simp[typeInfo,hi]
 obtain⟨d,hd,hzi⟩:=hsrc.typ
 have ea:(#[tS,tX]:Array TypeId)[0]?=some tS:=rfl
 have eb:(#[tS,tX]:Array TypeId)[1]?=some tX:=rfl
 have ec:(#[Value.slice (some ⟨B,off,none⟩) len cap,x']:Array Value)[0]?=some (.slice (some ⟨B,off,none⟩) len cap):=rfl
 have ed:(#[Value.slice (some ⟨B,off,none⟩) len cap,x']:Array Value)[1]?=some x':=rfl
 unfold Builtin.append_
 rw[ea,eb,ec,ed]
 simp only[Sem.run_bind,run_underlying hu,run_underlying hd,zj hs,Result.andThen_ok,Sem.run_pure]
 cases zeros with
 | false =>
  cases d
  case int k=>exact absurd (hzi.2 ⟨_,rfl⟩) (by simp)
  all_goals
   simp only[Bool.false_eq_true,if_false,hsrc.len w rfl,Result.andThen_ok,Sem.run_ite,hfit,if_true,Bool.not_false,Sem.run_bind,hsrc.first w rfl rfl,zG,hst,Sem.run_pure]
 | true =>
  obtain⟨k,rfl⟩:=hzi.1 rfl
  obtain⟨k',rfl,hlt⟩:=hsrc.num rfl
  have hw:yam.wrap (ys.length:Int)=ys.length:=wrap_nat (by omega)
  have hb':=hb rfl
  have hb2:¬((ys.length:Int)*(i.bytes:Int) > 2^48):=by
   have:((ys.length*i.bytes:Nat):Int)≤2^47:=by exact_mod_cast hb'
   rw[ybd]at this
   omega
  have hnew:=hsrc.fill zv rfl w (hzv w)
  have h0:¬((ys.length:Int)<0):=by omega
  simp only[if_true,asInt,asIntOf,Sem.run_bind,Sem.run_pure,Result.andThen_ok,hw,Sem.run_ite,if_neg h0,hti,if_neg hb2,ybe,hfit,Bool.not_true,Bool.false_eq_true,if_false]
  by_cases hz0:ys.length*sz=0
  ·rw[if_pos hz0]at hnew
   subst hnew
   simp only[if_pos hz0,Result.andThen_ok,zG]
   rfl
  ·rw[if_neg hz0]at hnew
   subst hnew
   simp only[if_neg hz0,hzv,Result.andThen_ok,zG,hst]
theorem zhc{P:Program}{tS tX e:TypeId}{sz:Nat}(hu:P.underlying tS=some (.slice e))(hs:za9 P e=some sz){i:TypeInfo}(hi:P.info? e=some i){zv:Value}(hz:i.zero=some zv)
  {M F} {w:World} {x':Value} {ys zeros new} (hsrc:Src P M F w e tX sz x' ys zeros new) {base:Option Addr} {len cap:Nat} (hfit:¬len+ys.length≤cap) (hbound:(len+ys.length)*i.bytes≤2^47)
  (hpos:i.bytes≠0) {old:Array Value} (hold:∀w',w'.heap=w.heap→(Builtin.firstCells sz len (.slice base len cap)).run P w'=.ok old w') (ty:TypeId) :
  ∃newCap w',len+ys.length≤newCap∧(Builtin.append_ #[tS,tX] ty #[.slice base len cap,x']).run P w=.ok (.slice (some ⟨w.heap.size,0,none⟩) (len+ys.length) newCap) w' ∧
   w'.heap=w.heap.push (.cells (old++new++Builtin.zeroCells zv.cells (newCap-(len+ys.length))) e)∧zaM w w':=by
 have hzv:∀w',(zeroValue e).run P w'=.ok zv w':=fun w'=>by simp[zeroValue,typeInfo,hi,hz]
 have hti:∀w',(typeInfo e).run P w'=.ok i w':=fun w'=>by simp[typeInfo,hi]
 obtain⟨d,hd,hzi⟩:=hsrc.typ
 have hcap:cap<len+ys.length:=by omega
 have hgrow:¬(Builtin.nextslicecap (len+ys.length) cap*i.bytes > 2^48):=by
  have:=growslice_fits hcap hbound;omega
 have hlen47:len+ys.length≤2^47:=by
  have:(len+ys.length)*1≤(len+ys.length)*i.bytes:=Nat.mul_le_mul_left _ (by omega)
  omega
 have hmax:¬(((len+ys.length:Nat):Int) > yam.max):=by simp[yan,yao,yap];omega
 have ea:(#[tS,tX]:Array TypeId)[0]?=some tS:=rfl
 have eb:(#[tS,tX]:Array TypeId)[1]?=some tX:=rfl
 have ec:(#[Value.slice base len cap,x']:Array Value)[0]?=some (.slice base len cap):=rfl
 have ed:(#[Value.slice base len cap,x']:Array Value)[1]?=some x':=rfl
 have hforced:(Question.appendCap (len+ys.length) cap e).forced=false:=rfl
 generalize hcut:(Question.appendCap (len+ys.length) cap e).cut (w.tape w.drawn (.appendCap (len+ys.length) cap e))=newCap
 have hle:len+ys.length≤newCap:=by rw[←hcut];exact Nat.le_add_right _ _
 refine⟨newCap,{ w with drawn:=w.drawn+1,heap:=w.heap.push (.cells (old++new++Builtin.zeroCells zv.cells (newCap-(len+ys.length))) e) },hle,?_,rfl,⟨rfl,rfl,rfl⟩⟩
 unfold Builtin.append_
 rw[ea,eb,ec,ed]
 simp only[Sem.run_bind,run_underlying hu,run_underlying hd,zj hs,Result.andThen_ok,Sem.run_pure]
 cases zeros with
 | false =>
  cases d
  case int k=>exact absurd (hzi.2 ⟨_,rfl⟩) (by simp)
  all_goals
   simp only[Bool.false_eq_true,if_false,hsrc.len w rfl,Result.andThen_ok,Sem.run_ite,hfit,Bool.not_false,if_true,Sem.run_bind,hti,hmax,false_and,hgrow,run_choose,hforced,hcut,run_askRoom,Sem.run_pure]
   simp only[hold { w with drawn:=w.drawn+1 } rfl,Result.andThen_ok,hsrc.first { w with drawn:=w.drawn+1 } rfl rfl,hzv,newRow,run_newObj,Sem.run_bind,Sem.run_pure]
 | true =>
  obtain⟨k,rfl⟩:=hzi.1 rfl
  obtain⟨k',rfl,hlt⟩:=hsrc.num rfl
  have hw:yam.wrap (ys.length:Int)=ys.length:=wrap_nat (by omega)
  have hb2:¬((ys.length:Int)*(i.bytes:Int) > 2^48):=by
   have h1:ys.length*i.bytes≤(len+ys.length)*i.bytes:=yax _ (by omega)
   have:((ys.length*i.bytes:Nat):Int)≤2^47:=by exact_mod_cast yai h1 hbound
   rw[ybd]at this
   omega
  have h0:¬((ys.length:Int)<0):=by omega
  simp only[if_true,asInt,asIntOf,Sem.run_bind,Sem.run_pure,Result.andThen_ok,hw,Sem.run_ite,if_neg h0,hti,if_neg hb2,ybe,hfit,Bool.not_true,Bool.false_eq_true,if_false,hmax,false_and,
   hgrow,run_choose,hforced,hcut,run_askRoom]
  simp only[hold { w with drawn:=w.drawn+1 } rfl]
  by_cases hz0:ys.length*sz=0
  ·have hnew:=hsrc.fill zv rfl w (hzv w)
   rw[if_pos hz0]at hnew
   simp only[if_pos hz0,Result.andThen_ok,hzv,newRow,run_newObj,Sem.run_bind,Sem.run_pure,hnew]
  ·have hnew:=hsrc.fill zv rfl w (hzv w)
   rw[if_neg hz0]at hnew
   simp only[if_neg hz0,hzv,Result.andThen_ok,newRow,run_newObj,Sem.run_bind,Sem.run_pure,hnew]
theorem zaP{α:Type}(f:Nat→α)(i:Nat)(x:α)(j:Nat):upd f i x j=if j=i then x else f j:=rfl
open Classical in
noncomputable def Mp.own(M:Mp)(f B off:Nat):Mp:={ M with role:=fun C=>if M.role C=some (.fam f)then some .obj else M.role C,obj:=upd M.obj M.no (B,off),no:=M.no+1 }
theorem zhd{M:Mp}{F:Nat→FSt}{w:World}{f B off:Nat}(h:F f=.alive):Ext M F w (M.own f B off) (upd F f .dead) w where
 io:=.refl _
 no:=by simp[Mp.own]
 nf:=yah _
 obj o ho:=by simp only[Mp.own];rw[zf _ _ (by omega)]
 dead g _ hd:=by simp only[zaP];split<;>simp_all
 spoil g _ hs:=by simp only[zaP];split<;>simp_all
 size:=yah _
 shape _ _ _ _ h:=.same h rfl
 stat B _ hB:=⟨by simp[Mp.own,hB],.inl rfl⟩
 free B _ hB:=⟨by simp[Mp.own,hB],rfl⟩
 famr B g _ hB hd:=by
  have hg:g≠f:=by intro e;subst e;simp[zaP]at hd
  exact(if_neg (by rw[hB];simpa using hg)).trans hB
 famc _ _ _ _ _:=rfl
def AS.ownV(σ:AS)(f:Nat)(xs:List AV):AS :=
 { σ with F:=upd σ.F f .dead,objs:=upd σ.objs σ.no (some xs),no:=σ.no+1 }
theorem Sim.ownV{M:Mp}{σ:AS}{w:World}{f:Nat}{xs:List AV}{b:Bool}{sz:Nat}{c:Value}(S:Sim M σ w)(ha:σ.F f=.alive)(hc3:VR M σ.F w (.sl (.fam f b) sz xs) c):
  ∃B off,Sim (M.own f B off) (σ.ownV f (zy xs)) w∧VR (M.own f B off) (upd σ.F f .dead) w (.slm σ.no 0 sz xs.length) c:=by
 cases hc3 with
 | sl _ _ _ B off cap vs hcap hlit hsz hm hc hv =>
 have E:=zhd (M:=M) (w:=w) (B:=B) (off:=off) ha
 obtain⟨hf,hmem⟩:=hm
 obtain⟨hrole,hcell⟩:=hmem (by rw[ha];simp)
 have hno:=S.no
 have hfl:=zt sz xs hsz
 refine⟨B,off,⟨by simp[Mp.own,AS.ownV,S.no],S.nf,fun C r h=>?_,fun o cs' h=>?_,fun o o' h h'=>?_⟩,?_⟩
 ·simp only[Mp.own]at h
  split at h
  ·rename_i h1;exact S.role C _ h1
  ·exact S.role C r h
 ·simp only[AS.ownV,zaP]at h
  split at h
  ·rename_i he
   subst he
   cases h
   refine⟨by simp[AS.ownV],?_,fun i hi=>?_⟩
   ·simp[Mp.own,hno,zaP,hrole]
   ·refine⟨vs i,?_,?_,?_⟩
    ·simp only[Mp.own,hno,ze];exact hc ha i hi
    ·simp only[Mp.own,hno,ze];exact(hcell i (by rw[hfl]at hi;have:=yax sz hcap;omega)).2
    ·exact(hv ha i hi).mono E
  ·obtain⟨g1,g2,g3⟩:=S.obj o cs' h
   refine⟨by simp[AS.ownV];omega,?_,fun i hi=>?_⟩
   ·simp only[Mp.own];rw[zf _ _ (by omega)];simp[g2]
   ·obtain⟨d,d1,d2,d3⟩:=g3 i hi
    refine⟨d,?_,?_,d3.mono E⟩
    ·simp only[Mp.own];rw[zf _ _ (by omega)];exact d1
    ·simp only[Mp.own];rw[zf _ _ (by omega)];exact d2
 ·have key:∀p,(((σ.ownV f (zy xs)).objs p).isSome=true)→p≠σ.no→(σ.objs p).isSome=true:=fun p hp hne=>by
   simp only[AS.ownV,zaP]at hp
   rw[if_neg hne]at hp
   exact hp
  have blk:∀p,p≠σ.no→((M.own f B off).obj p).1=(M.obj p).1:=fun p hp=>by simp only[Mp.own];rw[zf _ _ (by omega)]
  have blk0:((M.own f B off).obj σ.no).1=B:=by simp[Mp.own,hno,ze]
  have no':∀p,(σ.objs p).isSome=true→(M.obj p).1≠B:=fun p hp e=>by
   obtain⟨ds,hds⟩:=yay.1 hp
   have:=(S.obj p ds hds).2.1
   rw[e,hrole]at this
   cases this
  by_cases e1:o=σ.no<;>by_cases e2:o'=σ.no
  ·omega
  ·intro hh;subst e1;rw[blk0,blk o' e2]at hh;exact absurd hh.symm (no' o' (key o' h' e2))
  ·intro hh;subst e2;rw[blk0,blk o e1]at hh;exact absurd hh (no' o (key o h e1))
  ·intro hh;rw[blk o e1,blk o' e2]at hh;exact S.inj o o' (key o h e1) (key o' h' e2) hh
 ·have:=VR.slm (M:=M.own f B off) (F:=upd σ.F f .dead) (w:=w) σ.no 0 sz xs.length cap (by simp[Mp.own,hno,ze]) hcap (fun _ j hj=>by simpa [Mp.own,hno,ze]using hcell j hj)
  simpa [Mp.own,hno,ze]using this
def AS.famV(σ:AS)(o:Nat):AS:={ σ with F:=upd σ.F σ.nf .alive,nf:=σ.nf+1,objs:=upd σ.objs o none }
open Classical in
noncomputable def Mp.famV(M:Mp)(B:Nat):Mp:={ M with role:=fun C=>if C=B then some (.fam M.nf)else M.role C,nf:=M.nf+1 }
theorem Sim.famV{M:Mp}{σ:AS}{w:World}{o sz len:Nat}{rows cs:List AV}{c:Value}(S:Sim M σ w)(ho:σ.objs o=some cs)(hv:VR M σ.F w (.slm o 0 sz len) c)(hl:rows.length=len)(hr:zy rows=cs.take (len*sz))(hle:len*sz≤cs.length)(hsz:∀x∈rows,x.cells.length=sz):
  ∃M',Sim M' (σ.famV o) w∧VR M' (σ.famV o).F w (.sl (.fam σ.nf false) sz rows) c∧Ext M σ.F w M' (σ.famV o).F w:=by
 obtain⟨hlt,cap,hcap,rfl,hroom⟩:=znF hv
 obtain⟨h1,h2,h3⟩:=S.obj o cs ho
 have hnf:=S.nf
 have hB:=h2
 have E:Ext M σ.F w (M.famV (M.obj o).1) (upd σ.F σ.nf .alive) w:={
  io:=.refl _
  no:=yah _
  nf:=Nat.le_succ _
  obj:=fun _ _=>rfl
  dead:=fun k hk hd=>by rw[zf _ _ (by omega)];exact hd
  spoil:=fun k hk hs=>by rw[zf _ _ (by omega),hs];simp
  size:=yah _
  shape:=fun _ _ _ _ h=>.same h rfl
  stat:=fun C _ hC=>⟨by simp only[Mp.famV];rw[if_neg (fun e=>by rw[e,hB]at hC;cases hC)];exact hC,.inl rfl⟩
  free:=fun C _ hC=>⟨by simp only[Mp.famV];rw[if_neg (fun e=>by rw[e,hB]at hC;cases hC)];exact hC,rfl⟩
  famr:=fun C g _ hC _=>by simp only[Mp.famV];rw[if_neg (fun e=>by rw[e,hB]at hC;cases hC)];exact hC
  famc:=fun _ _ _ _ _=>rfl }
 refine⟨M.famV (M.obj o).1,⟨S.no,by simp[Mp.famV,AS.famV,hnf],fun C r h=>?_,fun p ds h=>?_,fun p p' h h'=>?_⟩,?_,E⟩
 ·simp only[Mp.famV]at h
  split at h
  ·rename_i e
   subst e
   exact S.role _ _ h2
  ·exact S.role C r h
 ·simp only[AS.famV,zaP]at h
  split at h
  ·cases h
  rename_i hne
  obtain⟨g1,g2,g3⟩:=S.obj p ds h
  have hb:(M.obj p).1≠(M.obj o).1:=fun e=>hne (S.inj p o (by simp[h]) (by simp[ho]) e)
  refine⟨g1,?_,fun i hi=>?_⟩
  ·show(M.famV (M.obj o).1).role (M.obj p).1=some .obj
   simp only[Mp.famV]
   rw[if_neg hb]
   exact g2
  ·obtain⟨d,d1,d2,d3⟩:=g3 i hi
   exact⟨d,d1,d2,d3.mono E⟩
 ·have key:∀q,((σ.famV o).objs q).isSome=true→(σ.objs q).isSome=true:=fun q hq=>by
   simp only[AS.famV,zaP]at hq
   split at hq
   ·cases hq
   ·exact hq
  exact S.inj p p' (key p h) (key p' h')
 ·have hfl:=zt sz rows hsz
  have hlen:(zy rows).length=len*sz:=by rw[hr,ybf];omega
  have:=VR.sl (M:=M.famV (M.obj o).1) (F:=upd σ.F σ.nf .alive) (w:=w) (.fam σ.nf false) sz rows (M.obj o).1 (M.obj o).2 cap (fun j=>if hj:j<cs.length then(h3 j hj).choose else .nilFunc) (by omega) (by simp[Own.full]) hsz
   ⟨by simp[Mp.famV,hnf],fun _=>⟨by simp[Mp.famV,hnf],fun j hj=>by simpa using hroom (fun m e=>by rw[h2]at e;cases e) j hj⟩⟩
   (fun _ j hj=>by
    have hj':j<cs.length:=by omega
    simp only[hj',dif_pos]
    exact(h3 j hj').choose_spec.1)
   (fun _ j hj=>by
    have hj':j<cs.length:=by omega
    simp only[hj',dif_pos]
    have e:(zy rows)[j]=cs[j]:=by
     have:=List.getElem_of_eq hr hj
     rw[this]
     simp
    rw[e]
    exact(h3 j hj').choose_spec.2.2.mono E)
  rw[hl]at this
  exact this
def zbU(sz:Nat):Nat→List AV→List AV
 | 0,_=>[]
 | n+1,cs=>.agg (cs.take sz)::zbU sz n (cs.drop sz)
theorem zhe(sz:Nat):∀(n:Nat) (cs:List AV),n*sz≤cs.length→(zbU sz n cs).length=n∧zy (zbU sz n cs)=cs.take (n*sz)∧∀x∈zbU sz n cs,x.cells.length=sz
 | 0,cs,_=>by simp[zbU,zy]
 | n+1,cs,h=>by
  rw[yad,yae]at h
  obtain⟨h1,h2,h3⟩:=zhe sz n (cs.drop sz) (by simp;omega)
  refine⟨by simp[zbU,h1],?_,fun x hx=>?_⟩
  ·have e:zy (zbU sz (n+1) cs)=cs.take sz++zy (zbU sz n (cs.drop sz)):=by simp[zbU,zy,AV.cells]
   rw[e,h2,yad,yae,yaf (n*sz) sz,List.take_add]
  ·rw[zbU]at hx
   rcases List.mem_cons.1 hx with rfl|hx
   ·simp only[AV.cells,ybf];omega
   ·exact h3 x hx
def AS.moveO(σ:AS)(o:Nat)(cs:List AV):AS :=
 { objs:=upd (upd σ.objs o none) σ.no (some cs),no:=σ.no+1,F:=upd (upd (upd (upd σ.F σ.nf .alive) σ.nf .dead) (σ.nf+1) .alive) (σ.nf+1) .dead,nf:=σ.nf+1+1 }
theorem zik{F:Nat→FSt}{n:Nat}{φ:Own}(h:zm F φ):zm (upd F n .alive) φ:=by
 cases φ with
 | stat b=>trivial
 | fam f b =>
  simp only[zm,zaP]at h ⊢
  split
  ·rfl
  ·exact h
def zdv(P:Program)(tS tX:TypeId)(s x:AV)(σ:AS)(K:AV→AS→Prop):Prop :=
 ∃sz bs z,zcm P tS=some sz∧zbM P tS=some bs∧0<bs∧za0 P tS=some z∧z.known=true∧z.cells.length=sz∧0<sz ∧
  zcx P tX z sz x σ.F fun ys=>(∀y∈ys,y.cells.length=sz∧∀c∈y.cells,c.one=true) ∧
   match s with
   | .nilsl=>ys.length*bs≤2^47∧(ys=[]→K .nilsl σ)∧(ys≠[]→K (.sl (.fam σ.nf false) sz ys) σ.newF)
   | .sl (.stat true) s' xs=>s'=sz∧(xs.length+ys.length)*bs≤2^47∧(ys=[]→K (.sl (.stat true) s' xs) σ)∧(ys≠[]→K (.sl (.fam σ.nf false) sz (xs++ys)) σ.newF)
   | .sl (.fam f true) s' xs=>s'=sz∧(xs.length+ys.length)*bs≤2^47∧σ.F f=.alive∧(ys=[]→K (.sl (.fam f true) s' xs) σ)∧(ys≠[]→K (.sl (.fam σ.nf false) sz (xs++ys)) σ.newF)
   | .sl (.fam f false) s' xs=>s'=sz∧(xs.length+ys.length)*bs≤2^47∧σ.F f=.alive∧K (.sl (.fam σ.nf false) sz (xs++ys)) (σ.setF f .dead).newF
   | .sl (.stat false) s' xs=>ys=[]∧K (.sl (.stat false) s' xs) σ
   | .slm o off s' len=>s'=sz∧off=0∧(len+ys.length)*bs≤2^47∧∃cs,σ.objs o=some cs∧len*sz≤cs.length∧K (.slm σ.no 0 sz (len+ys.length)) (σ.moveO o (cs.take (len*sz)++zy ys))
   | .tys e .nilsl=>P.underlying tS=some (.slice e)∧ys.length*bs≤2^47∧(ys=[]→K (.tys e .nilsl) σ)∧(ys≠[]→K (.tys e (.sl (.fam σ.nf false) sz ys)) σ.newF)
   | .tys e (.sl (.fam f false) s' xs)=>P.underlying tS=some (.slice e)∧s'=sz∧(xs.length+ys.length)*bs≤2^47∧σ.F f=.alive∧K (.tys e (.sl (.fam σ.nf false) sz (xs++ys))) (σ.setF f .dead).newF
   | .lit bl=>1=sz∧(bl.length+ys.length)*bs≤2^47∧ys≠[]∧K (.sl (.fam σ.nf false) sz (B bl++ys)) σ.newF
   | _=>False
def Mp.newFam(M:Mp)(B:Nat):Mp:={ M with role:=upd M.role B (some (.fam M.nf)),nf:=M.nf+1 }
theorem za1{M F F'}{w w':World}(hM:∀B r,M.role B=some r→B<w.heap.size)(o:Obj)(hw:w'.heap=w.heap.push o)(hio:zaM w w')(hF:∀g,g<M.nf→F' g=F g∨F' g=.dead):
  Ext M F w (M.newFam w.heap.size) F' w':=by
 have hlt:∀B,B<w.heap.size→w'.heap[B]?=w.heap[B]?:=fun B hB=>by rw[hw];simp[yaS,yaT hB]
 refine⟨hio,yah _,by simp[Mp.newFam],fun _ _=>rfl,fun f hf hd=>?_,fun f hf hd=>?_,by rw[hw];simp,fun B c e z h=>?_,fun B _ h=>?_,fun B hB h=>?_,fun B f hf h hd=>?_,fun B f hf h hd=>?_⟩
 ·rcases hF f hf with e|e
  ·rw[e,hd]
  ·exact e
 ·rcases hF f hf with e|e
  ·rw[e,hd];simp
  ·rw[e];simp
 ·have hB:B<w.heap.size:=(yaU.1 h).1
  exact .same (by rw[hlt B hB];exact h) rfl
 ·have hB:=hM B _ h
  exact⟨by simp only[Mp.newFam];rw[zf _ _ (by omega)];exact h,.inl (hlt B hB)⟩
 ·exact⟨by simp only[Mp.newFam];rw[zf _ _ (by omega)];exact h,hlt B hB⟩
 ·have hB:=hM B _ h
  simp only[Mp.newFam];rw[zf _ _ (by omega)];exact h
 ·exact hlt B (hM B _ h)
theorem zbr{M σ}{w w':World}(S:Sim M σ w)(o:Obj)(hw:w'.heap=w.heap.push o)(hio:zaM w w'){F':Nat→FSt}(hF:∀g,g<M.nf→F' g=σ.F g∨F' g=.dead):
  Sim (M.newFam w.heap.size) { σ with F:=F',nf:=σ.nf+1 } w':=by
 have hE:=za1 (F:=σ.F) S.role o hw hio hF
 refine⟨S.no,by simp[Mp.newFam,S.nf],fun B r h=>?_,fun x cs hx=>?_,S.inj⟩
 ·simp only[Mp.newFam,upd]at h
  rw[hw]
  split at h
  ·simp;omega
  ·have:=S.role B r h
   simp;omega
 ·obtain⟨a,b,c⟩:=S.obj x cs hx
  have hB:=S.role _ _ b
  refine⟨a,by simp only[Mp.newFam];rw[zf _ _ (by omega)];exact b,fun j hj=>?_⟩
  obtain⟨v,h1,h2,h3⟩:=c j hj
  have e:w'.heap[(M.obj x).1]?=w.heap[(M.obj x).1]?:=by rw[hw];simp[yaS,yaT hB]
  exact⟨v,(zp e).trans h1,(zq e).trans h2,h3.mono hE⟩
theorem znG{M F F'}{w:World}{B f:Nat}(hr:M.role B=some (.fam f))(hf:F' f=.dead)(hF:∀g,g<M.nf→F' g=F g∨F' g=.dead)(vs:List Value)(o:Nat):
  Ext M F w (M.newFam B) F' (w.setCells B o vs):=by
 refine⟨zeI _ _ _ _,yah _,by simp[Mp.newFam],fun _ _=>rfl,fun f hf hd=>?_,fun f hf hd=>?_,by rw[zaq];exact yah _,fun C c e z h=>?_,fun C _ h=>?_,fun C hC h=>?_,fun C g hg h hd=>?_,fun C g hg h hd=>?_⟩
 ·rcases hF f hf with e|e
  ·rw[e,hd]
  ·exact e
 ·rcases hF f hf with e|e
  ·rw[e,hd];simp
  ·rw[e];simp
 ·by_cases hB:C=B
  ·subst hB;obtain⟨c',q1,q2⟩:=zbL C vs o w c e z h;exact .same q1 q2
  ·exact .same (by rw[zo B vs o w C hB];exact h) rfl
 ·have hne:C≠B:=by rintro rfl;rw[h]at hr;cases hr
  exact⟨by simp only[Mp.newFam];rw[zf _ _ hne];exact h,.inl (zo B vs o w C hne)⟩
 ·have hne:C≠B:=by rintro rfl;rw[h]at hr;cases hr
  exact⟨by simp only[Mp.newFam];rw[zf _ _ hne];exact h,zo B vs o w C hne⟩
 ·have hne:C≠B:=by rintro rfl;rw[h]at hr;cases hr;exact hd hf
  simp only[Mp.newFam];rw[zf _ _ hne];exact h
 ·have hne:C≠B:=by rintro rfl;rw[h]at hr;cases hr;rw[hf]at hd;cases hd
  exact zo B vs o w C hne
theorem zsf{M σ}{w:World}(S:Sim M σ w){B f:Nat}(hr:M.role B=some (.fam f)){F':Nat→FSt}(hf:F' f=.dead)(hF:∀g,g<M.nf→F' g=σ.F g∨F' g=.dead)(vs:List Value)(o:Nat):
  Sim (M.newFam B) { σ with F:=F',nf:=σ.nf+1 } (w.setCells B o vs):=by
 have hE:=znG (F:=σ.F) (w:=w) hr hf hF vs o
 refine⟨S.no,by simp[Mp.newFam,S.nf],fun C r h=>?_,fun x cs hx=>?_,S.inj⟩
 ·rw[zaq]
  simp only[Mp.newFam,upd]at h
  split at h
  ·rename_i e;subst e;exact S.role C _ hr
  ·exact S.role C r h
 ·obtain⟨a,b,c⟩:=S.obj x cs hx
  have hne:(M.obj x).1≠B:=by rintro e;rw[e,hr]at b;cases b
  refine⟨a,by simp only[Mp.newFam];rw[zf _ _ hne];exact b,fun j hj=>?_⟩
  obtain⟨v,h1,h2,h3⟩:=c j hj
  have e:=zo B vs o w _ hne
  exact⟨v,(zp e).trans h1,(zq e).trans h2,h3.mono hE⟩
def zfF(M:Mp)(F:Nat→FSt)(w:World)(K:AV→AS→Prop)(v':Value)(w':World):Prop :=
 ∃v σ' M',K v σ'∧VR M' σ'.F w' v v'∧Sim M' σ' w'∧Ext M F w M' σ'.F w'
theorem zf6{P:Program}{t b e}(h:zbM P t=some b)(hu:P.underlying t=some (.slice e)):∃i,P.info? e=some i∧i.bytes=b:=by
 unfold zbM at h;rw[hu]at h
 cases hi:P.info? e with
 | none=>simp[hi]at h
 | some i=>simp[hi]at h;exact⟨i,rfl,h⟩
theorem flat_one{ys:List AV}(h:∀y∈ys,∀c∈y.cells,c.one=true):∀c∈zy ys,c.one=true:=by
 intro c hc
 simp only[zy,List.mem_flatMap]at hc
 obtain⟨y,hy,hc⟩:=hc
 exact h y hy c hc
theorem zhf{P:Program}{M σ}{w:World}(S:Sim M σ w){tS tX e:TypeId}{sz:Nat}(hu:P.underlying tS=some (.slice e))(hs:za9 P e=some sz){i:TypeInfo}(hi:P.info? e=some i)
  (hb0:0<i.bytes) (hsz0:0<sz) {zv:Value} (hz:i.zero=some zv) (hzs:zv.cells.size=sz) {x':Value} {ys:List AV} {zeros new} (hsrc:Src P M σ.F w e tX sz x' ys zeros new) (hys:∀y∈ys,y.cells.length=sz)
  {base:Option Addr} {xs:List AV} {cap:Nat} (hfit:¬xs.length+ys.length≤cap) (hbound:(xs.length+ys.length)*i.bytes≤2^47) (hxs:∀y∈xs,y.cells.length=sz)
  {old:Array Value} (hold:∀w',w'.heap=w.heap→(Builtin.firstCells sz xs.length (.slice base xs.length cap)).run P w'=.ok old w') (hco:Cells M σ.F w (zy xs) old) (ty:TypeId)
  {F':Nat→FSt} (hF:∀g,g<σ.nf→F' g=σ.F g∨F' g=.dead) {K:AV→AS→Prop} (hK:K (.sl (.fam σ.nf false) sz (xs++ys)) { σ with F:=F',nf:=σ.nf+1 }) :
  ∃v' w',(Builtin.append_ #[tS,tX] ty #[.slice base xs.length cap,x']).run P w=.ok v' w'∧zfF M σ.F w K v' w'∧zdj w' e v':=by
 obtain⟨newCap,w',hle,hrun,hheap,hio⟩:=zhc hu hs hi hz hsrc hfit hbound (by omega) hold ty
 have hF2:∀g,g<M.nf→F' g=σ.F g∨F' g=.dead:=by rw[S.nf];exact hF
 have hE:=za1 (F:=σ.F) S.role _ hheap hio hF2
 have ht:zdj w' e (.slice (some ⟨w.heap.size,0,none⟩) (xs.length+ys.length) newCap):=by
  refine⟨rfl,rfl,by omega,old++new++Builtin.zeroCells zv.cells (newCap-(xs.length+ys.length)),(0,0),by simp[hheap],?_⟩
  have hflx:=zt sz xs hxs
  have hfly:=zt sz ys hys
  have hsz:(old++new++Builtin.zeroCells zv.cells (newCap-(xs.length+ys.length))).size=newCap*sz:=by
   simp only[ybg,size_zeroCells,hzs,hco.1,hsrc.cells.1,hflx,hfly]
   rw[←yad,←yad];congr 1;omega
  rw[hsz]
  exact Nat.le_mul_of_pos_right _ hsz0
 refine⟨_,_,hrun,⟨_,_,_,hK,?_,zbr S _ hheap hio hF2,hE⟩,ht⟩
 have hlen:(xs++ys).length=xs.length+ys.length:=by simp
 have hall:∀y∈xs++ys,y.cells.length=sz:=by
  intro y hy;rcases ybh.1 hy with h|h
  ·exact hxs y h
  ·exact hys y h
 have hflx:=zt sz xs hxs
 have hfly:=zt sz ys hys
 have hcell:∀j,w'.cell? ⟨w.heap.size,0+j,none⟩=(old++new++Builtin.zeroCells zv.cells (newCap-(xs.length+ys.length)))[j]?:=by
  intro j;simp[World.cell?,hheap]
 have hfz:∀j,w'.frozen? ⟨w.heap.size,0+j,none⟩=false:=by
  intro j;simp[World.frozen?,hheap]
 have hsz:(old++new++Builtin.zeroCells zv.cells (newCap-(xs.length+ys.length))).size=newCap*sz:=by
  simp only[ybg,size_zeroCells,hzs,hco.1,hsrc.cells.1,hflx,hfly]
  rw[←yad,←yad];congr 1;omega
 have hflat:(zy (xs++ys)).length=xs.length*sz+ys.length*sz:=by rw[zcU,yab,hflx,hfly]
 have hget:∀(j:Nat) v,(zy (xs++ys))[j]?=some v→∃c,(old++new++Builtin.zeroCells zv.cells (newCap-(xs.length+ys.length)))[j]?=some c∧VR M σ.F w v c:=by
  intro j v hj
  rw[zcU]at hj
  by_cases h:j<(zy xs).length
  ·rw[yat h]at hj
   obtain⟨c,h1,h2⟩:=hco.2 j v hj
   refine⟨c,?_,h2⟩
   rw[Array.append_assoc,ybi (by rw[hco.1];exact h)]
   exact h1
  ·rw[yaI (by omega)]at hj
   obtain⟨c,h1,h2⟩:=hsrc.cells.2 _ v hj
   have h3:=(yaq.1 hj).1
   refine⟨c,?_,h2⟩
   rw[ybi (by simp only[ybg,hco.1,hsrc.cells.1];omega),ybj (by rw[hco.1];omega),hco.1]
   exact h1
 rw[←hlen]
 refine .sl _ sz (xs++ys) w.heap.size 0 newCap (fun j=>((old++new++Builtin.zeroCells zv.cells (newCap-(xs.length+ys.length)))[j]?).getD undef) (by omega) (by simp[Own.full]) hall ?_ (fun _ j hj=>?_) (fun _ j hj=>?_)
 ·refine⟨by simp[Mp.newFam,S.nf],fun _=>⟨by simp[Mp.newFam,upd,S.nf],fun j hj=>⟨?_,hfz j⟩⟩⟩
  rw[hcell,yar (by rw[hsz];exact hj)];rfl
 ·obtain⟨c,h1,h2⟩:=hget j _ (yau hj)
  rw[hcell,h1];rfl
 ·obtain⟨c,h1,h2⟩:=hget j _ (yau hj)
  rw[h1]
  exact h2.mono hE
theorem zd3{P:Program}{M σ}{w:World}(S:Sim M σ w){tS tX e:TypeId}{sz:Nat}(hu:P.underlying tS=some (.slice e))(hs:za9 P e=some sz){i:TypeInfo}(hi:P.info? e=some i)
  (hb0:0<i.bytes) (hsz0:0<sz) {zv:Value} (hz:i.zero=some zv) (hzs:zv.cells.size=sz) {x':Value} {ys:List AV} {zeros new} (hsrc:Src P M σ.F w e tX sz x' ys zeros new) (hys:∀y∈ys,y.cells.length=sz)
  {base:Option Addr} {xs:List AV} {cap:Nat} (hfit:¬xs.length+ys.length≤cap) (hbound:(xs.length+ys.length)*i.bytes≤2^47) (hxs:∀y∈xs,y.cells.length=sz)
  {old:Array Value} (hold:∀w',w'.heap=w.heap→(Builtin.firstCells sz xs.length (.slice base xs.length cap)).run P w'=.ok old w') (hco:Cells M σ.F w (zy xs) old) (ty:TypeId)
  {F':Nat→FSt} (hF:∀g,g<σ.nf→F' g=σ.F g∨F' g=.dead) {K:AV→AS→Prop} (hK:K (.sl (.fam σ.nf false) sz (xs++ys)) { σ with F:=F',nf:=σ.nf+1 }) :
  ∃v' w',(Builtin.append_ #[tS,tX] ty #[.slice base xs.length cap,x']).run P w=.ok v' w'∧zfF M σ.F w K v' w':=by
 obtain⟨v',w',h1,h2,_⟩:=zhf S hu hs hi hb0 hsz0 hz hzs hsrc hys hfit hbound hxs hold hco ty hF hK
 exact⟨v',w',h1,h2⟩
theorem ziJ{P:Program}{M σ}{w:World}(S:Sim M σ w){tS tX e:TypeId}{sz:Nat}(hu:P.underlying tS=some (.slice e))(hs:za9 P e=some sz){i:TypeInfo}(hi:P.info? e=some i)
  {zv:Value} (hz:i.zero=some zv) {x':Value} {ys:List AV} {zeros new} (hsrc:Src P M σ.F w e tX sz x' ys zeros new) (hys:∀y∈ys,y.cells.length=sz) (hone:∀y∈ys,∀c∈y.cells,c.one=true)
  {xs:List AV} {f B off cap:Nat} (hfit:xs.length+ys.length≤cap) (hbound:(xs.length+ys.length)*i.bytes≤2^47)
  (hv:VR M σ.F w (.sl (.fam f false) sz xs) (.slice (some ⟨B,off,none⟩) xs.length cap)) (hal:σ.F f=.alive) (ty:TypeId)
  {K:AV→AS→Prop} (hK:K (.sl (.fam σ.nf false) sz (xs++ys)) (σ.setF f .dead).newF) :
  ∃v' w',(Builtin.append_ #[tS,tX] ty #[.slice (some ⟨B,off,none⟩) xs.length cap,x']).run P w=.ok v' w'∧zfF M σ.F w K v' w'∧(∀t,zdj w t (.slice (some ⟨B,off,none⟩) xs.length cap)→zdj w' t v'):=by
 cases hv with
 | sl _ _ _ _ _ _ cs hcap hlit hxs hm hc hv =>
 obtain⟨hfl,hm⟩:=hm
 obtain⟨hr,hmem⟩:=hm (by rw[hal];simp)
 have hfn:f≠σ.nf:=by rw[←S.nf];omega
 have hflx:=zt sz xs hxs
 have hfly:=zt sz ys hys
 have hnl:new.toList.length=ys.length*sz:=by simp[hsrc.cells.1,hfly]
 have hroom:xs.length*sz+ys.length*sz≤cap*sz:=by rw[←yad];exact yax _ hfit
 have hcell:∀j,j<new.toList.length→(w.cell? ⟨B,off+xs.length*sz+j,none⟩).isSome=true:=fun j hj=>by
  rw[yav];exact(hmem _ (by omega)).1
 have hfz:∀j,j<new.toList.length→w.frozen? ⟨B,off+xs.length*sz+j,none⟩=false:=fun j hj=>by
  rw[yav];exact(hmem _ (by omega)).2
 have hnv:∀v∈new.toList,v.oneCell'=true:=by
  intro v hv'
  obtain⟨j,hj,rfl⟩:=ya9 hv'
  have hj':j<new.size:=by simpa using hj
  have:=hsrc.cells.get j (by rw[←hsrc.cells.1];exact hj') hj'
  simp only[yal]
  exact this.oneCell (flat_one hone _ (yaw _))
 have hrun:=zij hu hs hi hz hsrc (fun _=>yai (yax _ (Nat.le_add_left _ _)) hbound) hfit hcell hfz hnv ty
 have hF:∀g,g<M.nf→(upd (upd σ.F f .dead) σ.nf .alive) g=σ.F g∨(upd (upd σ.F f .dead) σ.nf .alive) g=.dead:=by
  intro g hg
  rw[zf _ _ (by rw[←S.nf];omega)]
  by_cases e:g=f
  ·subst e;right;rw[ze]
  ·left;rw[zf _ _ e]
 have hFf:(upd (upd σ.F f .dead) σ.nf .alive) f=.dead:=by rw[zf _ _ hfn,ze]
 have hE:=znG (F:=σ.F) (w:=w) hr hFf hF new.toList (off+xs.length*sz)
 refine⟨_,_,hrun,⟨_,_,_,hK,?_,zsf S hr hFf hF _ _,hE⟩,fun t ht=>by
  have:=zdj.mono hE ht
  exact this⟩
 have hlen:(xs++ys).length=xs.length+ys.length:=by simp
 have hall:∀y∈xs++ys,y.cells.length=sz:=by
  intro y hy;rcases ybh.1 hy with h|h
  ·exact hxs y h
  ·exact hys y h
 have hget:∀(j:Nat) v,(zy (xs++ys))[j]?=some v→∃c,(w.setCells B (off+xs.length*sz) new.toList).cell? ⟨B,off+j,none⟩=some c∧VR M σ.F w v c:=by
  intro j v hj
  rw[zcU]at hj
  by_cases h:j<(zy xs).length
  ·rw[yat h]at hj
   obtain⟨h1,rfl⟩:=yaq.1 hj
   refine⟨cs j,?_,hv hal j h1⟩
   rw[World.cell?_setCells_out]
   ·exact hc hal j h1
   ·intro _ _;left;simp only;omega
  ·rw[yaI (by omega)]at hj
   obtain⟨c,h1,h2⟩:=hsrc.cells.2 _ v hj
   have h3:=(yaq.1 hj).1
   have h4:j-(zy xs).length<new.toList.length:=by omega
   refine⟨c,?_,h2⟩
   have:=World.cell?_setCells_in B new.toList (off+xs.length*sz) w hcell (j-(zy xs).length) h4
   rw[show off+j=off+xs.length*sz+(j-(zy xs).length)by omega,this]
   rw[←h1,yal]
   exact(yar (by simpa using h4)).symm
 rw[←hlen]
 refine .sl _ sz (xs++ys) B off cap (fun j=>(((w.setCells B (off+xs.length*sz) new.toList).cell? ⟨B,off+j,none⟩)).getD undef) (by omega) (by simp[Own.full]) hall ?_ (fun _ j hj=>?_) (fun _ j hj=>?_)
 ·refine⟨by simp[Mp.newFam,S.nf],fun _=>⟨by simp[Mp.newFam,upd,S.nf],fun j hj=>?_⟩⟩
  exact hE.keeps (hmem j hj).1 (hmem j hj).2 (fun m e=>by simp[Mp.newFam,upd]at e)
 ·obtain⟨c,h1,h2⟩:=hget j _ (yau hj)
  rw[h1];rfl
 ·obtain⟨c,h1,h2⟩:=hget j _ (yau hj)
  rw[h1]
  exact h2.mono hE
theorem zk1{P:Program}{M σ}{w:World}(S:Sim M σ w){tS tX e:TypeId}{sz:Nat}(hu:P.underlying tS=some (.slice e))(hs:za9 P e=some sz){i:TypeInfo}(hi:P.info? e=some i)
  {zv:Value} (hz:i.zero=some zv) {x':Value} {ys:List AV} {zeros new} (hsrc:Src P M σ.F w e tX sz x' ys zeros new) (hys:∀y∈ys,y.cells.length=sz) (hone:∀y∈ys,∀c∈y.cells,c.one=true)
  {xs:List AV} {f B off cap:Nat} (hfit:xs.length+ys.length≤cap) (hbound:(xs.length+ys.length)*i.bytes≤2^47)
  (hv:VR M σ.F w (.sl (.fam f false) sz xs) (.slice (some ⟨B,off,none⟩) xs.length cap)) (hal:σ.F f=.alive) (ty:TypeId)
  {K:AV→AS→Prop} (hK:K (.sl (.fam σ.nf false) sz (xs++ys)) (σ.setF f .dead).newF) :
  ∃v' w',(Builtin.append_ #[tS,tX] ty #[.slice (some ⟨B,off,none⟩) xs.length cap,x']).run P w=.ok v' w'∧zfF M σ.F w K v' w':=by
 obtain⟨v',w',h1,h2,_⟩:=ziJ S hu hs hi hz hsrc hys hone hfit hbound hv hal ty hK
 exact⟨v',w',h1,h2⟩
theorem zfF.same{M σ}{w w':World}{K:AV→AS→Prop}{v v'}(S:Sim M σ w)(hK:K v σ)(hw:w'.heap=w.heap)(hio:zaM w w')(hv:VR M σ.F w v v'):zfF M σ.F w K v' w' :=
 ⟨v,σ,M,hK,hv.mono (.of_heap hw hio),S.of_heap hw hio,.of_heap hw hio⟩
theorem zcb{P:Program}{tS tX e:TypeId}{sz:Nat}(hu:P.underlying tS=some (.slice e))(hs:za9 P e=some sz){i:TypeInfo}(hi:P.info? e=some i){zv:Value}(hz:i.zero=some zv)
  {M F} {w:World} {x':Value} {zeros new} (hsrc:Src P M F w e tX sz x' [] zeros new) {ad:Addr} {len cap:Nat} (hfit:len≤cap) (ty:TypeId) :
  (Builtin.append_ #[tS,tX] ty #[.slice (some ad) len cap,x']).run P w=.ok (.slice (some ad) len cap) w:=by
 have hn:new.toList=[]:=by
  have:=hsrc.cells.1
  simp[zy]at this
  simp[this]
 have hnew0:new=#[]:=by simpa using hn
 subst hnew0
 have hst:∀(a:Addr),(storeCells a (#[]:Array Value).toList).run P w=.ok () w:=fun a=>rfl
 have hzv:∀w',(zeroValue e).run P w'=.ok zv w':=fun w'=>by simp[zeroValue,typeInfo,hi,hz]
 have hti:∀w',(typeInfo e).run P w'=.ok i w':=fun w'=>by simp[typeInfo,hi]
 obtain⟨d,hd,hzi⟩:=hsrc.typ
 have ea:(#[tS,tX]:Array TypeId)[0]?=some tS:=rfl
 have eb:(#[tS,tX]:Array TypeId)[1]?=some tX:=rfl
 have ec:(#[Value.slice (some ad) len cap,x']:Array Value)[0]?=some (.slice (some ad) len cap):=rfl
 have ed:(#[Value.slice (some ad) len cap,x']:Array Value)[1]?=some x':=rfl
 have hfit':len+([]:List AV).length≤cap:=by simpa using hfit
 unfold Builtin.append_
 rw[ea,eb,ec,ed]
 simp only[Sem.run_bind,run_underlying hu,run_underlying hd,zj hs,Result.andThen_ok,Sem.run_pure]
 cases zeros with
 | false =>
  cases d
  case int k=>exact absurd (hzi.2 ⟨_,rfl⟩) (by simp)
  all_goals
   simp only[Bool.false_eq_true,if_false,hsrc.len w rfl,Result.andThen_ok,Sem.run_ite,hfit',if_true,Bool.not_false,Sem.run_bind,hsrc.first w rfl rfl,hst,Sem.run_pure]
   rfl
 | true =>
  obtain⟨k,rfl⟩:=hzi.1 rfl
  obtain⟨k',rfl,hlt⟩:=hsrc.num rfl
  have hw:yam.wrap (([]:List AV).length:Int)=0:=wrap_nat (n:=0) (by omega)
  have hnb:¬((0:Int)*(i.bytes:Int) > 2^48):=by omega
  simp only[if_true,asInt,asIntOf,Sem.run_bind,Sem.run_pure,Result.andThen_ok,hw,Sem.run_ite,hti,if_neg hnb,show ¬((0:Int)<0)by omega,if_false,ybk,yaK,hfit,Bool.not_true,
   Bool.false_eq_true,yaC]
  rfl
theorem zer{P:Program}{tS tX e:TypeId}{sz:Nat}(hu:P.underlying tS=some (.slice e))(hs:za9 P e=some sz){i:TypeInfo}(hi:P.info? e=some i){zv:Value}(hz:i.zero=some zv)
  {M F} {w:World} {x':Value} {zeros new} (hsrc:Src P M F w e tX sz x' [] zeros new) (ty:TypeId) :
  (Builtin.append_ #[tS,tX] ty #[.slice none 0 0,x']).run P w=.ok (.slice none 0 0) w:=by
 have hzv:∀w',(zeroValue e).run P w'=.ok zv w':=fun w'=>by simp[zeroValue,typeInfo,hi,hz]
 have hti:∀w',(typeInfo e).run P w'=.ok i w':=fun w'=>by simp[typeInfo,hi]
 obtain⟨d,hd,hzi⟩:=hsrc.typ
 have ea:(#[tS,tX]:Array TypeId)[0]?=some tS:=rfl
 have eb:(#[tS,tX]:Array TypeId)[1]?=some tX:=rfl
 have ec:(#[Value.slice none 0 0,x']:Array Value)[0]?=some (.slice none 0 0):=rfl
 have ed:(#[Value.slice none 0 0,x']:Array Value)[1]?=some x':=rfl
 unfold Builtin.append_
 rw[ea,eb,ec,ed]
 simp only[Sem.run_bind,run_underlying hu,run_underlying hd,zj hs,Result.andThen_ok,Sem.run_pure]
 cases zeros with
 | false =>
  cases d
  case int k=>exact absurd (hzi.2 ⟨_,rfl⟩) (by simp)
  all_goals
   simp only[Bool.false_eq_true,if_false,hsrc.len w rfl,ybl,Result.andThen_ok,Sem.run_ite,yaK,yah,if_true,Bool.not_false,Sem.run_bind,Sem.run_pure]
   have h1:=hsrc.first w rfl rfl
   simp only[ybl]at h1
   rw[h1]
   rfl
 | true =>
  obtain⟨k,rfl⟩:=hzi.1 rfl
  obtain⟨k',rfl,hlt⟩:=hsrc.num rfl
  have hw:yam.wrap (([]:List AV).length:Int)=0:=wrap_nat (n:=0) (by omega)
  have hnb:¬((0:Int)*(i.bytes:Int) > 2^48):=by omega
  simp only[if_true,asInt,asIntOf,Sem.run_bind,Sem.run_pure,Result.andThen_ok,hw,Sem.run_ite,hti,if_neg hnb,show ¬((0:Int)<0)by omega,if_false,ybk,yaK,yah,Bool.not_true,
   Bool.false_eq_true,yaC]
theorem zAI{M:Mp}{F:Nat→FSt}{w:World}{bs:List UInt8}{c:Value}(h:VR M F w (.lit bs) c):VR M F w (.sl (.stat true) 1 (B bs)) c:=by
 cases h with
 | lit _ C e z hm hh hz =>
 have hl:(B bs).length=bs.length:=by simp[B]
 generalize hcs:(bs.map fun b=>Value.int .u8 b.toNat).toArray=cs at hh
 have:=VR.sl (M:=M) (F:=F) (w:=w) (.stat true) 1 (B bs) C 0 bs.length (fun j=>(cs[j]?).getD undef) (by omega) (fun _=>hl.symm) (zpQ bs) ⟨true,hm⟩ (fun _ j hj=>?_) (fun _ j hj=>?_)
 ·rw[hl]at this;exact this
 ·rw[zbT,hl]at hj
  simp[World.cell?,hh,←hcs,hj]
 ·rw[zbT,hl]at hj
  simp only[zbT]
  simp only[B,yak]
  rw[←hcs]
  simp[hj]
  exact .int ..
theorem zjC{P:Program}{tS tX s x σ}{K:AV→AS→Prop}(h:zdv P tS tX s x σ K){M w s' x'}(S:Sim M σ w)(hs':VR M σ.F w s s')(hx':VR M σ.F w x x')(ty:TypeId):
  ∃v' w',(Builtin.append_ #[tS,tX] ty #[s',x']).run P w=.ok v' w'∧zfF M σ.F w K v' w':=by
 obtain⟨sz,bs,z,he,hb,hb0,hz,hzk,hzl,hsz0,h⟩:=h
 obtain⟨e,hu,hs⟩:=zC he
 obtain⟨i,hi,rfl⟩:=zf6 hb hu
 have hz':zH P e=some z:=by unfold za0 at hz;rw[hu]at hz;exact hz
 obtain⟨zv,hzv,hzof⟩:∃zv,i.zero=some zv∧z=zdq zv:=by
  unfold zH at hz'
  rw[hi]at hz'
  cases hq:i.zero with
  | none=>simp[hq]at hz'
  | some v=>simp[hq]at hz';exact⟨v,rfl,hz'.symm⟩
 have hzs:zv.cells.size=sz:=by
  have:=(zbb M σ.F w zv).cells_rel (by rw[←hzof];exact hzk)
  rw[this.1,←hzof,hzl]
 obtain⟨ys,⟨hys,hK⟩,hsrc⟩:=zjB hz' hzk hzl h
 have hsrcF:=hsrc
 obtain⟨zeros,new,hsrc⟩:=hsrc M σ.F w x' (fun _ h=>h) hx'
 have hy1:∀y∈ys,y.cells.length=sz:=fun y hy=>(hys y hy).1
 have hy2:∀y∈ys,∀c∈y.cells,c.one=true:=fun y hy=>(hys y hy).2
 have hnew:∀g,g<σ.nf→(upd σ.F σ.nf .alive) g=σ.F g∨(upd σ.F σ.nf .alive) g=.dead:=fun g hg=>.inl (zf _ _ (by omega))
 -- a slice that is read
 have holdF:∀{M:Mp} {F:Nat→FSt} {φ xs c ad cap},VR M F w (.sl φ sz xs) c→c=.slice (some ad) xs.length cap→zm F φ→(∀y∈xs,y.cells.length=sz) ∧
   ∃old,(∀w',w'.heap=w.heap→(Builtin.firstCells sz xs.length (.slice (some ad) xs.length cap)).run P w'=.ok old w')∧Cells M F w (zy xs) old:=by
  intro M F φ xs c ad cap hv hcc hrd
  cases hv with
  | slz b sz a=>exact⟨by simp,#[],fun w' _=>by have:=run_loadCells_list (P:=P) w' ad [] (by simp);simpa [Builtin.firstCells]using this,⟨by simp[zy],by simp[zy]⟩⟩
  | sl _ _ _ B off _ cs hcap hlit hsz hm hc hv =>
  cases hcc
  have hfl:=zt sz xs hsz
  refine⟨hsz,((ya7 (zy xs).length).map cs).toArray,fun w' hw'=>?_,Cells.of (by simp) (fun j h1 h2=>by simpa using hv hrd j h1)⟩
  simp only[Builtin.firstCells]
  have:=run_loadCells_list (P:=P) w' ⟨B,off,none⟩ ((ya7 (zy xs).length).map cs) (fun j v hj=>by
   obtain⟨h1,rfl⟩:=yaq.1 hj
   simp at h1
   rw[zG,zp (w:=w) (by rw[hw'])]
   simp only[yak,ya8]
   exact hc hrd j h1)
  simp only[ybb,ybc,hfl]at this
  rw[this,hfl]
 have hold:∀{φ xs c ad cap},VR M σ.F w (.sl φ sz xs) c→c=.slice (some ad) xs.length cap→zm σ.F φ→(∀y∈xs,y.cells.length=sz) ∧
   ∃old,(∀w',w'.heap=w.heap→(Builtin.firstCells sz xs.length (.slice (some ad) xs.length cap)).run P w'=.ok old w')∧Cells M σ.F w (zy xs) old:=fun a b c=>holdF a b c
 split at hK
 ·obtain⟨hbd,k1,k2⟩:=hK
  rw[zaS hs']
  by_cases hn:ys=[]
  ·subst hn
   exact⟨_,_,zer hu hs hi hzv hsrc ty,.same S (k1 rfl) rfl (.refl _) .nilsl⟩
  ·have hpos:0<ys.length:=ybm.2 hn
   exact zd3 (K:=K) S hu hs hi hb0 hsz0 hzv hzs hsrc hy1 (base:=none) (xs:=[]) (cap:=0) (by simp;omega) (by simpa using hbd) (by simp) (old:=#[]) (fun w' _=>by simp[Builtin.firstCells])
    ⟨by simp[zy],by simp[zy]⟩ ty hnew (k2 hn)
 ·rename_i s1 xs
  obtain⟨rfl,hbd,k1,k2⟩:=hK
  obtain⟨ad,cap,rfl,hcap⟩:=ze2 hs'
  by_cases hn:ys=[]
  ·subst hn
   exact⟨_,_,zcb hu hs hi hzv hsrc hcap ty,.same S (k1 rfl) rfl (.refl _) hs'⟩
  ·have hpos:0<ys.length:=ybm.2 hn
   obtain⟨hx1,old,ho,hco⟩:=hold hs' rfl trivial
   have hl:cap=xs.length:=by cases hs' with|slz=>rfl|sl _ _ _ _ _ _ _ _ hl=>exact hl rfl
   exact zd3 (K:=K) S hu hs hi hb0 hsz0 hzv hzs hsrc hy1 (by omega) hbd hx1 ho hco ty hnew (k2 hn)
 ·rename_i f s1 xs
  obtain⟨rfl,hbd,hal,k1,k2⟩:=hK
  obtain⟨ad,cap,rfl,hcap⟩:=ze2 hs'
  by_cases hn:ys=[]
  ·subst hn
   exact⟨_,_,zcb hu hs hi hzv hsrc hcap ty,.same S (k1 rfl) rfl (.refl _) hs'⟩
  ·have hpos:0<ys.length:=ybm.2 hn
   obtain⟨hx1,old,ho,hco⟩:=hold hs' rfl hal
   have hl:cap=xs.length:=by cases hs' with|sl _ _ _ _ _ _ _ _ hl=>exact hl rfl
   exact zd3 (K:=K) S hu hs hi hb0 hsz0 hzv hzs hsrc hy1 (by omega) hbd hx1 ho hco ty hnew (k2 hn)
 ·rename_i f s1 xs
  obtain⟨rfl,hbd,hal,k⟩:=hK
  obtain⟨B,off,cap,rfl,hcap⟩:=zfD hs'
  by_cases hfit:xs.length+ys.length≤cap
  ·exact zk1 (K:=K) S hu hs hi hzv hsrc hy1 hy2 hfit hbd hs' hal ty k
  ·obtain⟨hx1,old,ho,hco⟩:=hold hs' rfl hal
   refine zd3 (K:=K) S hu hs hi hb0 hsz0 hzv hzs hsrc hy1 hfit hbd hx1 ho hco ty (F':=upd (upd σ.F f .dead) σ.nf .alive) (fun g hg=>?_) k
   rw[zf _ _ (by omega)]
   by_cases e:g=f
   ·subst e;right;rw[ze]
   ·left;rw[zf _ _ e]
 ·rename_i s1 xs
  obtain⟨rfl,k⟩:=hK
  obtain⟨ad,cap,rfl,hcap⟩:=ze2 hs'
  exact⟨_,_,zcb hu hs hi hzv hsrc hcap ty,.same S k rfl (.refl _) hs'⟩
 ·rename_i o off s1 len
  obtain⟨rfl,rfl,hbd,cs,ho,hle,k⟩:=hK
  obtain⟨r1,r2,r3⟩:=zhe s1 len cs hle
  obtain⟨M1,S1,v1,E1⟩:=S.famV ho hs' r1 r2 hle r3
  obtain⟨zeros1,new1,hsrc1⟩:=hsrcF M1 (σ.famV o).F w x' (fun φ h=>zik h) (hx'.mono E1)
  obtain⟨B,boff,cap,rfl,hcap⟩:=zfD v1
  have hbd':((zbU s1 len cs).length+ys.length)*i.bytes≤2^47:=by rw[r1];exact hbd
  have hal:(σ.famV o).F σ.nf=.alive:=by simp[AS.famV,ze]
  have fin:∃v' w',(Builtin.append_ #[tS,tX] ty #[.slice (some ⟨B,boff,none⟩) (zbU s1 len cs).length cap,x']).run P w=.ok v' w' ∧
    zfF M1 (σ.famV o).F w (fun v σ2=>v=.sl (.fam (σ.famV o).nf false) s1 (zbU s1 len cs++ys)∧σ2=((σ.famV o).setF σ.nf .dead).newF) v' w':=by
   by_cases hfit:(zbU s1 len cs).length+ys.length≤cap
   ·exact zk1 S1 hu hs hi hzv hsrc1 hy1 hy2 hfit hbd' v1 hal ty ⟨rfl,rfl⟩
   ·obtain⟨hx1,old,hold1,hco⟩:=holdF v1 rfl hal
    refine zd3 S1 hu hs hi hb0 hsz0 hzv hzs hsrc1 hy1 hfit hbd' hx1 hold1 hco ty (F':=upd (upd (σ.famV o).F σ.nf .dead) (σ.famV o).nf .alive) (fun g hg=>?_) ⟨rfl,rfl⟩
    rw[zf _ _ (by omega)]
    by_cases e:g=σ.nf
    ·subst e;right;rw[ze]
    ·left;rw[zf _ _ e]
  obtain⟨v',w',hrun,v2,σ2,M2,⟨rfl,rfl⟩,v3,S2,E2⟩:=fin
  obtain⟨B2,off2,S3,v4⟩:=S2.ownV (show((σ.famV o).setF σ.nf .dead).newF.F (σ.nf+1)=.alive from ze _ _ _) v3
  have E3:=zhd (M:=M2) (w:=w') (B:=B2) (off:=off2) (F:=((σ.famV o).setF σ.nf .dead).newF.F) (f:=σ.nf+1) (ze _ _ _)
  have hst:(((σ.famV o).setF σ.nf .dead).newF).ownV (σ.nf+1) (zy (zbU s1 len cs++ys))=σ.moveO o (cs.take (len*s1)++zy ys):=by
   rw[zcU,r2];rfl
  have hln:(zbU s1 len cs++ys).length=len+ys.length:=by rw[yab,r1]
  have S3':Sim (M2.own (σ.nf+1) B2 off2) (σ.moveO o (cs.take (len*s1)++zy ys)) w':=hst▸S3
  rw[hln]at v4
  exact⟨v',w',hrun,.slm σ.no 0 s1 (len+ys.length),σ.moveO o (cs.take (len*s1)++zy ys),M2.own (σ.nf+1) B2 off2,k,v4,S3',E1.trans (E2.trans E3)⟩
 ·rename_i e0
  obtain⟨hu0,hbd,k1,k2⟩:=hK
  rw[hu]at hu0
  cases hu0
  cases hs' with
  | tys _ _ _ hs' ht =>
  rw[zaS hs']
  by_cases hn:ys=[]
  ·subst hn
   exact⟨_,_,zer hu hs hi hzv hsrc ty,.same S (k1 rfl) rfl (.refl _) (.tys _ _ _ .nilsl trivial)⟩
  ·have hpos:0<ys.length:=ybm.2 hn
   obtain⟨v',w',h1,⟨v,σ',M',⟨rfl,rfl⟩,q1,q2,q3⟩,h3⟩:=zhf (K:=fun v σ'=>v=.sl (.fam σ.nf false) sz ([]++ys)∧σ'=σ.newF) S hu hs hi hb0 hsz0 hzv hzs hsrc hy1 (base:=none) (xs:=[]) (cap:=0) (by simp;omega) (by simpa using hbd) (by simp) (old:=#[]) (fun w' _=>by simp[Builtin.firstCells])
    ⟨by simp[zy],by simp[zy]⟩ ty hnew ⟨rfl,rfl⟩
   exact⟨v',w',h1,_,_,M',k2 hn,.tys _ _ _ q1 h3,q2,q3⟩
 ·rename_i e0 f s1 xs
  obtain⟨hu0,rfl,hbd,hal,k⟩:=hK
  rw[hu]at hu0
  cases hu0
  cases hs' with
  | tys _ _ _ hs' ht =>
  obtain⟨B,off,cap,rfl,hcap⟩:=zfD hs'
  by_cases hfit:xs.length+ys.length≤cap
  ·obtain⟨v',w',h1,⟨v,σ',M',⟨rfl,rfl⟩,q1,q2,q3⟩,h3⟩:=ziJ (K:=fun v σ'=>v=.sl (.fam σ.nf false) s1 (xs++ys)∧σ'=(σ.setF f .dead).newF) S hu hs hi hzv hsrc hy1 hy2 hfit hbd hs' hal ty ⟨rfl,rfl⟩
   exact⟨v',w',h1,_,_,M',k,.tys _ _ _ q1 (h3 _ ht),q2,q3⟩
  ·obtain⟨hx1,old,ho,hco⟩:=hold hs' rfl hal
   obtain⟨v',w',h1,⟨v,σ',M',⟨rfl,rfl⟩,q1,q2,q3⟩,h3⟩:=zhf (K:=fun v σ'=>v=.sl (.fam σ.nf false) s1 (xs++ys)∧σ'=(σ.setF f .dead).newF) S hu hs hi hb0 hsz0 hzv hzs hsrc hy1 hfit hbd hx1 ho hco ty (F':=upd (upd σ.F f .dead) σ.nf .alive) (fun g hg=>by
    rw[zf _ _ (by omega)]
    by_cases e:g=f
    ·subst e;right;rw[ze]
    ·left;rw[zf _ _ e]) ⟨rfl,rfl⟩
   exact⟨v',w',h1,_,_,M',k,.tys _ _ _ q1 h3,q2,q3⟩
 ·rename_i bl
  obtain⟨rfl,hbd,hn,k⟩:=hK
  have hs2:=zAI hs'
  have hBl:(B bl).length=bl.length:=by simp[B]
  rw[←hBl]at hbd
  clear hBl
  generalize B bl=xs at *
  obtain⟨ad,cap,rfl,hcap⟩:=ze2 hs2
  have hpos:0<ys.length:=ybm.2 hn
  obtain⟨hx1,old,ho,hco⟩:=hold hs2 rfl trivial
  have hl:cap=xs.length:=by cases hs2 with|slz=>rfl|sl _ _ _ _ _ _ _ _ hl=>exact hl rfl
  exact zd3 (K:=K) S hu hs hi hb0 hsz0 hzv hzs hsrc hy1 (by omega) hbd hx1 ho hco ty hnew k
 ·exact hK.elim
def zil:AV→AV→Option Bool
 | .int k a,.int k' b=>if k=k' then some (a==b)else none
 | .str a,.str b=>some (a==b)
 | _,_=>none
def zk2(k:AV):List AV→Nat→Option (Option Nat)
 | [],_=>some none
 | x::xs,i=>match zil k x with
  | some true=>some (some i)
  | some false=>zk2 k xs (i+1)
  | none=>none
def zeJ(P:Program)(t:TypeId):AV→Bool
 | .int _ _=>match P.underlying t with
  | some (.int _)=>true
  | _=>false
 | .str _=>match P.underlying t with
  | some .string=>true
  | _=>false
 | _=>false
def zbs(P:Program)(t:TypeId)(m k:AV)(ok:Bool)(K:AV→Prop):Prop :=
 match P.underlying t,m with
 | some (.map kt et),.mp ks vs=>zeJ P kt k=true∧∃r,zk2 k ks 0=some r∧match r with
  | some i=>∃v,vs[i]?=some v∧K (if ok then .tuple [v,.bool true]else v)
  | none=>∃z,zH P et=some z∧K (if ok then .tuple [z,.bool false]else z)
 | _,_=>False
theorem zk3{P:Program}{kt:TypeId}{d:TypeDesc}(hd:P.underlying kt=some d){k x:AV}{k' x':Value}(hk:zeJ P kt k=true){M F w}(hr:VR M F w k k')(hx:At x x'){b:Bool}(h:zil k x=some b):Instr.sameNow d k' x'=some b:=by
 cases hr with
 | int kk n =>
  simp only[zeJ,hd]at hk
  split at hk
  ·rename_i k0 hk0
   cases hk0
   cases hx with
   | int k2 n2 =>
    simp only[zil]at h
    simp only[Instr.sameNow]
    exact h
   | bool=>simp[zil]at h
   | str=>simp[zil]at h
  ·cases hk
 | str s =>
  simp only[zeJ,hd]at hk
  split at hk
  ·rename_i hk0
   cases hk0
   cases hx with
   | int=>simp[zil]at h
   | bool=>simp[zil]at h
   | str s2 =>
    simp only[Instr.sameNow]
    simp only[zil]at h
    rw[←h,←zcV,←zcV,beq_toListBytes]
  ·cases hk
 | _=>simp[zeJ]at hk
theorem zhg{P:Program}{kt:TypeId}{d:TypeDesc}(hd:P.underlying kt=some d){k:AV}{k':Value}(hk:zeJ P kt k=true){M F w}(hr:VR M F w k k'):∀(ks:List AV) (es:List MapEntry) (i:Nat) (r:Option Nat),ks.length=es.length→(∀j (h:j<ks.length) (h':j<es.length),At ks[j] es[j].key)→zk2 k ks i=some r →
  match r with
  | none=>Instr.findNow d k' es i=some none
  | some j=>i≤j∧∃e,es[j-i]?=some e∧Instr.findNow d k' es i=some (some (j,e.val))
 | [],[],i,r,_,_,h=>by
  simp only[zk2,yaR.injEq]at h
  subst h
  rfl
 | [],_::_,_,_,hl,_,_=>by simp at hl
 | _::_,[],_,_,hl,_,_=>by simp at hl
 | x::ks,e::es,i,r,hl,ha,h=>by
  have h0:=ha 0 (by simp) (by simp)
  simp only[yaz]at h0
  rw[zk2]at h
  split at h
  ·rename_i hs
   cases h
   have:=zk3 hd hk hr h0 hs
   refine⟨yah _,e,by simp,?_⟩
   simp only[Instr.findNow,this]
  ·rename_i hs
   have h1:=zk3 hd hk hr h0 hs
   have ih:=zhg hd hk hr ks es (i+1) r (by simpa using hl) (fun j h h'=>by have:=ha (j+1) (ybn h) (ybn h');simpa using this) h
   cases r with
   | none=>simp only[Instr.findNow,h1];exact ih
   | some j =>
    obtain⟨g1,e',g2,g3⟩:=ih
    refine⟨by omega,e',?_,by simp only[Instr.findNow,h1];exact g3⟩
    rw[show j-i=(j-(i+1))+1 by omega]
    simpa using g2
  ·cases h
theorem zk4{P:Program}{kt:TypeId}{k:AV}(h1:zeJ P kt k=true){M F w}{k':Value}(hk:VR M F w k k'):∃d,P.underlying kt=some d∧∀e n,(Instr.checkKey e (n+1) kt k').run P w=.ok () w:=by
 cases hk with
 | int kk n =>
  simp only[zeJ]at h1
  split at h1
  ·rename_i hd
   exact⟨_,hd,fun e n=>by simp only[Instr.checkKey,Sem.run_bind,run_underlying hd,Result.andThen_ok,Sem.run_pure]⟩
  ·cases h1
 | str s =>
  simp only[zeJ]at h1
  split at h1
  ·rename_i hd
   exact⟨_,hd,fun e n=>by simp only[Instr.checkKey,Sem.run_bind,run_underlying hd,Result.andThen_ok,Sem.run_pure]⟩
  ·cases h1
 | _=>simp[zeJ]at h1
theorem zhh{P:Program}{t:TypeId}{ks vs:List AV}{k:AV}{ok:Bool}{K:AV→Prop}(h:zbs P t (.mp ks vs) k ok K){M F w}{k':Value}{b:Nat}{es:Array MapEntry}{clock:Nat}(hh:w.heap[b]?=some (.map es clock))(hr:zrV ks vs es clock)(hk:VR M F w k k'):
  ∃v v',K v∧(Instr.lookup t (.map (some b)) k' ok).run P w=.ok v' w∧VR M F w v v':=by
 unfold zbs at h
 split at h
 ·rename_i kt et ks0 vs0 ht hq
  cases hq
  obtain⟨h1,r,h2,h3⟩:=h
  obtain⟨d,hd,hch⟩:=zk4 h1 hk
  have hch:∀e,(Instr.checkKey e 10000 kt k').run P w=.ok () w:=fun e=>hch e 9999
  have hfn:=zhg hd h1 hk ks es.toList 0 r (by simp[hr.size]) (fun j g g'=>by simpa using hr.key j g (by simpa using g')) h2
  have hget:(getObj b).run P w=.ok (.map es clock) w:=by simp[getObj,Sem.run,hh]
  cases r with
  | none =>
   obtain⟨z,hz,hK⟩:=h3
   obtain⟨zv,hzv,rfl⟩:=zaX hz w
   have hzr:=zbb M F w zv
   refine⟨_,if ok then .tuple #[zv,.bool false]else zv,hK,?_,?_⟩
   ·simp only[Instr.lookup,Sem.run_bind,run_underlying ht,Result.andThen_ok,hget,Sem.run_pure,hch,Instr.findKey,run_underlying hd,hfn,hzv]
   ·cases ok
    ·simpa using hzr
    ·simp only[if_true]
     refine .tuple _ _ rfl fun j h h'=>?_
     match j,h with
     | 0,_=>exact hzr
     | 1,_=>exact .bool false
  | some i =>
   obtain⟨v,hv,hK⟩:=h3
   obtain⟨_,e,he,hfn⟩:=hfn
   have hvi:=yaq.1 hv
   obtain⟨hvl,hve⟩:=hvi
   have hei:=yaU.1 (show es[i]?=some e by simpa using he)
   obtain⟨hel,hee⟩:=hei
   have hval:AtV v e.val:=by have:=hr.val i hvl hel;rw[hve,hee]at this;exact this
   refine⟨_,if ok then .tuple #[e.val,.bool true]else e.val,hK,?_,?_⟩
   ·simp only[Instr.lookup,Sem.run_bind,run_underlying ht,Result.andThen_ok,hget,Sem.run_pure,hch,Instr.findKey,run_underlying hd,hfn]
   ·cases ok
    ·simpa using hval.vr
    ·simp only[if_true]
     refine .tuple _ _ rfl fun j h h'=>?_
     match j,h with
     | 0,_=>exact hval.vr
     | 1,_=>exact .bool true
 ·exact h.elim
theorem zjD{P:Program}{t:TypeId}{m k:AV}{ok:Bool}{K:AV→Prop}(h:zbs P t m k ok K){M F w}{m' k':Value}(hm:VR M F w m m')(hk:VR M F w k k'):
  ∃v v',K v∧(Instr.lookup t m' k' ok).run P w=.ok v' w∧VR M F w v v':=by
 have h0:=h
 unfold zbs at h
 split at h
 ·cases hm with
  | mp _ _ b es clock hb hh hr=>exact zhh h0 hh hr hk
 ·exact h.elim
def zk5(P:Program)(t:TypeId)(x:AV)(σ:AS)(K:AV→AS→Prop):Prop :=
 match P.underlying t,x with
 | some (.map _ _),.mp ks vs=>K (.itr σ.nf ks vs []) σ.newF
 | some .string,.str bs=>K (.sit σ.nf bs 0) σ.newF
 | _,_=>False
theorem zk6{P:Program}{t:TypeId}{x:AV}{σ:AS}{K:AV→AS→Prop}(h:zk5 P t x σ K){M w}{x':Value}(S:Sim M σ w)(hx:VR M σ.F w x x'):
  ∃v' w',(Instr.range t x').run P w=.ok v' w'∧zfF M σ.F w K v' w':=by
 unfold zk5 at h
 split at h
 ·rename_i kt et ks vs ht
  cases hx with
  | mp _ _ b es clock hb hh hr =>
  have hget:(getObj b).run P w=.ok (.map es clock) w:=by simp[getObj,Sem.run,hh]
  have hF:∀g,g<M.nf→(upd σ.F σ.nf .alive) g=σ.F g∨(upd σ.F σ.nf .alive) g=.dead:=fun g hg=>.inl (zf _ _ (by rw[←S.nf];omega))
  have hio:zaM w { w with heap:=w.heap.push (.mapIter (some b) clock #[] clock) }:=⟨rfl,rfl,rfl⟩
  have hE:=za1 (F:=σ.F) (w':={ w with heap:=w.heap.push (.mapIter (some b) clock #[] clock) }) S.role _ rfl hio hF
  refine⟨.pointer (some ⟨w.heap.size,0,none⟩),{ w with heap:=w.heap.push (.mapIter (some b) clock #[] clock) },?_,_,σ.newF,_,h,?_,zbr S _ rfl hio hF,hE⟩
  ·simp only[Instr.range,Sem.run_bind,run_underlying ht,Result.andThen_ok,hget,Sem.run_pure,run_newObj]
  ·refine .itr _ ks vs [] _ (by simp[Mp.newFam,S.nf]) (fun _=>by simp[Mp.newFam,upd,S.nf]) fun _=>⟨b,es,clock,#[],by simp,?_,?_,hr,by simp,by simp⟩
   ·have hbl:=S.role b _ hb
    exact(hE.stat b _ hb).1
   ·exact(hE.stat b _ hb).2.map hh
 ·rename_i bs ht
  obtain⟨s,rfl,rfl⟩:=hx.str_inv
  have hF:∀g,g<M.nf→(upd σ.F σ.nf .alive) g=σ.F g∨(upd σ.F σ.nf .alive) g=.dead:=fun g hg=>.inl (zf _ _ (by rw[←S.nf];omega))
  have hio:zaM w { w with heap:=w.heap.push (.stringIter s 0) }:=⟨rfl,rfl,rfl⟩
  have hE:=za1 (F:=σ.F) (w':={ w with heap:=w.heap.push (.stringIter s 0) }) S.role _ rfl hio hF
  refine⟨.pointer (some ⟨w.heap.size,0,none⟩),{ w with heap:=w.heap.push (.stringIter s 0) },?_,_,σ.newF,_,h,?_,zbr S _ rfl hio hF,hE⟩
  ·simp only[Instr.range,Sem.run_bind,run_underlying ht,Result.andThen_ok,Sem.run_pure,run_newObj]
  ·exact .sit _ _ 0 _ (by simp[Mp.newFam,S.nf]) (fun _=>by simp[Mp.newFam,upd,S.nf]) fun _=>by simp
 ·exact h.elim
def zk7(v:AV)(σ:AS)(K:AV→Prop):Prop :=
 match v with
 | .itr f ks vs zcB=>σ.F f=.alive∧∃i k x,zcB.getLast?=some i∧ks[i]?=some k∧vs[i]?=some x∧K (.tuple [k,x])
 | _=>False
theorem zrV.find{ks vs:List AV}{es:Array MapEntry}{clock:Nat}(hr:zrV ks vs es clock){i:Nat}(hi:i<es.size):es.find? (·.born==es[i].born)=some es[i]:=by
 have h1:∃e,es.find? (·.born==es[i].born)=some e:=by
  cases hq:es.find? (·.born==es[i].born)with
  | some e=>exact⟨e,rfl⟩
  | none =>
   have:=Array.find?_eq_none.1 hq es[i] (ybo hi)
   simp at this
 obtain⟨e,he⟩:=h1
 rw[he]
 have h2:=Array.find?_some he
 have h3:=Array.mem_of_find?_eq_some he
 obtain⟨j,hj,rfl⟩:=ybp h3
 have:=hr.inj j i hj hi (by simpa using h2)
 subst this
 rfl
theorem zk8{P:Program}{v:AV}{σ:AS}{K:AV→Prop}(h:zk7 v σ K){M w}{v':Value}(hv:VR M σ.F w v v'):∃x x',K x∧(Instr.entry v').run P w=.ok x' w∧VR M σ.F w x x':=by
 unfold zk7 at h
 split at h
 ·rename_i f ks vs zcB
  obtain⟨ha,i,k,x,h1,h2,h3,hK⟩:=h
  cases hv with
  | itr _ _ _ _ B hf hm hh =>
  obtain⟨b,es,clock,sn,g1,g2,g3,hr,g5,g6⟩:=hh ha
  have hik:=yaq.1 h2
  obtain⟨hkl,hke⟩:=hik
  have hiv:=yaq.1 h3
  obtain⟨hvl,hve⟩:=hiv
  have hie:i<es.size:=by rw[hr.size];exact hkl
  have hlast:sn.back?=some es[i].born:=by
   have e1:(sn.toList.map some).getLast?=(zcB.map fun i=>(es[i]?).map (·.born)).getLast?:=by rw[g6]
   rw[ybq,ybq,h1]at e1
   simp[hie]at e1
   exact e1
  have hb:(getObj b).run P w=.ok (.map es clock) w:=by simp[getObj,Sem.run,g3]
  have hB:(getObj B).run P w=.ok (.mapIter (some b) clock sn clock) w:=by simp[getObj,Sem.run,g1]
  refine⟨_,.tuple #[es[i].key,es[i].val],hK,?_,?_⟩
  ·simp only[Instr.entry,Sem.run_bind,hB,Result.andThen_ok,hlast,hb,bne_self_eq_false,Bool.false_eq_true,if_false,hr.find hie,Sem.run_pure]
  ·have k1:=hr.key i hkl hie
   have k2:=hr.val i hvl hie
   rw[hke]at k1
   rw[hve]at k2
   refine .tuple _ _ rfl fun j h h'=>?_
   match j,h with
   | 0,_=>exact k1.vr
   | 1,_=>exact k2.vr
 ·exact h.elim
def World.turn(w:World)(B:Nat)(o:Obj)(d:Nat):World:={ w with heap:=w.heap.setIfInBounds B o,drawn:=d }
theorem zhi(w:World){B:Nat}(o:Obj)(d:Nat){C:Nat}(h:C≠B):(World.turn w B o d).heap[C]?=w.heap[C]?:=by
 simp only[World.turn]
 rw[yaJ (Ne.symm h)]
theorem zgI{M F F'}{w:World}{B f:Nat}(hr:M.role B=some (.fam f))(hit:∀c e z,w.heap[B]?≠some (.cells c e z))(hf:F' f=.dead)(hF:∀g,g<M.nf→F' g=F g∨F' g=.dead)(o:Obj)(d:Nat):Ext M F w (M.newFam B) F' (World.turn w B o d):=by
 refine⟨⟨rfl,rfl,rfl⟩,yah _,by simp[Mp.newFam],fun _ _=>rfl,fun f hf hd=>?_,fun f hf hd=>?_,by simp[World.turn],fun C c e z h=>?_,fun C _ h=>?_,fun C hC h=>?_,fun C g hg h hd=>?_,fun C g hg h hd=>?_⟩
 ·rcases hF f hf with e|e
  ·rw[e,hd]
  ·exact e
 ·rcases hF f hf with e|e
  ·rw[e,hd];simp
  ·rw[e];simp
 ·have hne:C≠B:=by rintro rfl;exact hit _ _ _ h
  exact .same (by rw[zhi w o d hne];exact h) rfl
 ·have hne:C≠B:=by rintro rfl;rw[h]at hr;cases hr
  exact⟨by simp only[Mp.newFam];rw[zf _ _ hne];exact h,.inl (zhi w o d hne)⟩
 ·have hne:C≠B:=by rintro rfl;rw[h]at hr;cases hr
  exact⟨by simp only[Mp.newFam];rw[zf _ _ hne];exact h,zhi w o d hne⟩
 ·have hne:C≠B:=by rintro rfl;rw[h]at hr;cases hr;exact hd hf
  simp only[Mp.newFam];rw[zf _ _ hne];exact h
 ·have hne:C≠B:=by rintro rfl;rw[h]at hr;cases hr;rw[hf]at hd;cases hd
  exact zhi w o d hne
theorem zjE{M σ}{w:World}(S:Sim M σ w){B f:Nat}(hr:M.role B=some (.fam f))(hit:∀c e z,w.heap[B]?≠some (.cells c e z)){F':Nat→FSt}(hf:F' f=.dead)(hF:∀g,g<M.nf→F' g=σ.F g∨F' g=.dead)(o:Obj)(d:Nat):
  Sim (M.newFam B) { σ with F:=F',nf:=σ.nf+1 } (World.turn w B o d):=by
 have hE:=zgI (F:=σ.F) (w:=w) hr hit hf hF o d
 refine⟨S.no,by simp[Mp.newFam,S.nf],fun C r h=>?_,fun x cs hx=>?_,S.inj⟩
 ·have:(World.turn w B o d).heap.size=w.heap.size:=by simp[World.turn]
  rw[this]
  simp only[Mp.newFam,upd]at h
  split at h
  ·rename_i e;subst e;exact S.role C _ hr
  ·exact S.role C r h
 ·obtain⟨a,b,c⟩:=S.obj x cs hx
  have hne:(M.obj x).1≠B:=by rintro e;rw[e,hr]at b;cases b
  refine⟨a,by simp only[Mp.newFam];rw[zf _ _ hne];exact b,fun j hj=>?_⟩
  obtain⟨v,h1,h2,h3⟩:=c j hj
  have e:=zhi w o d hne
  exact⟨v,(zp e).trans h1,(zq e).trans h2,h3.mono hE⟩
theorem zsg{P:Program}{w:World}{n:Nat}(h:0<n):∃c d,c<n∧(choose (.mapNext n)).run P w=.ok c { w with drawn:=d }:=by
 by_cases h1:n≤1
 ·exact⟨0,w.drawn,by omega,by simp[choose,Sem.run,Question.forced,h1]⟩
 ·exact⟨w.tape w.drawn (.mapNext n)%n,w.drawn+1,Nat.mod_lt _ h,by simp[choose,Sem.run,Question.forced,Question.cut,h1]⟩
def zoM(v:AV)(σ:AS)(K:AV→AV→AS→Prop):Prop :=
 match v with
 | .itr f ks vs zcB=>σ.F f=.alive∧((∀i,i<ks.length→i∈zcB)→K v (.tuple [.bool false]) σ) ∧
   ∀i k x,ks[i]?=some k→vs[i]?=some x→i∉zcB→K (.itr σ.nf ks vs (zcB++[i])) (.tuple [.bool true,k,x]) { σ with F:=upd (upd σ.F f .dead) σ.nf .alive,nf:=σ.nf+1 }
 | _=>False
theorem zsh{P:Program}{role:Nat→Option Role}{w:World}{ks vs:List AV}{zcB:List Nat}{B t:Nat}(h:zAF role w ks vs zcB B):
  ((∀i,i<ks.length→i∈zcB)∧(Instr.next (.pointer (some ⟨B,0,none⟩)) false t).run P w=.ok (.tuple #[.bool false]) w) ∨
  ∃i b es clock sn d,∃hi:i<es.size,i∉zcB∧w.heap[B]?=some (.mapIter (some b) clock sn clock)∧role b=some .stat∧w.heap[b]?=some (.map es clock)∧zrV ks vs es clock∧(∀i∈zcB,i<ks.length)∧sn.toList.map some=zcB.map (fun i=>(es[i]?).map (·.born)) ∧
   (Instr.next (.pointer (some ⟨B,0,none⟩)) false t).run P w=.ok (.tuple #[.bool true,es[i].key,es[i].val]) (World.turn w B (.mapIter (some b) clock (sn.push es[i].born) clock) d):=by
 obtain⟨b,es,clock,sn,g1,g2,g3,hr,g5,g6⟩:=h
 have hb:∀d,(getObj b).run P { w with drawn:=d }=.ok (.map es clock) { w with drawn:=d }:=fun d=>by simp[getObj,Sem.run,g3]
 have hb0:(getObj b).run P w=.ok (.map es clock) w:=by simp[getObj,Sem.run,g3]
 have hB:(getObj B).run P w=.ok (.mapIter (some b) clock sn clock) w:=by simp[getObj,Sem.run,g1]
 have hmem:∀i (hi:i<es.size),es[i].born∈sn.toList↔i∈zcB:=fun i hi=>by
  have e:es[i].born∈sn.toList↔some es[i].born∈sn.toList.map some:=by simp
  rw[e,g6,yaV]
  constructor
  ·rintro ⟨j,hj,hj2⟩
   have hjl:j<es.size:=by rw[hr.size];exact g5 j hj
   simp[hjl]at hj2
   have:=hr.inj j i hjl hi hj2
   subst this
   exact hj
  ·intro hj
   exact⟨i,hj,by simp[hi]⟩
 have hall:(!sn.isEmpty&&!es.isEmpty&&es.all (·.born≥clock))=false:=by
  by_cases he:es.isEmpty=true
  ·simp[he]
  ·have h0:0<es.size:=by
    rcases ybr es.size with h|h
    ·simp[Array.isEmpty,h]at he
    ·exact h
   have:es.all (·.born≥clock)=false:=by
    cases hq:es.all (·.born≥clock)with
    | false=>rfl
    | true =>
     have:=(Array.all_eq_true.1 hq) 0 h0
     have h1:=hr.born 0 h0
     simp at this
     omega
   rw[this];simp
 generalize hleft:(es.filter fun e=>!sn.contains e.born)=left
 have hold:left.filter (fun e=>decide (e.born<clock))=left:=by
  rw[Array.filter_eq_self]
  intro e he
  rw[←hleft]at he
  obtain⟨he,_⟩:=ybs.1 he
  obtain⟨i,hi,rfl⟩:=ybp he
  simpa using hr.born i hi
 have hnew:left.filter (fun e=>decide (e.born≥clock))=#[]:=by
  rw[Array.filter_eq_empty_iff]
  intro e he
  rw[←hleft]at he
  obtain⟨he,_⟩:=ybs.1 he
  obtain⟨i,hi,rfl⟩:=ybp he
  have:=hr.born i hi
  simp;omega
 by_cases hz:left=#[]
 ·left
  refine⟨fun i hi=>?_,?_⟩
  ·have hie:i<es.size:=by rw[hr.size];exact hi
   rw[←hmem i hie]
   rcases Classical.em (es[i].born∈sn.toList)with h|h
   ·exact h
   ·have:es[i]∈left:=by
     rw[←hleft]
     exact ybs.2 ⟨ybo hie,by simpa using h⟩
    rw[hz]at this
    simp at this
  ·simp only[Instr.next,Sem.run_bind,hB,Result.andThen_ok,hb0,hall,hleft,hold,hnew,hz]
   simp[choose,Question.forced,Sem.run]
 ·right
  have hne:left.isEmpty=false:=by
   cases hq:left.isEmpty with
   | false=>rfl
   | true=>exact absurd (by simpa using hq) hz
  have hpos:0<left.size:=by
   rcases ybr left.size with h|h
   ·exact absurd (ybt h) hz
   ·exact h
  obtain⟨c,d,hc,hrun⟩:=zsg (P:=P) (w:=w) hpos
  have hmemc:left[c]∈left:=ybo hc
  have hsub:∀e∈left,e∈es∧(!sn.contains e.born)=true:=fun e he=>ybs.1 (by rw[hleft];exact he)
  obtain⟨hm1,hm2⟩:=hsub _ hmemc
  obtain⟨i,hi,hei⟩:=ybp hm1
  have hset:(setObj B (.mapIter (some b) clock (sn.push left[c].born) clock)).run P { w with drawn:=d }=.ok () (World.turn w B (.mapIter (some b) clock (sn.push left[c].born) clock) d):=by
   simp[setObj,Sem.run,g1,World.turn]
  refine⟨i,b,es,clock,sn,d,hi,fun hs=>?_,g1,g2,g3,hr,g5,g6,?_⟩
  ·have:=(hmem i hi).2 hs
   rw[hei]at this
   simp at hm2
   exact hm2 (by simpa using this)
  ·rw[hei]
   simp only[Instr.next,Sem.run_bind,hB,Result.andThen_ok,hb0,hall,hleft,hold,hnew,hne,Bool.false_eq_true,if_false,Array.append_empty,ybu,yaO,hrun,yaQ]
   rw[yar hc]
   simp only[yaG,Sem.run_bind,hset,Result.andThen_ok,Sem.run_pure]
theorem zmv{P:Program}{v:AV}{σ:AS}{K:AV→AV→AS→Prop}(h:zoM v σ K){M w}{v':Value}{t:Nat}(S:Sim M σ w)(hv:VR M σ.F w v v'):
  ∃x' w',(Instr.next v' false t).run P w=.ok x' w'∧∃v2 x σ' M',K v2 x σ'∧VR M' σ'.F w' v2 v'∧VR M' σ'.F w' x x'∧Sim M' σ' w'∧Ext M σ.F w M' σ'.F w':=by
 unfold zoM at h
 split at h
 ·rename_i f ks vs zcB
  obtain⟨ha,h1,h2⟩:=h
  have hv0:=hv
  cases hv with
  | itr _ _ _ _ B hf hm hh =>
  rcases zsh (P:=P) (t:=t) (hh ha)with ⟨hall,hrun⟩|⟨i,b,es,clock,sn,d,hi,hns,g1,g2,g3,hr,g5,g6,hrun⟩
  ·refine⟨_,_,hrun,_,_,σ,M,h1 hall,hv0,?_,S,.refl ..⟩
   refine .tuple _ _ rfl fun j h h'=>?_
   match j,h with
   | 0,_=>exact .bool false
  ·have hik:i<ks.length:=by rw[←hr.size];exact hi
   have hiv:i<vs.length:=by rw[hr.vals];exact hik
   have hrB:=hm (by rw[ha];simp)
   have hnf:=S.nf
   have hF1:(upd (upd σ.F f .dead) σ.nf .alive) f=.dead:=by rw[zf _ _ (by omega),ze]
   have hF2:∀g,g<M.nf→(upd (upd σ.F f .dead) σ.nf .alive) g=σ.F g∨(upd (upd σ.F f .dead) σ.nf .alive) g=.dead:=fun g hg=>by
    rw[zf _ _ (by omega)]
    by_cases hgf:g=f
    ·subst hgf;right;rw[ze]
    ·left;rw[zf _ _ hgf]
   have hit:∀c e z,w.heap[B]?≠some (.cells c e z):=fun c e z q=>by rw[g1]at q;cases q
   have E:=zgI (F:=σ.F) (w:=w) hrB hit hF1 hF2 (.mapIter (some b) clock (sn.push es[i].born) clock) d
   refine⟨_,_,hrun,_,_,_,_,h2 i ks[i] vs[i] (yau hik) (yau hiv) hns,?_,?_,zjE S hrB hit hF1 hF2 _ d,E⟩
   ·refine .itr _ ks vs _ B (by simp[Mp.newFam,hnf]) (fun _=>by simp[Mp.newFam,upd,hnf]) fun _=>⟨b,es,clock,sn.push es[i].born,?_,(E.stat b _ g2).1,(E.stat b _ g2).2.map g3,hr,fun j hj=>?_,?_⟩
    ·have hBl:=S.role _ _ hrB
     simp[World.turn,hBl]
    ·rcases ybh.1 hj with hj|hj
     ·exact g5 j hj
     ·simp at hj;subst hj;exact hik
    ·simp[g6,hi]
   ·refine .tuple _ _ rfl fun j h h'=>?_
    match j,h with
    | 0,_=>exact .bool true
    | 1,_=>exact(hr.key i hik hi).vr
    | 2,_=>exact(hr.val i hiv hi).vr
 ·exact h.elim
def AV.atom:AV→Bool
 | .bool _|.int _ _|.str _=>true
 | _=>false
def AV.plainV:AV→Bool
 | .agg cs=>cs.all AV.atom
 | v=>v.atom
theorem VR.at{M F w v c}(h:VR M F w v c)(ha:v.atom=true):At v c:=by
 cases h with
 | bool b=>exact .bool b
 | int k n=>exact .int k n
 | str s=>exact .str s
 | _=>cases ha
theorem VR.atV{M F w v c}(h:VR M F w v c)(ha:v.plainV=true):AtV v c:=by
 cases h with
 | agg cs A hs va=>exact .agg cs A hs fun j h h'=>(va j h h').at (yaM.1 ha _ (yaw h))
 | bool b=>exact .one (.bool b)
 | int k n=>exact .one (.int k n)
 | str s=>exact .one (.str s)
 | _=>cases ha
def zd4(r:Option AV)(σ:AS)(K:AV→AS→Prop):Prop:=r=none∧K (.mpo σ.nf [] []) σ.newF
theorem zim{P:Program}{t:TypeId}{r:Option AV}{σ:AS}{K:AV→AS→Prop}(h:zd4 r σ K){M w}(S:Sim M σ w):
  ∃v' w',(Instr.makeMap t none).run P w=.ok v' w'∧zfF M σ.F w K v' w':=by
 have hF:∀g,g<M.nf→(upd σ.F σ.nf .alive) g=σ.F g∨(upd σ.F σ.nf .alive) g=.dead:=fun g hg=>.inl (zf _ _ (by rw[←S.nf];omega))
 have hio:zaM w { w with heap:=w.heap.push (.map #[] 0) }:=⟨rfl,rfl,rfl⟩
 have hE:=za1 (F:=σ.F) (w':={ w with heap:=w.heap.push (.map #[] 0) }) S.role _ rfl hio hF
 refine⟨.map (some w.heap.size),{ w with heap:=w.heap.push (.map #[] 0) },?_,_,σ.newF,_,h.2,?_,zbr S _ rfl hio hF,hE⟩
 ·simp only[Instr.makeMap,Sem.run_bind,Result.andThen_ok,Sem.run_pure,run_newObj]
 ·exact .mpo _ [] [] _ (by simp[Mp.newFam,S.nf]) (fun _=>by simp[Mp.newFam,upd,S.nf]) fun _=>⟨#[],0,by simp,⟨rfl,rfl,fun i h=>by simp at h,fun i h=>by simp at h,fun i h=>by simp at h,fun i j h=>by simp at h⟩⟩
def AS.turn(σ:AS)(f:Nat):AS:={ σ with F:=upd (upd σ.F f .dead) σ.nf .alive,nf:=σ.nf+1 }
def zcy(P:Program)(t:TypeId)(m k v:AV)(σ:AS)(K:AV→AS→Prop):Prop :=
 match P.underlying t,m with
 | some (.map kt _),.mpo f ks vs=>σ.F f=.alive∧zeJ P kt k=true∧v.plainV=true∧zk2 k ks 0=some none∧K (.mpo σ.nf (ks++[k]) (vs++[v])) (σ.turn f)
 | _,_=>False
theorem zrV.push{ks vs:List AV}{es:Array MapEntry}{clock:Nat}(h:zrV ks vs es clock){k v:AV}{k' v':Value}(hk:At k k')(hv:AtV v v'):zrV (ks++[k]) (vs++[v]) (es.push { key:=k',val:=v',born:=clock }) (clock+1) where
 size:=by simp[h.size]
 vals:=by simp[h.vals]
 key i h1 h2:=by
  have hs:=h.size
  by_cases e:i<ks.length
  ·simp only[ybv e,ybw (show i<es.size by omega)]
   exact h.key i e (by omega)
  ·have:i=ks.length:=by simp at h1;omega
   subst this
   simp[←hs,hk]
 val i h1 h2:=by
  have hs:=h.size
  have hs2:=h.vals
  by_cases e:i<vs.length
  ·simp only[ybv e,ybw (show i<es.size by omega)]
   exact h.val i e (by omega)
  ·have:i=vs.length:=by simp at h1;omega
   subst this
   have e2:vs.length=es.size:=by omega
   simp[e2,hv]
 born i h2:=by
  by_cases e:i<es.size
  ·rw[ybw e]
   have:=h.born i e
   omega
  ·have:i=es.size:=by simp at h2;omega
   subst this
   simp
 inj i j h1 h2 hb:=by
  have key:∀i (h:i<(es.push { key:=k',val:=v',born:=clock }).size),i<es.size∨i=es.size:=fun i h=>by simp at h;omega
  rcases key i h1 with e|e<;>rcases key j h2 with e'|e'
  ·rw[ybw e,ybw e']at hb
   exact h.inj i j e e' hb
  ·subst e'
   rw[ybw e]at hb
   have:=h.born i e
   simp at hb;omega
  ·subst e
   rw[ybw e']at hb
   have:=h.born j e'
   simp at hb;omega
  ·omega
theorem zsi{P:Program}{t:TypeId}{k:AV}(h:zeJ P t k=true):k.atom=true:=by
 cases k<;>simp_all [zeJ,AV.atom]
theorem zjF{P:Program}{t:TypeId}{m k v:AV}{σ:AS}{K:AV→AS→Prop}(h:zcy P t m k v σ K){M w}{m' k' v':Value}(S:Sim M σ w)(hm:VR M σ.F w m m')(hk:VR M σ.F w k k')(hv:VR M σ.F w v v'):
  ∃w',(Instr.mapUpdate t m' k' v').run P w=.ok () w'∧∃m2 σ' M',K m2 σ'∧VR M' σ'.F w' m2 m'∧Sim M' σ' w'∧Ext M σ.F w M' σ'.F w':=by
 unfold zcy at h
 split at h
 ·rename_i kt et f ks vs ht
  obtain⟨ha,h1,h2,h3,hK⟩:=h
  cases hm with
  | mpo _ _ _ B hf hm hh =>
  obtain⟨es,clock,g1,hr⟩:=hh ha
  have hrB:=hm (by rw[ha];simp)
  have hnf:=S.nf
  obtain⟨d,hd,hch⟩:=zk4 h1 hk
  have hch:∀e,(Instr.checkKey e 10000 kt k').run P w=.ok () w:=fun e=>hch e 9999
  have hfn:=zhg hd h1 hk ks es.toList 0 none (by simp[hr.size]) (fun j g g'=>by simpa using hr.key j g (by simpa using g')) h3
  have hget:(getObj B).run P w=.ok (.map es clock) w:=by simp[getObj,Sem.run,g1]
  have hF1:(upd (upd σ.F f .dead) σ.nf .alive) f=.dead:=by rw[zf _ _ (by omega),ze]
  have hF2:∀g,g<M.nf→(upd (upd σ.F f .dead) σ.nf .alive) g=σ.F g∨(upd (upd σ.F f .dead) σ.nf .alive) g=.dead:=fun g hg=>by
   rw[zf _ _ (by omega)]
   by_cases hgf:g=f
   ·subst hgf;right;rw[ze]
   ·left;rw[zf _ _ hgf]
  have hit:∀c e z,w.heap[B]?≠some (.cells c e z):=fun c e z q=>by rw[g1]at q;cases q
  have E:=zgI (F:=σ.F) (w:=w) hrB hit hF1 hF2 (.map (es.push { key:=k',val:=v',born:=clock }) (clock+1)) w.drawn
  have hset:(setObj B (.map (es.push { key:=k',val:=v',born:=clock }) (clock+1))).run P w=.ok () (World.turn w B (.map (es.push { key:=k',val:=v',born:=clock }) (clock+1)) w.drawn):=by
   simp[setObj,Sem.run,g1,World.turn]
  have hBl:=S.role _ _ hrB
  refine⟨_,?_,_,_,_,hK,?_,zjE S hrB hit hF1 hF2 _ _,E⟩
  ·simp only[Instr.mapUpdate,Sem.run_bind,run_underlying ht,Result.andThen_ok,hget,hch,Instr.findKey,run_underlying hd,hfn,Sem.run_pure,hset]
  ·exact .mpo _ _ _ B (by simp[Mp.newFam,hnf]) (fun _=>by simp[Mp.newFam,upd,hnf]) fun _=>⟨_,_,by simp[World.turn,hBl],hr.push (hk.at (zsi h1)) (hv.atV h2)⟩
 ·exact h.elim
def zk9(v:AV)(σ:AS)(K:AV→AV→AS→Prop):Prop :=
 match v with
 | .sit f bs pos=>σ.F f=.alive∧(pos<bs.length→K (.sit σ.nf bs (pos+(Utf8.decode ⟨bs.toArray⟩ pos).2)) (.tuple [.bool true,.int .i64 (pos:Int),.int .i32 ((Utf8.decode ⟨bs.toArray⟩ pos).1:Int)]) (σ.turn f))∧(¬pos<bs.length→K v (.tuple [.bool false]) σ)
 | _=>False
theorem zla{P:Program}{v:AV}{σ:AS}{K:AV→AV→AS→Prop}(h:zk9 v σ K){M w}{v':Value}{t:Nat}(S:Sim M σ w)(hv:VR M σ.F w v v'):
  ∃x' w',(Instr.next v' true t).run P w=.ok x' w'∧∃v2 x σ' M',K v2 x σ'∧VR M' σ'.F w' v2 v'∧VR M' σ'.F w' x x'∧Sim M' σ' w'∧Ext M σ.F w M' σ'.F w':=by
 unfold zk9 at h
 split at h
 ·rename_i f bs pos
  obtain⟨ha,h1,h2⟩:=h
  have hv0:=hv
  cases hv with
  | sit _ _ _ B hf hm hh =>
  have g1:=hh ha
  have hrB:=hm (by rw[ha];simp)
  have hnf:=S.nf
  have hB:(getObj B).run P w=.ok (.stringIter ⟨bs.toArray⟩ pos) w:=by simp[getObj,Sem.run,g1]
  have hsz:(⟨bs.toArray⟩:ByteArray).size=bs.length:=by simp[ByteArray.size]
  by_cases hp:pos<bs.length
  ·have hk:=h1 hp
   generalize hd:Utf8.decode ⟨bs.toArray⟩ pos=d at hk
   obtain⟨c,wd⟩:=d
   have hF1:(upd (upd σ.F f .dead) σ.nf .alive) f=.dead:=by rw[zf _ _ (by omega),ze]
   have hF2:∀g,g<M.nf→(upd (upd σ.F f .dead) σ.nf .alive) g=σ.F g∨(upd (upd σ.F f .dead) σ.nf .alive) g=.dead:=fun g hg=>by
    rw[zf _ _ (by omega)]
    by_cases hgf:g=f
    ·subst hgf;right;rw[ze]
    ·left;rw[zf _ _ hgf]
   have hit:∀c e z,w.heap[B]?≠some (.cells c e z):=fun c e z q=>by rw[g1]at q;cases q
   have E:=zgI (F:=σ.F) (w:=w) hrB hit hF1 hF2 (.stringIter ⟨bs.toArray⟩ (pos+wd)) w.drawn
   have hset:(setObj B (.stringIter ⟨bs.toArray⟩ (pos+wd))).run P w=.ok () (World.turn w B (.stringIter ⟨bs.toArray⟩ (pos+wd)) w.drawn):=by
    simp[setObj,Sem.run,g1,World.turn]
   have hBl:=S.role _ _ hrB
   refine⟨.tuple #[.bool true,goInt pos,.int .i32 c],_,?_,_,_,_,_,hk,?_,?_,zjE S hrB hit hF1 hF2 _ _,E⟩
   ·simp only[Instr.next,Sem.run_bind,hB,Result.andThen_ok,hsz,hp,if_true,hd,hset,Sem.run_pure]
   ·exact .sit _ _ _ B (by simp[Mp.newFam,hnf]) (fun _=>by simp[Mp.newFam,upd,hnf]) fun _=>by simp[World.turn,hBl]
   ·refine .tuple _ _ rfl fun j h h'=>?_
    match j,h with
    | 0,_=>exact .bool true
    | 1,_=>exact .int ..
    | 2,_=>exact .int ..
  ·refine⟨.tuple #[.bool false],w,?_,_,_,σ,M,h2 hp,hv0,?_,S,.refl ..⟩
   ·simp only[Instr.next,Sem.run_bind,hB,Result.andThen_ok,hsz,hp,if_false,Sem.run_pure]
   ·refine .tuple _ _ rfl fun j h h'=>?_
    match j,h with
    | 0,_=>exact .bool false
 ·exact h.elim
def zcW(P:Program)(t:TypeId)(m k:AV)(ok:Bool)(σ:AS)(K:AV→Prop):Prop :=
 match m with
 | .mpo f ks vs=>σ.F f=.alive∧zbs P t (.mp ks vs) k ok K
 | m=>zbs P t m k ok K
theorem zin{P:Program}{t:TypeId}{m k:AV}{ok:Bool}{σ:AS}{K:AV→Prop}(h:zcW P t m k ok σ K){M w}{m' k':Value}(hm:VR M σ.F w m m')(hk:VR M σ.F w k k'):
  ∃v v',K v∧(Instr.lookup t m' k' ok).run P w=.ok v' w∧VR M σ.F w v v':=by
 unfold zcW at h
 split at h
 ·rename_i f ks vs
  cases hm with
  | mpo _ _ _ B hf hm hh =>
  obtain⟨es,clock,g1,hr⟩:=hh h.1
  exact zhh h.2 g1 hr hk
 ·exact zjD h hm hk
def zhj(o off len:Nat)(ys:List AV)(σ:AS)(K:AV→AS→Prop):Prop :=
 (∀y∈ys,y.one=true∧y.known=true)∧∃cs,σ.objs o=some cs∧off+len≤cs.length∧K (.int .i64 ((ybx ys.length len:Nat):Int)) (σ.setO o (splice cs off (ys.take len)))
def zpR(P:Program)(t:TypeId)(d s:AV)(σ:AS)(K:AV→AS→Prop):Prop :=
 match d,s with
 | .slm o off 1 len,.sl φ 1 ys=>zcm P t=some 1∧zm σ.F φ∧zhj o off len ys σ K
 | .slm o off 1 len,.slm o2 off2 1 len2=>zcm P t=some 1∧∃cs,σ.objs o2=some cs∧off2+len2≤cs.length∧zhj o off len ((cs.drop off2).take len2) σ K
 | _,_=>False
theorem zlb{P:Program}{M:Mp}{σ:AS}{w:World}(S:Sim M σ w){o:Nat}{cs:List AV}(ho:σ.objs o=some cs){off:Nat}{vs:List AV}{l:List Value}(hb:off+vs.length≤cs.length)(l1:l.length=vs.length)
  (l2:∀x∈l,x.oneCell'=true) (l3:∀j (h:j<vs.length) (h':j<l.length),VR M σ.F w vs[j] l[j]) :
  ∃w',(storeCells ⟨(M.obj o).1,(M.obj o).2+off,none⟩ l).run P w=.ok () w'∧Sim M (σ.setO o (splice cs off vs)) w'∧Ext M σ.F w M σ.F w':=by
 obtain⟨hol,hor,hoc⟩:=S.obj o cs ho
 have hcell:∀j,j<l.length→(w.cell? ⟨(M.obj o).1,(M.obj o).2+off+0+j,none⟩).isSome=true:=fun j hj=>by
  obtain⟨c,h1,_⟩:=hoc (off+j) (by omega)
  rw[yaK,yav,h1];rfl
 have hfz:∀j,j<l.length→w.frozen? ⟨(M.obj o).1,(M.obj o).2+off+0+j,none⟩=false:=fun j hj=>by
  obtain⟨c,_,h2,_⟩:=hoc (off+j) (by omega)
  rw[yaK,yav];exact h2
 have hrun:=run_storeCells_cells (P:=P) (M.obj o).1 ((M.obj o).2+off) l 0 w hcell hfz l2
 have hE:Ext M σ.F w M σ.F (w.setCells (M.obj o).1 ((M.obj o).2+off+0) l) :=
  zdu (F':=σ.F) hor (by simp) (by intro f hf;cases hf) (fun _ _ h=>h) (fun _ _ h=>by rw[h];simp) _ _
 refine⟨_,hrun,?_,hE⟩
 refine⟨S.no,S.nf,fun B r hr=>by rw[zaq];exact S.role B r hr,fun x cs' hx=>?_,fun x y hx hy hxy=>?_⟩
 ·by_cases hxo:x=o
  ·subst hxo
   simp only[AS.setO,ze]at hx
   cases hx
   refine⟨hol,hor,fun j hj=>?_⟩
   have hj':j<cs.length:=by rwa [zb2 hb]at hj
   obtain⟨c,h1,h2,h3⟩:=hoc j hj'
   by_cases hin:off≤j∧j<off+vs.length
   ·obtain⟨i,rfl⟩:∃i,j=off+i:=⟨j-off,by omega⟩
    refine⟨l[i]'(by omega),?_,?_,?_⟩
    ·have:=World.cell?_setCells_in (M.obj x).1 l ((M.obj x).2+off+0) w hcell i (by omega)
     rw[←yav]
     exact this
    ·rw[World.frozen?_setCells];exact h2
    ·have e:(splice cs off vs)[off+i]=vs[i]'(by omega):=by
      have:=zb9 (cs:=cs) (vs:=vs) (off:=off) (j:=off+i) hb
      rw[if_pos hin,yau hj,yau (by omega)]at this
      simp only[yaR.injEq]at this
      rw[this];congr 1;omega
     rw[e]
     exact(l3 i (by omega) (by omega)).mono hE
   ·refine⟨c,?_,?_,?_⟩
    ·rw[World.cell?_setCells_out]
     ·exact h1
     ·intro _ _;simp only;omega
    ·rw[World.frozen?_setCells];exact h2
    ·have e:(splice cs off vs)[j]=cs[j]:=by
      have:=zb9 (cs:=cs) (vs:=vs) (off:=off) (j:=j) hb
      rw[if_neg hin,yau hj,yau hj']at this
      simpa using this
     rw[e]
     exact h3.mono hE
  ·simp only[AS.setO]at hx
   rw[zf _ _ hxo]at hx
   obtain⟨a,b,c⟩:=S.obj x cs' hx
   refine⟨a,b,fun j hj=>?_⟩
   obtain⟨u,h1,h2,h3⟩:=c j hj
   have hne:(M.obj x).1≠(M.obj o).1:=fun e=>hxo (S.inj x o (by rw[hx];rfl) (by rw[ho];rfl) e)
   have e:=zo (M.obj o).1 l ((M.obj o).2+off+0) w _ hne
   exact⟨u,(zp e).trans h1,(zq e).trans h2,h3.mono hE⟩
 ·have key:∀z,((σ.setO o (splice cs off vs)).objs z).isSome=true→(σ.objs z).isSome=true:=by
   intro z hz
   by_cases hzo:z=o
   ·subst hzo;rw[ho];rfl
   ·simp only[AS.setO]at hz;rwa [zf _ _ hzo]at hz
  exact S.inj x y (key x hx) (key y hy) hxy
theorem zcX{P:Program}{t e:TypeId}{ty:TypeId}{o off len cap:Nat}{ys:List AV}{σ:AS}{K:AV→AS→Prop}(h:zhj o off len ys σ K){M w}(S:Sim M σ w)(hu:P.underlying t=some (.slice e))(hs:za9 P e=some 1)
  {s':Value} (hlen:∀w',(Builtin.lenOf s').run P w'=.ok ys.length w') {cs:Nat→Value} (hfirst:∀n,n≤ys.length→(Builtin.firstCells 1 n s').run P w=.ok ((ya7 n).map cs).toArray w)
  (hv:∀j (h:j<ys.length),VR M σ.F w ys[j] (cs j)) {u:TypeId} :
  ∃v' w',(Builtin.copy_ #[t,u] ty #[.slice (some ⟨(M.obj o).1,(M.obj o).2+off,none⟩) len cap,s']).run P w=.ok v' w'∧zfF M σ.F w K v' w':=by
 obtain⟨h1,ds,ho,hb,hK⟩:=h
 have hn:ybx ys.length len≤ys.length:=Nat.min_le_left _ _
 have hn2:ybx ys.length len≤len:=Nat.min_le_right _ _
 have htl:(ys.take len).length=ybx ys.length len:=by
  rw[ybf];exact Nat.min_comm _ _
 obtain⟨w',q1,q2,q3⟩:=zlb (P:=P) S ho (off:=off) (vs:=ys.take len) (l:=(ya7 (ybx ys.length len)).map cs) (by omega) (by simp[htl]) (fun x hx=>by
   obtain⟨j,hj,rfl⟩:=yaV.1 hx
   have hj:j<ybx ys.length len:=List.mem_range.1 hj
   exact(hv j (by omega)).oneCell (h1 _ (yaw (by omega))).1)
  (fun j hj hj'=>by
   simp only[yaE,yak,ya8]
   exact hv j (by omega))
 refine⟨_,w',?_,_,_,M,hK,.int .i64 _,q2,q3⟩
 simp[Builtin.copy_,run_underlying hu,hlen,zj hs,hfirst _ hn,q1,goInt]
theorem zmw{P:Program}{t u ty:TypeId}{d s:AV}{σ:AS}{K:AV→AS→Prop}(h:zpR P t d s σ K){M w}(S:Sim M σ w){d' s':Value}(hd:VR M σ.F w d d')(hs':VR M σ.F w s s'):
  ∃v' w',(Builtin.copy_ #[t,u] ty #[d',s']).run P w=.ok v' w'∧zfF M σ.F w K v' w':=by
 unfold zpR at h
 split at h
 ·rename_i o off len φ ys
  obtain⟨he,hrd,h⟩:=h
  obtain⟨e,hu,hs⟩:=zC he
  cases hd with
  | slm _ _ _ _ cap _ _ _ =>
  have hone:=h.1
  cases hs' with
  | slz b sz a =>
   refine zcX (cs:=fun _=>undef) h S hu hs (fun w'=>by simp[Builtin.lenOf]) (fun n hn=>?_) (fun j hj=>by simp at hj)
   have:n=0:=by simpa using hn
   subst this
   have:=run_loadCells_list (P:=P) w a [] (by simp)
   simpa [Builtin.firstCells]using this
  | sl _ _ _ B o2 c2 cs hcap hlit hsz hm hc hv =>
   have hf:zy ys=ys:=by
    clear hcap hlit hm hc hv h hsz
    induction ys with
    | nil=>rfl
    | cons y ys ih =>
     have h1:=(hone y (by simp)).1
     have ih:=ih (fun z hz=>hone z (by simp[hz]))
     simp only[zy,yaa]at ih ⊢
     rw[ih]
     cases y<;>simp_all [AV.one,AV.cells]
   rw[hf]at hc hv
   refine zcX (cs:=cs) h S hu hs (fun w'=>by simp[Builtin.lenOf]) (fun n hn=>?_) (fun j hj=>hv hrd j hj)
   simp only[Builtin.firstCells]
   have:=run_loadCells_list (P:=P) w ⟨B,o2,none⟩ ((ya7 n).map cs) (fun j v hj=>by
    obtain⟨h1,rfl⟩:=yaq.1 hj
    simp at h1
    rw[zG]
    simp only[yak,ya8]
    exact hc hrd j (by omega))
   simp only[ybb,ybc]at this
   rw[Nat.mul_one]
   exact this
 ·rename_i o off len o2 off2 len2
  obtain⟨he,cs,ho,hb,h⟩:=h
  obtain⟨e,hu,hs⟩:=zC he
  cases hd with
  | slm _ _ _ _ cap _ _ _ =>
  cases hs' with
  | slm _ _ _ _ cap2 _ _ _ =>
  obtain⟨g1,g2,g3⟩:=S.obj o2 cs ho
  have hlen:((cs.drop off2).take len2).length=len2:=by simp;omega
  have hex:∀j,j<len2→∃c,w.cell? ⟨(M.obj o2).1,(M.obj o2).2+off2+j,none⟩=some c∧∀(h:j<((cs.drop off2).take len2).length),VR M σ.F w ((cs.drop off2).take len2)[j] c:=fun j hj=>by
   obtain⟨c,q1,_,q3⟩:=g3 (off2+j) (by omega)
   refine⟨c,by rw[yav];exact q1,fun h=>?_⟩
   simp only[yaE,yaD]
   exact q3
  refine zcX (cs:=fun j=>if hj:j<len2 then(hex j hj).choose else undef) h S hu hs (fun w'=>by simp[Builtin.lenOf];omega) (fun n hn=>?_) (fun j hj=>?_)
  ·simp only[Builtin.firstCells]
   have:=run_loadCells_list (P:=P) w ⟨(M.obj o2).1,(M.obj o2).2+off2,none⟩ ((ya7 n).map (fun j=>if hj:j<len2 then(hex j hj).choose else undef)) (fun j v hj=>by
    obtain⟨h1,rfl⟩:=yaq.1 hj
    simp at h1
    rw[zG]
    simp only[yak,ya8]
    rw[dif_pos (by omega)]
    exact(hex j (by omega)).choose_spec.1)
   simp only[ybb,ybc]at this
   rw[Nat.mul_one]
   exact this
  ·rw[hlen]at hj
   simp only[hj,dif_pos]
   exact(hex j hj).choose_spec.2 (by omega)
 ·exact h.elim
def zfG(P:Program)(pt:TypeId)(p n:AV)(σ:AS)(K:AV→AS→Prop):Prop :=
 match p,n with
 | .tyd e (.sl (.fam f _) sz xs),.int .i64 k=>P.underlying pt=some (.pointer e)∧P.cellsOf e=1∧σ.F f=.alive∧∃bs,xs=B bs∧k=(bs.length:Int)∧bs≠[]∧bs.length<2^62∧K (.str bs) (σ.setF f .dead)
 | _,_=>False
theorem zhk{M:Mp}{F:Nat→FSt}{w w':World}{B f:Nat}(hr:M.role B=some (.fam f))(hio:zaM w w')(hsz:w'.heap.size=w.heap.size)(hne:∀C,C≠B→w'.heap[C]?=w.heap[C]?){c:Array Value}{e:TypeId}{z z':Nat × Nat}(h1:w.heap[B]?=some (.cells c e z))(h2:w'.heap[B]?=some (.cells c e z')):
  Ext M F w { M with role:=upd M.role B (some (.st true)) } (upd F f .dead) w' where
 io:=hio
 no:=yah _
 nf:=yah _
 obj _ _:=rfl
 dead g _ hd:=by simp only[zaP];split<;>simp_all
 spoil g _ hs:=by simp only[zaP];split<;>simp_all
 size:=by rw[hsz];exact yah _
 shape C c0 e0 z0 h:=by
  by_cases hC:C=B
  ·subst hC
   rw[h1]at h
   cases h
   exact⟨c,z',h2,rfl,fun hn=>absurd (ze M.role C (some (Role.st true))) (hn true)⟩
  ·exact .same (by rw[hne C hC];exact h) rfl
 stat C m h:=by
  have hC:C≠B:=by rintro rfl;rw[h]at hr;cases hr
  exact⟨by simp only[zaP];rw[if_neg hC];exact h,.inl (hne C hC)⟩
 free C _ h:=by
  have hC:C≠B:=by rintro rfl;rw[h]at hr;cases hr
  exact⟨by simp only[zaP];rw[if_neg hC];exact h,hne C hC⟩
 famr C g _ h hd:=by
  have hC:C≠B:=by
   rintro rfl
   rw[h]at hr
   cases hr
   exact hd (ze _ _ _)
  simp only[zaP];rw[if_neg hC];exact h
 famc C g _ h ha:=by
  have hC:C≠B:=by
   rintro rfl
   rw[h]at hr
   cases hr
   rw[ze]at ha
   cases ha
  exact hne C hC
theorem zjG{P:Program}{pt it ty:TypeId}{p n:AV}{σ:AS}{K:AV→AS→Prop}(h:zfG P pt p n σ K){M w}{p' n':Value}(S:Sim M σ w)(hp:VR M σ.F w p p')(hn:VR M σ.F w n n'):
  ∃v' w',(Builtin.unsafeString_ #[pt,it] ty #[p',n']).run P w=.ok v' w'∧zfF M σ.F w K v' w':=by
 unfold zfG at h
 split at h
 ·rename_i e f b sz xs k
  obtain⟨hu,hc,ha,bs,rfl,rfl,h0,h62,hK⟩:=h
  rw[hn.int_inv]
  generalize hB:B bs=xs at hp
  cases hp with
  | tyd _ _ a len cap hp ht =>
  cases hp with
  | sl _ _ _ C off _ cs hcap hlit hsz hm hcl hv =>
  subst hB
  obtain⟨ht1,ht2,ht3,c,z,ht4,ht5⟩:=ht
  simp only at ht1 ht4
  subst ht1
  obtain⟨hrole,_⟩:=hm.2 (by rw[ha];simp)
  have hl:(B bs).length=bs.length:=by simp[B]
  have hrun:=Lib.run_unsafeString_row (P:=P) w pt it ty e hu hc C c.size (by simp[World.shape?,ht4]) bs h0 (by omega) (by omega) (fun j x hj=>by
   obtain⟨hj1,rfl⟩:=yaq.1 hj
   have hj':j<(zy (B bs)).length:=by rw[zbT,hl];exact hj1
   rw[zG,hcl ha j hj']
   have:=hv ha j hj'
   simp only[zbT]at this
   simp only[B,yak]at this
   rw[zjz this])
  have hne0:bs.length≠0:=by simpa using h0
  have hio:zaM w (w.freeze ⟨C,0,none⟩ bs.length):=by
   unfold World.freeze
   rw[if_neg hne0]
   exact⟨rfl,rfl,rfl⟩
  have hsz':(w.freeze ⟨C,0,none⟩ bs.length).heap.size=w.heap.size:=by
   unfold World.freeze
   rw[if_neg hne0]
   simp
  have hne:∀D,D≠C→(w.freeze ⟨C,0,none⟩ bs.length).heap[D]?=w.heap[D]?:=fun D hD=>by
   unfold World.freeze
   rw[if_neg hne0]
   simp only[ya0]
   rw[if_neg (fun e=>hD e.symm)]
  obtain⟨z',hz'⟩:∃z',(w.freeze ⟨C,0,none⟩ bs.length).heap[C]?=some (.cells c e z'):=by
   unfold World.freeze
   rw[if_neg hne0]
   simp only[ya0,if_true,ht4,yaG]
   exact⟨_,rfl⟩
  have E:=zhk (F:=σ.F) hrole hio hsz' hne ht4 hz'
  refine⟨_,_,hrun,.str bs,σ.setF f .dead,{ M with role:=upd M.role C (some (.st true)) },hK,VR.str' rfl,⟨S.no,S.nf,fun D r h=>?_,fun o cs' ho=>?_,S.inj⟩,E⟩
  ·rw[hsz']
   simp only[zaP]at h
   split at h
   ·rename_i e1;subst e1;exact S.role D _ hrole
   ·exact S.role D r h
  ·obtain⟨g1,g2,g3⟩:=S.obj o cs' ho
   have hD:(M.obj o).1≠C:=by
    intro e1
    rw[e1,hrole]at g2
    cases g2
   refine⟨g1,by simp only[zaP];rw[if_neg hD];exact g2,fun j hj=>?_⟩
   obtain⟨x,q1,q2,q3⟩:=g3 j hj
   exact⟨x,(zp (hne _ hD)).trans q1,(zq (hne _ hD)).trans q2,q3.mono E⟩
 ·exact h.elim
inductive Out where
 | ret (v:AV)
 | panic (v:AV)
def zbV(M:Mp)(F:Nat→FSt)(w:World):Out→Ending→Prop
 | .ret v,.returned v'=>VR M F w v v'
 | .panic v,.panicked ch=>∃v',ch=[{ v:=v',recovered:=false }]∧VR M F w v v'
 | _,_=>False
def zJr(P:Program)(G:Env)(M0:Mp)(F0:Nat→FSt)(w0:World)(l f0:Nat)(r:Loop):Prop :=
 ∀(args:List AV) (σ:AS) (K PK:AV→AS→Prop) (M:Mp) (w:World) (cargs:Array Value),G.y l args σ K PK→Sim M σ w→Ext M0 F0 w0 M σ.F w→M.role l=some (.fam f0)→w.heap[l]?=some (.loop r)→Cells M σ.F w args cargs →
  ∃fn tmps assign body,(Instr.yield l cargs).run P w=.ok (.round l fn tmps assign body) w∧RoundIn Fence.wide 0 P l fn tmps assign body w fun e w''=>match e with
   | .returned v'=>zfF M σ.F w K v' w''
   | .panicked ch=>∃v',ch=[{ v:=v',recovered:=false }]∧zfF M σ.F w PK v' w''
   | .outgrown=>False
structure GOk(P:Program)(G:Env)(M:Mp)(F:Nat→FSt)(w:World):Prop where
 vars:∀g,VR M F w (G.g g) (.pointer (some ⟨g,0,none⟩))
 yields:∀l,G.has l→∃r f0 M0 F0 w0,Ext M0 F0 w0 M F w∧f0<M.nf∧(F f0=.alive→M.role l=some (.fam f0)∧w.heap[l]?=some (.loop r))∧(∀args σ K PK,G.y l args σ K PK→σ.F f0=.alive) ∧
  (∀B r,M0.role B=some r→B<w0.heap.size)∧zJr P G M0 F0 w0 l f0 r
 fixed:∀B cs,G.fix B=some cs→M.role B=some .stat∧∃t fr,w.heap[B]?=some (.cells cs t fr)
theorem GOk.mono{P G M F w M' F' w'}(h:GOk P G M F w)(E:Ext M F w M' F' w'):GOk P G M' F' w' where
 vars g:=(h.vars g).mono E
 yields l hl:=by
  obtain⟨r,f0,M0,F0,w0,E0,hf,h1,h2,h3,h4⟩:=h.yields l hl
  refine⟨r,f0,M0,F0,w0,E0.trans E,yag hf E.nf,fun ha=>?_,h2,h3,h4⟩
  obtain⟨h5,h6⟩:=h1 (E.alive hf ha)
  exact⟨E.famr l f0 hf h5 (by rw[ha];simp),by rw[E.famc l f0 hf h5 ha,h6]⟩
 fixed B cs hB:=by
  obtain⟨hr,t,fr,hh⟩:=h.fixed B cs hB
  obtain⟨h1,h2⟩:=E.stat B _ hr
  obtain⟨z,hz⟩:=h2.cells hh
  exact⟨h1,t,z,hz⟩
def ACalls(P:Program)(G:Env)(f:FuncId)(args:List AV)(σ:AS)(R:Out→AS→Prop):Prop :=
 ∀(M:Mp) (w:World) (cargs:Array Value),Sim M σ w→GOk P G M σ.F w→Cells M σ.F w args cargs →
  Calls P f cargs w fun e w'=>∃out σ' M',R out σ'∧zbV M' σ'.F w' out e∧Sim M' σ' w'∧Ext M σ.F w M' σ'.F w'
def za(P:Program)(f:FuncId):Bool :=
 match P.funcs[f]? with
 | some fn => fn.body.isSome && !(fn.name == "runtime.NumGoroutine")
 | none=>false
def zes(P:Program)(s d:TypeId)(x:AV)(σ:AS)(K:AV→AS→Prop):Prop :=
 match x with
 | .nilsl=>zsa P s=true∧zca P d=true∧K (.str []) σ
 | .sl φ _ xs=>zsa P s=true∧zca P d=true∧zm σ.F φ∧∃bs,xs=B bs∧K (.str bs) σ
 | .slm o off _ len=>zsa P s=true∧zca P d=true∧∃cs bs,σ.objs o=some cs∧off+len≤cs.length∧(cs.drop off).take len=B bs∧K (.str bs) σ
 | .str bs=>zca P s=true∧zsa P d=true∧(K (.sl (.fam σ.nf false) 1 (B bs)) σ.newF∨K (.slm σ.no 0 1 bs.length) (σ.newO (B bs)))
 | _=>False
def zmx(P:Program)(t:TypeId)(l c:AV)(σ:AS)(K:AV→AS→Prop):Prop :=
 match l,c with
 | .int _ n,.int _ m=>∃sz bs z,zcm P t=some sz∧zbM P t=some bs∧za0 P t=some z∧z.known=true∧z.cells.length=sz∧n=m∧0≤n∧n<2^40∧n.toNat * bs≤2^47 ∧
   K (.slm σ.no 0 sz n.toNat) (σ.newO (zy (yaj n.toNat z)))
 | _,_=>False
def zdw(P:Program)(t:TypeId)(n:Nat)(a:Operand→AV)(parts:List (Nat × Operand))(σ:AS)(K:AV→AS→Prop):Prop :=
 ∃sz z,zcm P t=some sz∧za0 P t=some z∧z.known=true∧z.cells.length=sz∧0<sz∧n*sz≤2^24∧zih n sz a parts (yaj n z) fun xs=>K (.sl (.fam σ.nf true) sz xs) σ.newF
def zpS(P:Program)(t:TypeId)(n:Nat)(a:Operand→AV)(parts:List (Nat × Operand))(σ:AS)(K:AV→AS→Prop):Prop :=
 zdw P t n a parts σ fun v σ'=>∃sz xs,v=.sl (.fam σ.nf true) sz xs∧σ'.F σ.nf=.alive∧K (.slm σ'.no 0 sz xs.length) (σ'.ownV σ.nf (zy xs))
def zlc(P:Program)(G:Env)(f:AV)(args:List AV)(σ:AS)(K:AV→AS→Prop)(PK:AV→AS→Prop):Prop :=
 match f with
 | .fn (.func n) first cap=>za P n=true∧ACalls P G n (first++args++cap) σ fun o σ'=>match o with
  | .ret v=>K v σ'
  | .panic v=>PK v σ'
 | .fn (.yield l) first cap=>first=[]∧cap=[]∧G.has l∧G.y l args σ K PK
 | _=>False
def zva(P:Program)(G:Env)(a:Operand→AV)(σ:AS)(K:AV→AS→Prop)(PK:AV→AS→Prop):Op→Prop
 | .load t x=>zcF P t (a x) σ fun v=>K v σ
 | .store t p x=>zhb P t (a p) (a x) σ fun σ'=>K (.tuple []) σ'
 | .lookup t m k ok=>zcW P t (a m) (a k) ok σ fun v=>K v σ
 | .makeMap _ r=>zd4 (r.map a) σ K
 | .range t x=>zk5 P t (a x) σ K
 | .entry x=>zk7 (a x) σ fun v=>K v σ
 | .alloc t=>∃z,zH P t=some z∧z.known=true∧K (if zg2 t=true then .pt t z.cells.length σ.no 0 else .ptr σ.no 0) (σ.newO z.cells)
 | .box t x=>(a x).known=true∧K (if zg2 t=true then .pt t (a x).cells.length σ.no 0 else .ptr σ.no 0) (σ.newO (a x).cells)
 | .makeSlice t l c=>zmx P t (a l) (a c) σ K
 | .buildSlice t n parts=>if zHC t parts.toList=true then zpS P t n a parts.toList σ K else zdw P t n a parts.toList σ K
 | .convert s d x=>match a x with
  | .int _ _=>zig P s d (a x) fun v=>K v σ
  | .str bs=>(zca P d=true→(P.underlying s).isSome=true∧K (.str bs) σ)∧(zca P d=false→zes P s d (a x) σ K)
  | _=>zes P s d (a x) σ K
 | .panic x=>match a x with
  | .iface t v=>PK (.iface t v) σ
  | _=>False
 | .call c=>match c.callee with
  | .builtin .append=>match c.argTypes.toList,c.args.toList with
   | [t,u],[s,x]=>zdv P t u (a s) (a x) σ K
   | _,_=>False
  | .builtin .copy=>match c.argTypes.toList,c.args.toList with
   | [t,u],[s,x]=>zpR P t (a s) (a x) σ K
   | _,_=>False
  | .builtin .unsafeString=>match c.argTypes.toList,c.args.toList with
   | [t,_],[p,n]=>zfG P t (a p) (a n) σ K
   | _,_=>False
  | .value f=>zlc P G (a f) (c.args.toList.map a) σ K PK
  | _=>False
 | _=>False
def zwf(P:Program)(M:Mp)(F:Nat→FSt)(w:World)(K PK:AV→AS→Prop):Result Next→Prop
 | .ok (.value v') w'=>zfF M F w K v' w'
 | .ok .skip w'=>zfF M F w K undef w'
 | .ok (.enter f args) w'=>w'=w∧Calls P f args w fun e w''=>match e with
  | .returned v'=>zfF M F w K v' w''
  | .panicked ch=>∃v',ch=[{ v:=v',recovered:=false }]∧zfF M F w PK v' w''
  | .outgrown=>False
 | .ok (.round l fn tmps assign body) w'=>w'=w∧RoundIn Fence.wide 0 P l fn tmps assign body w fun e w''=>match e with
  | .returned v'=>zfF M F w K v' w''
  | .panicked ch=>∃v',ch=[{ v:=v',recovered:=false }]∧zfF M F w PK v' w''
  | .outgrown=>False
 | .halt (.panic v') w'=>zfF M F w PK v' w'
 | _=>False
theorem zmy{M σ}{w w':World}(S:Sim M σ w){A:Array Value}{e:TypeId}{z:Nat × Nat}{cs:List AV}(hw:w'.heap=w.heap.push (.cells A e z))(hio:zaM w w')(hl:cs.length≤A.size)(hv:∀j (h:j<cs.length),VR M σ.F w cs[j] (A[j]'(by omega)))
  (hz:∀j,j<cs.length→w'.frozen? ⟨w.heap.size,j,none⟩=false):Sim (M.newObj w.heap.size) (σ.newO cs) w'∧Ext M σ.F w (M.newObj w.heap.size) σ.F w':=by
 have hE:Ext M σ.F w (M.newObj w.heap.size) σ.F w':=(zcG (F:=σ.F) S.role (.cells A e z)).trans (.of_heap hw hio)
 refine⟨⟨by simp[Mp.newObj,AS.newO,S.no],S.nf,fun B r' h=>?_,fun x cs' hx=>?_,fun x y hx hy hxy=>?_⟩,hE⟩
 ·simp only[Mp.newObj,upd]at h
  rw[hw]
  split at h
  ·simp;omega
  ·have:=S.role B r' h
   simp;omega
 ·by_cases hxn:x=σ.no
  ·subst hxn
   simp only[AS.newO,ze]at hx
   cases hx
   refine⟨by simp[AS.newO],by simp only[Mp.newObj];rw[←S.no,ze,ze],fun j hj=>?_⟩
   have e1:(M.newObj w.heap.size).obj σ.no=(w.heap.size,0):=by simp only[Mp.newObj];rw[←S.no,ze]
   refine⟨A[j]'(by omega),?_,?_,(hv j hj).mono hE⟩
   ·rw[e1];simp[World.cell?,hw]
   ·rw[e1];simpa using hz j hj
  ·simp only[AS.newO]at hx
   rw[zf _ _ hxn]at hx
   obtain⟨a,b,c⟩:=S.obj x cs' hx
   have hB:=S.role _ _ b
   have e1:(M.newObj w.heap.size).obj x=M.obj x:=by simp only[Mp.newObj];rw[zf _ _ (by rw[S.no];exact hxn)]
   rw[e1]
   refine⟨by simp[AS.newO];omega,by simp only[Mp.newObj];rw[zf _ _ (by omega)];exact b,fun j hj=>?_⟩
   obtain⟨v,h1,h2,h3⟩:=c j hj
   have e:w'.heap[(M.obj x).1]?=w.heap[(M.obj x).1]?:=by rw[hw,yaS,if_neg (by omega)]
   exact⟨v,(zp e).trans h1,(zq e).trans h2,h3.mono hE⟩
 ·have S0:=(zd2 (A:=#[]) (e:=e) S (cs:=[]) ⟨rfl,fun j v h=>by simp at h⟩).inj x y
  refine S0 ?_ ?_ hxy
  ·by_cases hxn:x=σ.no
   ·subst hxn;simp[AS.newO,upd]
   ·simp only[AS.newO]at hx ⊢;rw[zf _ _ hxn]at hx ⊢;exact hx
  ·by_cases hxn:y=σ.no
   ·subst hxn;simp[AS.newO,upd]
   ·simp only[AS.newO]at hy ⊢;rw[zf _ _ hxn]at hy ⊢;exact hy
theorem zf7{P:Program}{s d x σ}{K:AV→AS→Prop}(h:zes P s d x σ K){M w x'}(S:Sim M σ w)(hx:VR M σ.F w x x'):
  ∃v' w',(convert s d x').run P w=.ok v' w'∧zfF M σ.F w K v' w':=by
 unfold zes at h
 split at h
 ·obtain⟨hs,hd,hK⟩:=h
  obtain⟨e,hu,he⟩:=zcE hs
  rw[zaS hx]
  refine⟨.string .empty,w,?_,.same S hK rfl (.refl _) (VR.str' rfl)⟩
  simp[convert,run_underlying hu,run_underlying (zah hd),run_underlying he,Conv.bytesToString]
 ·rename_i φ sz xs
  obtain⟨hs,hd,hrd,bs,rfl,hK⟩:=h
  obtain⟨e,hu,he⟩:=zcE hs
  generalize hB:B bs=ys at hx
  cases hx with
  | slz b sz a =>
   have hb:bs=[]:=by simpa [B]using hB
   subst hb
   exact⟨.string ⟨([]:List UInt8).toArray⟩,w,run_convert_bytes_back w s d e a 0 [] hu he (zah hd) (fun j hj=>by simp at hj),.same S hK rfl (.refl _) (VR.str' rfl)⟩
  | sl _ _ _ C off cap cs hcap hlit hsz hm hc hv =>
  subst hB
  have hl:(B bs).length=bs.length:=by simp[B]
  rw[hl]
  refine⟨.string ⟨bs.toArray⟩,w,run_convert_bytes_back w s d e ⟨C,off,none⟩ cap bs hu he (zah hd) (fun j hj=>?_),.same S hK rfl (.refl _) (VR.str' rfl)⟩
  have hj':j<(zy (B bs)).length:=by rw[zbT,hl];exact hj
  rw[zG,hc hrd j hj']
  have:=hv hrd j hj'
  simp only[zbT]at this
  simp only[B,yak]at this
  rw[zjz this]
 ·rename_i o off sz len
  obtain⟨hs,hd,cs,bs,ho,hb,hbs,hK⟩:=h
  obtain⟨e,hu,he⟩:=zcE hs
  obtain⟨hlt,cap,hcap,rfl⟩:=zmr hx
  have hl:bs.length=len:=by
   have:=congrArg List.length hbs
   simp[B]at this;omega
  obtain⟨_,_,hcell⟩:=S.obj o cs ho
  refine⟨.string ⟨bs.toArray⟩,w,?_,.same S hK rfl (.refl _) (VR.str' rfl)⟩
  rw[←hl]
  refine run_convert_bytes_back w s d e _ cap bs hu he (zah hd) (fun j hj=>?_)
  obtain⟨c,h1,_,h3⟩:=hcell (off+j) (by omega)
  rw[zG,yav,h1]
  have e1:cs[off+j]'(by omega)=.int .u8 (bs[j].toNat:Int):=by
   have:=congrArg (fun l=>l[j]?) hbs
   simp only[B,yaH,yas,List.getElem?_map]at this
   rw[if_pos (by omega),yau (by omega),yau hj]at this
   simpa using this
  rw[e1]at h3
  rw[zjz h3]
 ·rename_i bs
  obtain⟨hs,hd,hK⟩:=h
  obtain⟨e,hu,he⟩:=zcE hd
  obtain⟨b,rfl,rfl⟩:=hx.str_inv
  have hrun:=run_bytes_of_string w s d e b (zah hs) hu he
  generalize hcap:grownCap w b.size 0 e=cap at hrun
  have hle:b.size≤cap:=by rw[←hcap];exact grownCap_ge ..
  refine⟨_,_,hrun,?_⟩
  have hF:∀g,g<M.nf→(upd σ.F σ.nf .alive) g=σ.F g∨(upd σ.F σ.nf .alive) g=.dead:=fun g hg=>.inl (zf _ _ (by rw[←S.nf];omega))
  have hheap:(w.drew.alloc (.cells (bytesRow b cap) e ((bytesRow b cap).size,(bytesRow b cap).size+1))).heap=w.heap.push (.cells (bytesRow b cap) e ((bytesRow b cap).size,(bytesRow b cap).size+1)):=rfl
  have hE:=za1 (F:=σ.F) S.role _ hheap ⟨rfl,rfl,rfl⟩ hF
  have hsz:(bytesRow b cap).size=cap:=by simp[bytesRow];omega
  rcases hK with hK|hK
  rotate_left
  ·have hlb:(B b.data.toList).length=b.size:=by simp[B]
   obtain⟨So,Eo⟩:=zmy S (cs:=B b.data.toList) hheap ⟨rfl,rfl,rfl⟩ (by rw[hlb,hsz];exact hle) (fun j hj=>by
    have hj2:j<b.data.size:=by rw[hlb]at hj;exact hj
    have h1:=bytesRow_at b cap j hj2
    have h2:(bytesRow b cap)[j]'(by rw[hsz];have:b.data.size=b.size:=rfl;omega)=.int .u8 ((b.data[j]).toNat:Int):=by
     rw[yar (by rw[hsz];have:b.data.size=b.size:=rfl;omega)]at h1
     exact yaR.inj h1
    rw[h2]
    have e1:(B b.data.toList)[j]=.int .u8 ((b.data[j]'hj2).toNat:Int):=by simp[B]
    rw[e1]
    exact .int ..) (fun j hj=>by simp[World.frozen?,hheap];rw[hlb]at hj;omega)
   have hp:=VR.slm (M:=M.newObj w.heap.size) (F:=σ.F) (w:=w.drew.alloc (.cells (bytesRow b cap) e ((bytesRow b cap).size,(bytesRow b cap).size+1))) σ.no 0 1 b.size cap (by simp[Mp.newObj,S.no]) hle (fun _ j hj=>by
    have e1:(M.newObj w.heap.size).obj σ.no=(w.heap.size,0):=by simp only[Mp.newObj];rw[←S.no,ze]
    rw[e1]
    constructor
    ·simp[World.cell?,hheap]
     rw[hsz];omega
    ·simp[World.frozen?,hheap]
     rw[hsz];omega)
   have e1:(M.newObj w.heap.size).obj σ.no=(w.heap.size,0):=by simp only[Mp.newObj];rw[←S.no,ze]
   rw[e1]at hp
   have hlen:b.data.toList.length=b.size:=by simp
   rw[hlen]at hK
   exact⟨_,_,_,hK,hp,So,Eo⟩
  refine⟨_,_,_,hK,?_,zbr S _ hheap ⟨rfl,rfl,rfl⟩ hF,hE⟩
  have hl:(B b.data.toList).length=b.size:=by simp[B]
  have hcell:∀j,(w.drew.alloc (.cells (bytesRow b cap) e ((bytesRow b cap).size,(bytesRow b cap).size+1))).cell? ⟨w.heap.size,0+j,none⟩=(bytesRow b cap)[j]?:=by
   intro j;rw[Nat.zero_add];simp[World.cell?,hheap]
  have hbj:∀j (h:j<b.data.size),(bytesRow b cap)[j]?=some (.int .u8 ((b.data[j]).toNat:Int)):=fun j h=>bytesRow_at b cap j h
  have key:=VR.sl (M:=M.newFam w.heap.size) (F:=upd σ.F σ.nf .alive) (w:=w.drew.alloc (.cells (bytesRow b cap) e ((bytesRow b cap).size,(bytesRow b cap).size+1))) (.fam σ.nf false) 1 (B b.data.toList) w.heap.size 0 cap
   (fun j=>((bytesRow b cap)[j]?).getD undef) (by rw[hl];exact hle) (by simp[Own.full]) (zpQ _) ?_ (fun _ j hj=>?_) (fun _ j hj=>?_)
  ·rw[hl]at key;exact key
  ·refine⟨by simp[Mp.newFam,S.nf],fun _=>⟨by simp[Mp.newFam,upd,S.nf],fun j hj=>⟨?_,?_⟩⟩⟩
   ·rw[hcell,yar (by omega)];rfl
   ·simp[World.frozen?,hheap];omega
  ·rw[zbT,hl]at hj
   rw[hcell,hbj j hj];rfl
  ·have hj2:=hj
   rw[zbT,hl]at hj2
   rw[hbj j hj2]
   have e1:(zy (B b.data.toList))[j]=.int .u8 ((b.data[j]'hj2).toNat:Int):=by
    simp only[zbT];simp[B]
   rw[e1];exact .int ..
 ·exact h.elim
theorem zmz{P:Program}{t l c σ}{K:AV→AS→Prop}(h:zmx P t l c σ K){M w l' c'}(S:Sim M σ w)(hl:VR M σ.F w l l')(hc:VR M σ.F w c c'):
  ∃v' w',(Instr.makeSlice t l' c').run P w=.ok v' w'∧zfF M σ.F w K v' w':=by
 unfold zmx at h
 split at h
 ·rename_i k1 n k2 m
  obtain⟨sz,bs,z,he,hb,hz,hzk,hzl,rfl,h0,h1,h2,hK⟩:=h
  obtain⟨e,hu,hs⟩:=zC he
  obtain⟨i,hi,rfl⟩:=zf6 hb hu
  have hz':zH P e=some z:=by unfold za0 at hz;rw[hu]at hz;exact hz
  obtain⟨zv,hzv,rfl⟩:∃zv,i.zero=some zv∧z=zdq zv:=by
   unfold zH at hz'
   rw[hi]at hz'
   cases hq:i.zero with
   | none=>simp[hq]at hz'
   | some v=>simp[hq]at hz';exact⟨v,rfl,hz'.symm⟩
  have hzr:=zbb M σ.F w zv
  have hisz:i.size=sz:=by
   have hs2:=hs
   unfold za9 at hs2
   split at hs2
   ·simpa [hi]using hs2
   ·cases hs2
  have hbi:(i.bytes:Int)*n≤281474976710656:=by
   have hq:((n.toNat * i.bytes:Nat):Int)≤2^47:=by exact_mod_cast h2
   rw[ybd,Int.toNat_of_nonneg h0,Int.mul_comm]at hq
   omega
  have hrun:=run_make (P:=P) w t e i zv hu hi hzv k1 k2 n n h0 (Int.le_refl _) hbi (by omega)
  rw[hl.int_inv,hc.int_inv]
  refine⟨_,_,hrun,?_⟩
  have hcells:=Cells.zeros hzr hzk hzl n.toNat
  have hS:=zd2 S (A:=madeCells zv.cells (n.toNat * i.size)) (e:=e) (cs:=zy (yaj n.toNat (zdq zv))) (by rw[hisz];exact hcells)
  have hE:=zcG (F:=σ.F) S.role (.cells (madeCells zv.cells (n.toNat * i.size)) e)
  refine⟨_,_,_,hK,?_,hS,hE⟩
  have hv:=VR.slm (M:=M.newObj w.heap.size) (F:=σ.F) (w:={ w with heap:=w.heap.push (.cells (madeCells zv.cells (n.toNat * i.size)) e) }) σ.no 0 sz n.toNat n.toNat (by simp[Mp.newObj,S.no]) (yah _) (fun _ j hj=>by
   have e1:(M.newObj w.heap.size).obj σ.no=(w.heap.size,0):=by simp only[Mp.newObj];rw[←S.no,ze]
   rw[e1]
   constructor
   ·simp[World.cell?]
    have h1:=hcells.1
    rw[←hisz]at h1
    have h2:(zy (yaj n.toNat (zdq zv))).length=n.toNat * sz:=by rw[zt sz _ (fun x hx=>by rw[yaP hx];exact hzl),yba]
    simp only[madeCells]at h1 ⊢
    rw[h2]at h1
    simpa using (by simpa using h1:_=_)▸hj
   ·simp[World.frozen?])
  have e1:(M.newObj w.heap.size).obj σ.no=(w.heap.size,0):=by simp only[Mp.newObj];rw[←S.no,ze]
  rw[e1]at hv
  exact hv
 ·exact h.elim
theorem zdx{P:Program}{t n α parts σ}{K:AV→AS→Prop}(h:zdw P t n α parts σ K){M w}{ρ:Operand→Value}(S:Sim M σ w)(hv:∀p∈parts.map (·.2),VR M σ.F w (α p) (ρ p)):
  ∃v' w',(Instr.buildSlice t n (parts.map fun x=>(x.1,ρ x.2)).toArray).run P w=.ok v' w'∧zfF M σ.F w K v' w':=by
 obtain⟨sz,z,he,hz,hk,hzl,h0,hn,hf⟩:=h
 obtain⟨e,hu,hs⟩:=zC he
 obtain⟨xs,hK,hl,hsz,hh⟩:=zeG parts (yaj n z) _ (by simp) (fun x hx=>by rw[yaP hx];exact hzl) hf
 have hz':zH P e=some z:=by unfold za0 at hz;rw[hu]at hz;exact hz
 obtain⟨zv,hzv,rfl⟩:=zaX hz' w
 have hzr:=zbb M σ.F w zv
 obtain⟨A',h1,h2⟩:=hh M σ.F w ρ _ (Cells.zeros hzr hk hzl n) (fun x hx=>hv x.2 (yaW hx))
 have hF:∀g,g<M.nf→(upd σ.F σ.nf .alive) g=σ.F g∨(upd σ.F σ.nf .alive) g=.dead:=fun g hg=>.inl (zf _ _ (by rw[←S.nf];omega))
 have hheap:({ w with heap:=w.heap.push (.cells A' e) }:World).heap=w.heap.push (.cells A' e):=rfl
 have hE:=za1 (F:=σ.F) S.role _ hheap ⟨rfl,rfl,rfl⟩ hF
 have hfl:=zt sz xs hsz
 have hA:A'.size=n*sz:=by rw[h2.1,hfl,hl]
 refine⟨.slice (some ⟨w.heap.size,0,none⟩) n n,{ w with heap:=w.heap.push (.cells A' e) },?_,?_⟩
 ·by_cases hn0:n=0
  ·subst hn0
   have hr:yaN (0*sz)=#[]:=by rw[yaC];rfl
   rw[hr,yaX]at h1
   simp only[Instr.buildSlice,Sem.run_bind,run_underlying hu,Result.andThen_ok,zj hs,Sem.run_ite,Sem.run_pure]
   rw[if_neg (by simp),if_pos (yaC _)]
   simp only[hr,yaX,h1]
   simp[newRow]
  ·have hne:n*sz≠0:=by
    have:=yaY (yaZ hn0) h0;omega
   simp only[Instr.buildSlice,Sem.run_bind,run_underlying hu,Result.andThen_ok,zj hs,Sem.run_ite,if_neg hne,hzv,Sem.run_pure]
   rw[if_neg (by omega)]
   simp only[h1]
   simp[newRow]
 ·refine⟨_,_,_,hK,?_,zbr S _ hheap ⟨rfl,rfl,rfl⟩ hF,hE⟩
  have hcell:∀j,({ w with heap:=w.heap.push (.cells A' e) }:World).cell? ⟨w.heap.size,0+j,none⟩=A'[j]?:=by
   intro j;simp[World.cell?]
  have key:=VR.sl (M:=M.newFam w.heap.size) (F:=upd σ.F σ.nf .alive) (w:={ w with heap:=w.heap.push (.cells A' e) }) (.fam σ.nf true) sz xs w.heap.size 0 n
   (fun j=>(A'[j]?).getD undef) (by omega) (fun _=>by omega) hsz ?_ (fun _ j hj=>?_) (fun _ j hj=>?_)
  ·rw[hl]at key;exact key
  ·refine⟨by simp[Mp.newFam,S.nf],fun _=>⟨by simp[Mp.newFam,upd,S.nf],fun j hj=>⟨?_,?_⟩⟩⟩
   ·rw[hcell,yar (by omega)];rfl
   ·simp[World.frozen?]
  ·rw[hcell,yar (by rw[h2.1];exact hj)];rfl
  ·have:=h2.get j hj (by rw[h2.1];exact hj)
   rw[yar (by rw[h2.1];exact hj)]
   exact this.mono hE
theorem zoN{P:Program}{G:Env}{α:Operand→AV}{σ:AS}{K PK:AV→AS→Prop}{o:Oper}(h:zva P G α σ K PK o.op){M:Mp}{w:World}{ρ:Operand→Value}(S:Sim M σ w)(g:GOk P G M σ.F w)
  (hl:∀x∈o.op.operands,VR M σ.F w (α x) (ρ x)):zwf P M σ.F w K PK ((execOp ρ o).run P w):=by
 cases ho:o.op<;>rw[ho]at h<;>simp only[zva]at h
 case load t x =>
  obtain⟨v,hK,hh⟩:=zeH h
  obtain⟨v',h1,h2⟩:=hh M w (ρ x) S (hl x (by rw[ho];simp[Op.operands]))
  unfold execOp;simp only[ho];rw[Sem.run_bind,h1]
  exact .same S hK rfl (.refl _) h2
 case store t p x =>
  obtain⟨σ',w',h1,hK,h2,h3⟩:=zkZ h S (hl p (by rw[ho];simp[Op.operands])) (hl x (by rw[ho];simp[Op.operands]))
  unfold execOp;simp only[ho];rw[Sem.run_bind,h1]
  exact⟨_,σ',M,hK,.tuple _ _ rfl (fun j h=>absurd h (yaA _)),h2,h3⟩
 case lookup t m k ok =>
  obtain⟨v,v',hK,h1,h2⟩:=zin (P:=P) h (hl m (by rw[ho];simp[Op.operands])) (hl k (by rw[ho];simp[Op.operands])) (w:=w)
  unfold execOp;simp only[ho];rw[Sem.run_bind,h1]
  exact .same S hK rfl (.refl _) h2
 case makeMap t r =>
  have hr:r=none:=by
   have:=h.1
   cases r with
   | none=>rfl
   | some x=>cases this
  subst hr
  obtain⟨v',w',h1,h2⟩:=zim (P:=P) (t:=t) h S
  unfold execOp;simp only[ho];simp only[yaF];rw[Sem.run_bind,h1]
  exact h2
 case range t x =>
  obtain⟨v',w',h1,h2⟩:=zk6 h S (hl x (by rw[ho];simp[Op.operands]))
  unfold execOp;simp only[ho];rw[Sem.run_bind,h1]
  exact h2
 case entry x =>
  obtain⟨v,v',hK,h1,h2⟩:=zk8 (P:=P) h (hl x (by rw[ho];simp[Op.operands])) (w:=w)
  unfold execOp;simp only[ho];rw[Sem.run_bind,h1]
  exact .same S hK rfl (.refl _) h2
 case alloc t =>
  obtain⟨z,hz,hk,hK⟩:=h
  obtain⟨zv,hzv,rfl⟩:=zaX hz w
  obtain⟨c1,c2⟩:=(zbb M σ.F w zv).cells_rel hk
  have hS:=zd2 S (A:=zv.cells) (e:=t) (Cells.of c1 c2)
  have hE:=zcG (F:=σ.F) S.role (.cells zv.cells t)
  unfold execOp;simp only[ho]
  simp only[Instr.alloc,newVar,newRow,Sem.run_bind,hzv,Result.andThen_ok,run_newObj,Sem.run_pure]
  refine⟨_,_,_,hK,?_,hS,hE⟩
  have hv:=VR.ptr (M:=M.newObj w.heap.size) (F:=σ.F) (w:={ w with heap:=w.heap.push (.cells zv.cells t) }) σ.no 0 (by simp[Mp.newObj,S.no])
  have e1:(M.newObj w.heap.size).obj σ.no=(w.heap.size,0):=by simp only[Mp.newObj];rw[←S.no,ze]
  rw[e1]at hv
  split
  ·have hp:=VR.pt (M:=M.newObj w.heap.size) (F:=σ.F) (w:={ w with heap:=w.heap.push (.cells zv.cells t) }) t (zdq zv).cells.length σ.no 0 (by simp[Mp.newObj,S.no]) (by rw[e1]) ⟨zv.cells,(0,0),by rw[e1];simp,c1⟩
   rw[e1]at hp
   exact hp
  ·exact hv
 case box t x =>
  obtain⟨hk,hK⟩:=h
  obtain⟨c1,c2⟩:=(hl x (by rw[ho];simp[Op.operands])).cells_rel hk
  have hS:=zd2 S (A:=(ρ x).cells) (e:=t) (Cells.of c1 c2)
  have hE:=zcG (F:=σ.F) S.role (.cells (ρ x).cells t)
  unfold execOp;simp only[ho]
  simp only[Instr.box,newVar,newRow,Sem.run_bind,Result.andThen_ok,run_newObj,Sem.run_pure]
  refine⟨_,_,_,hK,?_,hS,hE⟩
  have hv:=VR.ptr (M:=M.newObj w.heap.size) (F:=σ.F) (w:={ w with heap:=w.heap.push (.cells (ρ x).cells t) }) σ.no 0 (by simp[Mp.newObj,S.no])
  have e1:(M.newObj w.heap.size).obj σ.no=(w.heap.size,0):=by simp only[Mp.newObj];rw[←S.no,ze]
  rw[e1]at hv
  split
  ·have hp:=VR.pt (M:=M.newObj w.heap.size) (F:=σ.F) (w:={ w with heap:=w.heap.push (.cells (ρ x).cells t) }) t (α x).cells.length σ.no 0 (by simp[Mp.newObj,S.no]) (by rw[e1]) ⟨(ρ x).cells,(0,0),by rw[e1];simp,c1⟩
   rw[e1]at hp
   exact hp
  ·exact hv
 case makeSlice t l c =>
  obtain⟨v',w',h1,h2⟩:=zmz h S (hl l (by rw[ho];simp[Op.operands])) (hl c (by rw[ho];simp[Op.operands]))
  unfold execOp;simp only[ho];rw[Sem.run_bind,h1]
  exact h2
 case buildSlice t n parts =>
  split at h
  ·obtain⟨v',w',h1,v,σ2,M2,⟨sz,xs,hv,ha,hK⟩,h3,h4,h5⟩:=zdx h S (fun p hp=>hl p (by rw[ho];simp only[Op.operands,ya2];exact hp))
   simp only[zds]at h1
   subst hv
   obtain⟨B,off,S3,v4⟩:=h4.ownV ha h3
   have E3:=zhd (M:=M2) (w:=w') (B:=B) (off:=off) ha
   unfold execOp;simp only[ho];rw[Sem.run_bind,h1]
   exact⟨_,_,_,hK,v4,S3,h5.trans E3⟩
  ·obtain⟨v',w',h1,h2⟩:=zdx h S (fun p hp=>hl p (by rw[ho];simp only[Op.operands,ya2];exact hp))
   simp only[zds]at h1
   unfold execOp;simp only[ho];rw[Sem.run_bind,h1];exact h2
 case convert s d x =>
  have hx:=hl x (by rw[ho];simp[Op.operands])
  unfold execOp;simp only[ho];rw[Sem.run_bind]
  split at h
  ·obtain⟨v,hK,hh⟩:=zeE h
   obtain⟨v',h1,h2⟩:=hh M σ.F w (ρ x) hx
   rw[h1]
   exact .same S hK rfl (.refl _) h2
  ·rename_i bs hbs
   cases hd:zca P d with
   | true =>
    obtain⟨hs,hK⟩:=h.1 hd
    have hc:zig P s d (α x) (fun v=>K v σ):=by rw[hbs];exact⟨hd,hs,hK⟩
    obtain⟨v,hK,hh⟩:=zeE hc
    obtain⟨v',h1,h2⟩:=hh M σ.F w (ρ x) hx
    rw[h1]
    exact .same S hK rfl (.refl _) h2
   | false =>
    obtain⟨v',w',h1,h2⟩:=zf7 (h.2 hd) S hx
    rw[h1];exact h2
  ·obtain⟨v',w',h1,h2⟩:=zf7 h S hx
   rw[h1];exact h2
 case panic x =>
  have hx:=hl x (by rw[ho];simp[Op.operands])
  split at h
  ·rename_i t v hv
   rw[hv]at hx
   generalize hc:ρ x=c at hx
   have hx':=hx
   cases hx with
   | iface _ _ c' hc' =>
   unfold execOp;simp only[ho]
   simp only[hc,Instr.panic,Sem.run_bind,run_goPanic,Result.andThen_halt]
   exact .same S h rfl (.refl _) hx'
  ·exact h.elim
 case call c =>
  split at h
  ·rename_i hc
   split at h
   ·rename_i t u s x ht hx
    obtain⟨v',w',h1,h2⟩:=zjC h S (hl s (by rw[ho];simp[Op.operands,Call.operands,←ya3,hx])) (hl x (by rw[ho];simp[Op.operands,Call.operands,←ya3,hx])) o.type
    have e1:c.args.map ρ=#[ρ s,ρ x]:=by apply ya4;simp[hx]
    have e2:c.argTypes=#[t,u]:=by apply ya4;simp[ht]
    unfold execOp;simp only[ho]
    simp only[resolve,hc,Sem.run_bind,Sem.run_pure,Result.andThen_ok,invoke,builtin,e1,e2,h1]
    exact h2
   ·exact h.elim
  ·rename_i hc
   split at h
   ·rename_i t u s x ht hx
    obtain⟨v',w',h1,h2⟩:=zmw (u:=u) (ty:=o.type) h S (hl s (by rw[ho];simp[Op.operands,Call.operands,←ya3,hx])) (hl x (by rw[ho];simp[Op.operands,Call.operands,←ya3,hx]))
    have e1:c.args.map ρ=#[ρ s,ρ x]:=by apply ya4;simp[hx]
    have e2:c.argTypes=#[t,u]:=by apply ya4;simp[ht]
    unfold execOp;simp only[ho]
    simp only[resolve,hc,Sem.run_bind,Sem.run_pure,Result.andThen_ok,invoke,builtin,e1,e2,h1]
    exact h2
   ·exact h.elim
  ·rename_i hc
   split at h
   ·rename_i t u s x ht hx
    obtain⟨v',w',h1,h2⟩:=zjG (it:=u) (ty:=o.type) h S (hl s (by rw[ho];simp[Op.operands,Call.operands,←ya3,hx])) (hl x (by rw[ho];simp[Op.operands,Call.operands,←ya3,hx]))
    have e1:c.args.map ρ=#[ρ s,ρ x]:=by apply ya4;simp[hx]
    have e2:c.argTypes=#[t,u]:=by apply ya4;simp[ht]
    unfold execOp;simp only[ho]
    simp only[resolve,hc,Sem.run_bind,Sem.run_pure,Result.andThen_ok,invoke,builtin,e1,e2,h1]
    exact h2
   ·exact h.elim
  ·rename_i f hc
   unfold zlc at h
   split at h
   ·rename_i n first cap hf
    obtain⟨hcl,hcalls⟩:=h
    have hfv:=hl f (by rw[ho];simp[Op.operands,Call.operands,hc])
    rw[hf]at hfv
    obtain⟨A,C,hρ,hA,hC,va,vc⟩:∃A C,ρ f=.func (.func n) A C∧A.size=first.length∧C.size=cap.length∧(∀j (h:j<first.length) (h':j<A.size),VR M σ.F w first[j] A[j]) ∧
      (∀j (h:j<cap.length) (h':j<C.size),VR M σ.F w cap[j] C[j]):=by
     generalize ρ f=c at hfv
     cases hfv with
     | fn _ _ _ A B ha hb va vb=>exact⟨A,B,rfl,ha,hb,va,vb⟩
    obtain ⟨fn, hfn, hb, hname⟩ : ∃ fn, P.funcs[n]? = some fn ∧ fn.body.isSome = true ∧ (fn.name == "runtime.NumGoroutine") = false := by
     unfold za at hcl
     split at hcl
     ·simp only[Bool.and_eq_true,Bool.not_eq_true']at hcl
      exact⟨_,‹_›,hcl.1,hcl.2⟩
     ·cases hcl
    have hbn:fn.body.isNone=false:=by cases hq:fn.body<;>simp[hq]at hb ⊢
    have hrun:(execOp ρ o).run P w=.ok (.enter n (A++c.args.map ρ++C)) w:=by
     unfold execOp;simp only[ho]
     simp only[resolve,hc,hρ,Deferred.ofValue,Sem.run_bind,Sem.run_pure,Result.andThen_ok,invoke,callFunc,run_program,hfn,hname,hbn,Bool.false_eq_true,if_false]
    rw[hrun]
    refine⟨rfl,(hcalls M w _ S g ?_).mono fun e w' he=>?_⟩
    ·have harg:Cells M σ.F w (c.args.toList.map α) (c.args.map ρ):=by
      refine Cells.of (by simp) (fun j h h'=>?_)
      simp only[yak,ya1,yal]
      refine hl _ ?_
      rw[ho];simp[Op.operands,Call.operands]
     have app:∀{x y:List AV} {X Y:Array Value},Cells M σ.F w x X→Cells M σ.F w y Y→Cells M σ.F w (x++y) (X++Y):=by
      intro x y X Y h1 h2
      refine⟨by simp[h1.1,h2.1],fun j v hj=>?_⟩
      by_cases h:j<x.length
      ·rw[yat h]at hj
       obtain⟨c,e1,e2⟩:=h1.2 j v hj
       exact⟨c,by rw[ybi (by rw[h1.1];exact h)];exact e1,e2⟩
      ·rw[yaI (by omega)]at hj
       obtain⟨c,e1,e2⟩:=h2.2 _ v hj
       exact⟨c,by rw[ybj (by rw[h1.1];omega),h1.1];exact e1,e2⟩
     exact app (app (Cells.of hA va) harg) (Cells.of hC vc)
    ·obtain⟨out,σ',M',hR,hO,hS,hE⟩:=he
     cases out with
     | ret v =>
      cases e with
      | returned v'=>exact⟨v,σ',M',hR,hO,hS,hE⟩
      | panicked ch=>exact hO.elim
      | outgrown=>exact hO.elim
     | panic v =>
      cases e with
      | returned v'=>exact hO.elim
      | panicked ch =>
       obtain⟨v',h1,h2⟩:=hO
       exact⟨v',h1,v,σ',M',hR,h2,hS,hE⟩
      | outgrown=>exact hO.elim
   ·rename_i l first cap hf
    obtain⟨rfl,rfl,hhas,hy⟩:=h
    have hfv:=hl f (by rw[ho];simp[Op.operands,Call.operands,hc])
    rw[hf]at hfv
    obtain⟨A,C,hρ,hA,hC⟩:∃A C,ρ f=.func (.yield l) A C∧A.size=0∧C.size=0:=by
     generalize ρ f=c at hfv
     cases hfv with
     | fn _ _ _ A B ha hb va vb=>exact⟨A,B,rfl,ha,hb⟩
    have hA':A=#[]:=ybt hA
    have hC':C=#[]:=ybt hC
    subst hA' hC'
    have harg:Cells M σ.F w (c.args.toList.map α) (c.args.map ρ):=by
     refine Cells.of (by simp) (fun j h h'=>?_)
     simp only[yak,ya1,yal]
     refine hl _ ?_
     rw[ho];simp[Op.operands,Call.operands]
    obtain⟨r,f0,M0,F0,w0,E0,hlt,h1,h2,_,h3⟩:=g.yields l hhas
    obtain⟨h4,h5⟩:=h1 (h2 _ _ _ _ hy)
    obtain⟨fn,tmps,assign,body,hrun,hround⟩:=h3 _ σ K PK M w _ hy S E0 h4 h5 harg
    have hrun':(execOp ρ o).run P w=.ok (.round l fn tmps assign body) w:=by
     unfold execOp;simp only[ho]
     simp only[resolve,hc,hρ,Deferred.ofValue,Sem.run_bind,Sem.run_pure,Result.andThen_ok,invoke,ybu]
     exact hrun
    rw[hrun']
    exact⟨rfl,hround⟩
   ·exact h.elim
  ·exact h.elim
end Go.Abs
