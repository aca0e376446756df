/- Parts of the proof of the row BinKnown: contracts of functions, each under the conditions that its theorem names. -/
import Derived.Test.YthejpoplbllcbaaGreatDoorZC
import Derived.Test.YthejpoplbllcbaaGreatDoorTie
import Derived.ProofKit
import Derived.OpenShut
import Derived.ChangeOld
import Derived.ChangeSame
import Derived.ChangeVars
import Derived.Lib.LaidTab
import Derived.LaidLaws
import Derived.LaidHandle
import Derived.ShapedOpen
import Derived.Lay
import Derived.LaidMore
import Derived.Test.YthejpoplbllcbaaGreatDoorCards
set_option linter.unusedSimpArgs false
set_option linter.unusedVariables false
set_option linter.unusedSimpArgs false
set_option linter.unusedVariables false
namespace Go.Proofs.YthejpoplbllcbaaGreatDoor
open Go Go.Abs Go.RowKit
def CellsV (w : World) (v : AV) (cs : List Value) : Prop := v.cells.length = cs.length ∧ ∀ j (h : j < v.cells.length) (h' : j < cs.length),VR (Mp.all w) AS.zero.F w v.cells[j] cs[j]
theorem CellsV.one {w : World} {v : AV} {c : Value} (h : VR (Mp.all w) AS.zero.F w v c) (hv : v.cells = [v]) : CellsV w v [c] := by
 refine ⟨by rw [hv]; rfl,fun j h1 h2=>?_⟩
 have : j = 0:=by simpa using h2
 subst this
 simpa [hv] using h
theorem CellsV.tO {w : World} {v : AV} {c : Value} (h : CellsV w v [c]) (hv : v.cells = [v]) : VR (Mp.all w) AS.zero.F w v c := by
 have:=h.2 0 (by rw [hv]; simp) (by simp)
 simpa [hv] using this
def WtOk {H : Type} (t : TypeId) (d : DataW H) : Prop := (d.weights Tryz.prog t).all (· ≤ reachBytes) = true
theorem wtAll {H : Type} {e : TypeId} : ∀ {ds : List (DataW H)},(DataW.weightsAll Tryz.prog e ds).all (· ≤ reachBytes) = true → ∀ d ∈ ds,WtOk e d
 | [],_=>by simp
 | d :: ds,h=>by
  rw [DataW.weightsAll,List.all_append,Bool.and_eq_true] at h
  intro x hx
  rcases List.mem_cons.1 hx with rfl | hx
  ·exact h.1
  ·exact wtAll h.2 x hx
theorem wtEach {H : Type} : ∀ {ts : List TypeId} {ds : List (DataW H)},(DataW.weightsEach Tryz.prog ts ds).all (· ≤ reachBytes) = true → ∀ (i : Nat) t d,ts[i]? = some t → ds[i]? = some d → WtOk t d
 | [],ds,_=>by simp
 | _ :: _,[],_=>by simp
 | t :: ts,d :: ds,h=>by
  rw [DataW.weightsEach,List.all_append,Bool.and_eq_true] at h
  intro i t' d' h1 h2
  cases i with
  | zero=>simp at h1 h2; subst h1 h2; exact h.1
  | succ i=>exact wtEach h.2 i t' d' (by simpa using h1) (by simpa using h2)
theorem exists_list {X : Type} {n : Nat} {P : Nat → X → Prop} (h : ∀ i,i < n → ∃ x,P i x) : ∃ l : List X,l.length = n ∧ ∀ i (hi : i < l.length),P i l[i] := by
 induction n with
 | zero=>exact ⟨[],rfl,fun i hi=>by simp at hi⟩
 | succ n ih =>
  obtain ⟨l,hl,hp⟩:=ih fun i hi=>h i (by omega)
  obtain ⟨x,hx⟩:=h n (by omega)
  refine ⟨l ++ [x],by simp [hl],fun i hi=>?_⟩
  by_cases hi' : i < l.length
  ·rw [List.getElem_append_left hi']; exact hp i hi'
  ·have e : i = l.length:=by simp at hi; omega
   subst e
   rw [List.getElem_append_right (by omega)]
   simpa [hl] using hx
theorem All2.of_get {α β : Type} {R : α → β → Prop} : ∀ {xs : List α} {ys : List β},xs.length = ys.length → (∀ i (h : i < xs.length) (h' : i < ys.length),R xs[i] ys[i]) → All2 R xs ys
 | [],[],_,_=>.nil
 | [],_ :: _,h,_=>by simp at h
 | _ :: _,[],h,_=>by simp at h
 | x :: xs,y :: ys,h,hr=>.cons (hr 0 (by simp) (by simp)) (All2.of_get (by simpa using h) fun i h1 h2=>hr (i + 1) (Nat.succ_lt_succ h1) (Nat.succ_lt_succ h2))
theorem slice_relP {H T : Type} {enc : TypeId × Value → H} {w : World} {fuel : Nat} {t e : TypeId} {cs : List Value} {x : DataW H × List MemPlace} {sz : Nat} (Rel : AV → T → Prop) (P : DataW H → Prop)
  (ht : Tryz.prog.underlying t = some (.slice e)) (hc : Tryz.prog.cellsOf e = sz) (hsz : 0 < sz) (hb : 0 < Tryz.prog.bytesOf e)
  (ih : ∀ n cs' d q,DataW.trod enc Tryz.prog w 0 (fun _=>true) true n e cs' = some (d,q) → WtOk e d → P d → ∃ v o,Rel v o ∧ CellsV w v cs')
  (h : DataW.trod enc Tryz.prog w 0 (fun _=>true) true fuel t cs = some x) (hw : WtOk t x.1) (hP : ∀ ds rs,x.1 = .slice ds rs → ∀ d ∈ ds,P d) :
  ∃ (v : AV) (os : List T),CellsV w v cs ∧ ((os = [] ∧ v = .nilsl) ∨ ∃ vs,v = .sl (.stat false) sz vs ∧ All2 Rel vs os) ∧ os.length ≤ 2 ^ 47:=by
 rcases DataW.trod_slice ht h with ⟨rfl,rfl⟩ | ⟨a,len,cap,elems,rest,n,rfl,rfl,rfl,hb0,hl,hm,hlen,hel,hsp,hns⟩
 ·exact ⟨.nilsl,[],.one .nilsl rfl,.inl ⟨rfl,rfl⟩,by simp⟩
 obtain ⟨hrl,hrest⟩:=hsp rfl
 have hw':=hw
 unfold WtOk DataW.weights at hw'
 rw [ht] at hw'
 simp only [List.all_cons,List.all_append,Bool.and_eq_true,List.length_map,decide_eq_true_eq] at hw'
 obtain ⟨w1,w2,w3⟩:=hw'
 have hel2:=wtAll w2
 have hel3:=hP _ _ rfl
 have each : ∀ i,i < len → ∃ p : AV × T,Rel p.1 p.2 ∧ ∃ cs',w.cells? 0 (a.add (i * sz)) sz = some cs' ∧ CellsV w p.1 cs':=fun i hi=>by
  have h1:=hel i hi
  have hi' : i < elems.length:=by omega
  rw [hc,List.getElem?_eq_getElem hi',Option.bind_eq_some_iff] at h1
  obtain ⟨cs',h2,h3⟩:=h1
  obtain ⟨v,o,h4,h5⟩:=ih n cs' elems[i].1 elems[i].2 h3 (hel2 _ (List.mem_map_of_mem (List.getElem_mem hi'))) (hel3 _ (List.mem_map_of_mem (List.getElem_mem hi')))
  exact ⟨(v,o),h4,cs',h2,h5⟩
 obtain ⟨l,hll,hp⟩:=exists_list each
 have hcap : len ≤ 2 ^ 47:=by
  have h1 : (elems.length + rest.length) * 1 ≤ (elems.length + rest.length) * Tryz.prog.bytesOf e:=Nat.mul_le_mul_left _ hb
  have h2 : reachBytes ≤ 2 ^ 47:=by unfold reachBytes; omega
  omega
 have hall : All2 Rel (l.map (·.1)) (l.map (·.2)):=All2.of_get (by simp) fun i h1 h2=>by simpa using (hp i (by simpa using h1)).1
 by_cases hz : cap = 0
 ·have e1 : len = 0:=by omega
  have e2 : l = []:=List.eq_nil_of_length_eq_zero (by omega)
  subst e1 hz e2
  exact ⟨.sl (.stat false) sz [],[],.one (.slz ..) rfl,.inr ⟨[],rfl,.nil⟩,by simp⟩
 have h0 : ∃ c,w.cell? a = some c:=by
  have key : ∀ (y : DataW H × List MemPlace),(w.cells? 0 (a.add (0 * Tryz.prog.cellsOf e)) (Tryz.prog.cellsOf e)).bind (DataW.trod enc Tryz.prog w 0 (fun _=>true) true n e) = some y → ∃ c,w.cell? a = some c:=fun y hy=>by
   rw [Option.bind_eq_some_iff] at hy
   obtain ⟨cs',h2,_⟩:=hy
   obtain ⟨_,h3,h4⟩:=World.cells?_some h2
   have h5:=h4 0 (by omega)
   rw [Nat.zero_mul] at h5
   have e : (a.add 0).add 0 = a:=by simp [Addr.add]
   rw [e,List.getElem?_eq_getElem (by omega)] at h5
   exact ⟨_,h5⟩
  by_cases hl0 : 0 < len
  ·have:=hel 0 hl0
   rw [List.getElem?_eq_getElem (by omega)] at this
   exact key _ this
  ·have e1 : len = 0:=by omega
   subst e1
   have:=hrest 0 (by omega)
   rw [List.getElem?_eq_getElem (by omega)] at this
   exact key _ this
 obtain ⟨c0,hc0⟩:=h0
 obtain ⟨B,off,spot⟩:=a
 have hBs : B < w.heap.size ∧ spot = none:=by
  unfold World.cell? at hc0
  split at hc0
  ·rename_i c t' fr hh
   refine ⟨(Array.getElem?_eq_some_iff.1 hh).1,?_⟩
   split at hc0
   ·cases hc0
   ·rename_i hs; simpa using hs
  ·cases hc0
 obtain ⟨hB,rfl⟩:=hBs
 have hsz' : ∀ v ∈ l.map (·.1),v.cells.length = sz:=fun v hv=>by
  obtain ⟨p,hp',rfl⟩:=List.mem_map.1 hv
  obtain ⟨i,hi,rfl⟩:=List.mem_iff_getElem.1 hp'
  obtain ⟨_,cs',h2,h3⟩:=hp i hi
  rw [h3.1,(World.cells?_some h2).2.1]
 have hfl:=flat_length sz (l.map (·.1)) hsz'
 have key : ∀ j (hj : j < (flat (l.map (·.1))).length),∃ c,w.cell? ⟨B,off + j,none⟩ = some c ∧ VR (Mp.all w) AS.zero.F w (flat (l.map (·.1)))[j] c:=fun j hj=>by
  have hj' : j < l.length * sz:=by simpa [hfl] using hj
  have hi : j / sz < l.length:=(Nat.div_lt_iff_lt_mul hsz).2 hj'
  have hr : j % sz < sz:=Nat.mod_lt _ hsz
  obtain ⟨_,cs',h2,h3⟩:=hp (j / sz) hi
  obtain ⟨_,h4,h5⟩:=World.cells?_some h2
  have h6:=h5 (j % sz) hr
  rw [addr_add,addr_add,Nat.add_assoc,Nat.div_add_mod',List.getElem?_eq_getElem (by omega)] at h6
  refine ⟨_,h6,?_⟩
  have hl1 : l[j / sz].1.cells.length = sz:=by rw [h3.1,h4]
  have h7:=(flat_get hsz' (i:=j / sz) (v:=l[j / sz].1) (by simp [List.getElem?_eq_getElem hi]) (j:=j % sz) (by omega)).2
  rw [Nat.div_add_mod',List.getElem?_eq_getElem hj] at h7
  rw [Option.some.inj h7]
  exact h3.2 _ _ _
 have hv:=VR.sl (M:=Mp.all w) (F:=AS.zero.F) (w:=w) (.stat false) sz (l.map (·.1)) B off cap (fun j=>(w.cell? ⟨B,off + j,none⟩).getD undef) (by simp; omega) (by simp [Own.full]) hsz' (by simp [Mem,Mp.all,hB])
  (fun _ j hj=>by obtain ⟨c,h1,_⟩:=key j hj; simp [h1]) (fun _ j hj=>by obtain ⟨c,h1,h2⟩:=key j hj; simpa [h1] using h2)
 rw [List.length_map,hll] at hv
 exact ⟨_,l.map (·.2),.one hv rfl,.inr ⟨_,rfl,hall⟩,by simpa [hll] using hcap⟩
theorem slice_rel {H T : Type} {enc : TypeId × Value → H} {w : World} {fuel : Nat} {t e : TypeId} {cs : List Value} {x : DataW H × List MemPlace} {sz : Nat} (Rel : AV → T → Prop)
  (ht : Tryz.prog.underlying t = some (.slice e)) (hc : Tryz.prog.cellsOf e = sz) (hsz : 0 < sz) (hb : 0 < Tryz.prog.bytesOf e)
  (ih : ∀ n cs' d q,DataW.trod enc Tryz.prog w 0 (fun _=>true) true n e cs' = some (d,q) → WtOk e d → ∃ v o,Rel v o ∧ CellsV w v cs')
  (h : DataW.trod enc Tryz.prog w 0 (fun _=>true) true fuel t cs = some x) (hw : WtOk t x.1) :
  ∃ (v : AV) (os : List T),CellsV w v cs ∧ ((os = [] ∧ v = .nilsl) ∨ ∃ vs,v = .sl (.stat false) sz vs ∧ All2 Rel vs os) ∧ os.length ≤ 2 ^ 47 :=
 slice_relP Rel (fun _=>True) ht hc hsz hb (fun n cs' d q h hw _=>ih n cs' d q h hw) h hw fun _ _ _ _ _=>trivial
def ByteR (v : AV) (b : UInt8) : Prop := v = .int .u8 (b.toNat : Int)
theorem byte_rel {H : Type} {enc : TypeId × Value → H} {w : World} {n : Nat} {cs : List Value} {x : DataW H × List MemPlace} (h : DataW.trod enc Tryz.prog w 0 (fun _ => true) true n 5 cs = some x) : ∃ v o,ByteR v o ∧ CellsV w v cs := by
 obtain ⟨k,rfl,_,hw⟩:=DataW.trod_int Tryz.underlying5 h
 simp [Lit.wf,IntKind.min,IntKind.max,IntKind.signed,IntKind.bits] at hw
 refine ⟨.int .u8 k,UInt8.ofNat k.toNat,?_,.one (.int ..) rfl⟩
 unfold ByteR
 rw [UInt8.toNat_ofNat']
 congr 1
 omega
theorem All2.bytes {vs : List AV} {l : List UInt8} (h : All2 ByteR vs l) : vs = B l := by
 induction h with
 | nil=>rfl
 | cons h r ih=>rw [h,ih]; rfl
def BytesR (v : AV) (l : List UInt8) : Prop := ((l = [] ∧ v = .nilsl) ∨ ∃ b,v = .sl (.stat b) 1 (B l)) ∧ l.length ≤ 2 ^ 47
set_option maxRecDepth 20000 in
theorem bytes_rel {H : Type} {enc : TypeId × Value → H} {w : World} {n : Nat} {cs : List Value} {x : DataW H × List MemPlace} (h : DataW.trod enc Tryz.prog w 0 (fun _ => true) true n 22 cs = some x) (hw : WtOk 22 x.1) : ∃ v o,BytesR v o ∧ CellsV w v cs := by
 obtain ⟨v,os,h1,h2,h3⟩:=slice_rel (sz:=1) ByteR Tryz.underlying22 (by kernel_rfl) (by omega) (of_decide_eq_true (by kernel_rfl)) (fun n cs' d q h _=>byte_rel h) h hw
 refine ⟨v,os,⟨?_,h3⟩,h1⟩
 rcases h2 with h2 | ⟨vs,rfl,h4⟩
 ·exact .inl h2
 ·exact .inr ⟨false,by rw [h4.bytes]⟩
end Go.Proofs.YthejpoplbllcbaaGreatDoor
set_option linter.unusedSimpArgs false
set_option linter.unusedVariables false
namespace Go
open Go.ChangeShapes Go.WideShapes Go.ChangeAt Go.RowKit
theorem returnsInHanded_of_change_and_shaped {H : Type} {enc : TypeId × Value → H} {a : Assume} {C : Checked} {os : Os} {f : FuncId} {fn : Func} {s : ChangeSpec} {conds : List PathCond} {apart fresh handsOn again : Bool} {X : World → Array Value → Prop}
  (hX : ∀ (w w' : World) (args : Array Value),w.heap = w'.heap → X w args → X w' args)
  (own : ownKnob C.prog.godebug = none) (started : os.Started) (noInit : C.prog.inits.idxOf? f = none) (hfn : C.prog.funcs[f]? = some fn)
  (witness : ∃ (w : World) (tape : Tape) (i : Input),w.os = os ∧ (w.forCall tape i).Shaped C.prog ∧ i.vars = [] ∧ Input.okWide C.prog (w.forCall tape i) .any w.heap.size f i ∧
   ((s.pre enc C.prog fn conds apart (w.forCall tape i).memory i.args ∧ X (w.forCall tape i).memory i.args) ∧ sizedMet enc C.prog fn (OpenSpec.ofChange s) apart (w.forCall tape i).memory i.args) ∧ a.holds C.prog (lone (Frame.enter C.prog f i.args .normal) [] (w.forCall tape i)))
  (contract : ∀ (W : World) (base : Nat) (args : Array Value) (ds gs : List (DataW H)) (before : List MemPlace),
   (∀ (j : Nat) t v,fn.params[j]? = some t → args[j]? = some v → Value.okWide C.prog W .any base t v) →
   DataW.Whole enc C.prog fn.params.toList s.vars apart W args.toList ds gs before → (DataW.weightsEach C.prog (fn.params.toList ++ s.plain.varTypes C.prog) (ds ++ gs)).all (· ≤ reachBytes) = true → W.ShapedOpen C.prog → X W args →
   Calls C.prog f args W fun e W'=>∃ v,e = .returned v ∧ s.post enc C.prog fn apart fresh handsOn again W args v W') :
  ReturnsInHanded a C os f .any (fun w args=>(s.pre enc C.prog fn conds apart w args ∧ X w args) ∧ sizedMet enc C.prog fn (OpenSpec.ofChange s) apart w args) (s.post enc C.prog fn apart fresh handsOn again):=by
 refine returnsInHanded_of_calls own started noInit witness ?_
 intro w tape i _ hsh _ hok hpre hholds
 obtain ⟨_,_,_,fn',hfn',_,_,_,_,hval⟩:=hok
 have e : fn' = fn:=Option.some.inj (hfn'.symm.trans hfn)
 subst e
 obtain ⟨⟨⟨ds,gs,before,hw,hc⟩,hx⟩,hz⟩:=hpre
 have hw':=DataW.Whole.of_heap (w':=w.forCall tape i) (by rfl) hw
 refine (contract (w.forCall tape i) w.heap.size i.args ds gs before hval hw' (hz.weights hw) hsh (hX _ _ _ (by rfl) hx)).mono fun e W' ⟨v,he,hp⟩=>?_
 subst he
 exact ChangeSpec.post_blind hp
theorem cells_of_strs {H : Type} {enc : TypeId × Value → H} {P : Program} {w : World} {base : Nat} {sp : Nat → Bool} {held : Bool} {fuel : Nat} {t e : TypeId} {n : Nat} {cs : List Value} {ls : List (List UInt8)} {p : List MemPlace}
  (ht : P.underlying t = some (.array n e)) (he : P.underlying e = some .string) (hce : P.cellsOf e = 1) (hct : P.cellsOf t = n)
  (h : DataW.trod enc P w base sp held fuel t cs = some (.agg (ls.map fun l=>.lit (.string l)),p)) : cs = ls.map fun l=>Value.string ⟨l.toArray⟩:=by
 cases fuel with
 | zero=>simp [DataW.trod] at h
 | succ fuel =>
  simp only [DataW.trod,ht,hce,hct,Nat.mul_one] at h
  split at h
  ·rename_i hl
   obtain ⟨xs,hm,hx⟩:=Option.map_eq_some_iff.1 h
   have hxs : xs.map (·.1) = ls.map fun l=>(DataW.lit (.string l) : DataW H):=by
    have:=congrArg Prod.fst hx
    simpa using this
   have hxl : xs.length = n:=by simpa using Lib.mapM_length hm
   have hzl : ls.length = n:=by
    have:=congrArg List.length hxs
    simp at this
    omega
   apply List.ext_getElem?
   intro i
   by_cases hi : i < n
   ·obtain ⟨b,hb,hf⟩:=Lib.mapM_at hm i i (by simp [hi])
    obtain ⟨s,hc,rfl,_⟩:=DataW.trod_string he hf
    have h1 : cs[i]? = some (.string s):=by
     have:=congrArg (·[0]?) hc
     simpa [List.getElem?_take,List.getElem?_drop] using this
    have h2 : (xs.map (·.1))[i]? = some (DataW.lit (.string s.data.toList) : DataW H):=by simp [hb]
    rw [hxs] at h2
    simp only [List.getElem?_map,Option.map_eq_some_iff,DataW.lit.injEq,Lit.string.injEq] at h2
    obtain ⟨l,hl1,hl2⟩:=h2
    simp [h1,hl1,hl2]
   ·rw [List.getElem?_eq_none (by omega),List.getElem?_eq_none (by simp; omega)]
  ·cases h
theorem perm_image {α β : Type} {f : α → β} : ∀ {l : List β} {T : List α},l.Perm (T.map f) → ∃ l' : List α,l'.Perm T ∧ l = l'.map f
 | l,T,h=>by
  generalize hm : T.map f = m at h
  induction h generalizing T with
  | nil =>
   cases T with
   | nil=>exact ⟨[],.refl _,rfl⟩
   | cons a t=>cases hm
  | cons x h ih =>
   cases T with
   | nil=>cases hm
   | cons a t =>
    simp only [List.map_cons,List.cons.injEq] at hm
    obtain ⟨rfl,hm⟩:=hm
    obtain ⟨l',h1,rfl⟩:=ih t hm
    exact ⟨a :: l',.cons _ h1,rfl⟩
  | swap x y l =>
   match T,hm with
   | a :: b :: t,hm =>
    simp only [List.map_cons,List.cons.injEq] at hm
    obtain ⟨rfl,rfl,rfl⟩:=hm
    exact ⟨b :: a :: t,.swap ..,rfl⟩
  | trans h1 h2 ih1 ih2 =>
   obtain ⟨l2,p2,rfl⟩:=ih2 T hm
   obtain ⟨l1,p1,rfl⟩:=ih1 l2 rfl
   exact ⟨l1,p1.trans p2,rfl⟩
end Go
namespace Go.Proofs.YthejpoplbllcbaaGreatDoor
open Go Go.Abs Go.RowKit
theorem own : ownKnob Tryz.prog.godebug = none := by kernel_rfl
abbrev LAID : List (String × DataW Unit) := [("unicode.White_Space", Rows.laid_unicode_White_Space), ("strings.asciiSpace", Rows.laid_strings_asciiSpace), ("mortise/bin.bytesOf", Rows.laid_mortise_bin_bytesOf), ("mortise/bin.plain", Rows.laid_mortise_bin_plain), ("mortise/bin.numbered", Rows.laid_mortise_bin_numbered)]
def toD (p : UInt8 × W) : Lit × DataW Unit := (.int .u8 (p.1.toNat : Int),.agg [.lit (.int .i64 p.2.op),.lit (.int .i64 p.2.ty),.lit (.int .i64 p.2.n),.lit (.int .i64 p.2.body),.lit (.int .i64 p.2.other),.lit (.string p.2.name)])
def valW (w : W) : List Value := [.int .i64 w.op,.int .i64 w.ty,.int .i64 w.n,.int .i64 w.body,.int .i64 w.other,.string ⟨w.name.toArray⟩]
set_option maxRecDepth 20000 in
theorem wcells {w : World} {fuel : Nat} {cs : List Value} {o : W} {c : UInt8} {p : List MemPlace} (h : DataW.trod (fun _ => ()) Tryz.prog w 0 (fun _ => true) false fuel 73 cs = some ((toD (c,o)).2,p)) : cs = valW o := by
 obtain ⟨xs,n,rfl,hx,hlen,hxl,hf⟩:=DataW.trod_struct Tryz.underlying73 h
 have hxl' : xs.length = 6:=hxl
 have hlen' : cs.length = 6:=hlen.trans (by kernel_rfl)
 simp only [toD,Prod.mk.injEq,DataW.agg.injEq] at hx
 obtain ⟨hx,_⟩:=hx
 match cs,hlen' with
 | [a,b,c,d,e,f],_ =>
  have c9 : Tryz.prog.cellsOf 9 = 1:=by kernel_rfl
  have c3 : Tryz.prog.cellsOf 3 = 1:=by kernel_rfl
  have key : ∀ (k : Nat) (v : Value) (m : Int) (hk : k < xs.length),(xs.map (·.1))[k]? = some (DataW.lit (.int .i64 m)) → DataW.trod (fun _=>()) Tryz.prog w 0 (fun _=>true) false n 3 [v] = xs[k]? → v = .int .i64 m:=fun k v m hk h1 h2=>by
   rw [List.getElem?_eq_getElem hk] at h2
   rw [List.getElem?_map,List.getElem?_eq_getElem hk] at h1
   simp only [Option.map_some,Option.some.injEq] at h1
   obtain ⟨z,e1,e2,_⟩:=DataW.trod_int Tryz.underlying3 h2
   rw [e2] at h1
   simp only [DataW.lit.injEq,Lit.int.injEq,true_and] at h1
   simp only [List.cons.injEq,and_true] at e1
   rw [e1,h1]
  have f0 : DataW.trod (fun _=>()) Tryz.prog w 0 (fun _=>true) false n 3 [a] = xs[0]?:=by
   have h : DataW.trod (fun _=>()) Tryz.prog w 0 (fun _=>true) false n 3 ((([a,b,c,d,e,f] : List Value).drop 0).take (Tryz.prog.cellsOf 3)) = xs[0]?:=hf 0 _ rfl
   rw [c3] at h; exact h
  have f1 : DataW.trod (fun _=>()) Tryz.prog w 0 (fun _=>true) false n 3 [b] = xs[1]?:=by
   have h : DataW.trod (fun _=>()) Tryz.prog w 0 (fun _=>true) false n 3 ((([a,b,c,d,e,f] : List Value).drop 1).take (Tryz.prog.cellsOf 3)) = xs[1]?:=hf 1 _ rfl
   rw [c3] at h; exact h
  have f2 : DataW.trod (fun _=>()) Tryz.prog w 0 (fun _=>true) false n 3 [c] = xs[2]?:=by
   have h : DataW.trod (fun _=>()) Tryz.prog w 0 (fun _=>true) false n 3 ((([a,b,c,d,e,f] : List Value).drop 2).take (Tryz.prog.cellsOf 3)) = xs[2]?:=hf 2 _ rfl
   rw [c3] at h; exact h
  have f3 : DataW.trod (fun _=>()) Tryz.prog w 0 (fun _=>true) false n 3 [d] = xs[3]?:=by
   have h : DataW.trod (fun _=>()) Tryz.prog w 0 (fun _=>true) false n 3 ((([a,b,c,d,e,f] : List Value).drop 3).take (Tryz.prog.cellsOf 3)) = xs[3]?:=hf 3 _ rfl
   rw [c3] at h; exact h
  have f4 : DataW.trod (fun _=>()) Tryz.prog w 0 (fun _=>true) false n 3 [e] = xs[4]?:=by
   have h : DataW.trod (fun _=>()) Tryz.prog w 0 (fun _=>true) false n 3 ((([a,b,c,d,e,f] : List Value).drop 4).take (Tryz.prog.cellsOf 3)) = xs[4]?:=hf 4 _ rfl
   rw [c3] at h; exact h
  have f5 : DataW.trod (fun _=>()) Tryz.prog w 0 (fun _=>true) false n 9 [f] = xs[5]?:=by
   have h : DataW.trod (fun _=>()) Tryz.prog w 0 (fun _=>true) false n 9 ((([a,b,c,d,e,f] : List Value).drop 5).take (Tryz.prog.cellsOf 9)) = xs[5]?:=hf 5 _ rfl
   rw [c9] at h; exact h
  have e0:=key 0 a o.op (by omega) (by rw [← hx]; rfl) f0
  have e1:=key 1 b o.ty (by omega) (by rw [← hx]; rfl) f1
  have e2:=key 2 c o.n (by omega) (by rw [← hx]; rfl) f2
  have e3:=key 3 d o.body (by omega) (by rw [← hx]; rfl) f3
  have e4:=key 4 e o.other (by omega) (by rw [← hx]; rfl) f4
  have e5 : f = .string ⟨o.name.toArray⟩:=by
   rw [List.getElem?_eq_getElem (by omega)] at f5
   have h1 : (xs.map (·.1))[5]? = some (DataW.lit (.string o.name)):=by rw [← hx]; rfl
   rw [List.getElem?_map,List.getElem?_eq_getElem (by omega)] at h1
   simp only [Option.map_some,Option.some.injEq] at h1
   obtain ⟨z,e1,e2,_⟩:=DataW.trod_string Tryz.underlying9 f5
   rw [e2] at h1
   simp only [DataW.lit.injEq,Lit.string.injEq] at h1
   simp only [List.cons.injEq,and_true] at e1
   rw [e1,← h1]
  rw [e0,e1,e2,e3,e4,e5]
  rfl
theorem key_of {v : Value} {n : Int} (h : keyOf Tryz.prog 5 v = some (.int .u8 n)) : v = .int .u8 n := by
 simp only [keyOf,mapKey,Tryz.underlying5] at h
 cases v <;> simp at h
 obtain ⟨⟨rfl,_⟩,rfl⟩:=h
 rfl
theorem formed_of {v : Value} (h : v.formed Tryz.prog 73 = true) : ∃ A,v = .agg A := by
 cases v <;> simp [Value.formed,Tryz.underlying73] at h
 exact ⟨_,rfl⟩
set_option maxRecDepth 20000 in
theorem map_of {w : World} {fuel : Nat} {cs : List Value} {p : List MemPlace} {T : List (UInt8 × W)} {L : List (Lit × DataW Unit)} (hT : L.Perm (T.map toD)) (h : DataW.trod (fun _ => ()) Tryz.prog w 0 (fun _ => true) false fuel 125 cs = some (.map L,p)) :
  ∃ (l : List (UInt8 × W)) (b : Nat) (es : Array MapEntry) (clock : Nat),l.Perm T ∧ cs = [.map (some b)] ∧ w.heap[b]? = some (.map es clock) ∧ MapR (keysA l) (valsA l) es clock:=by
 cases fuel with
 | zero=>simp [DataW.trod] at h
 | succ n =>
  have h0:=h
  rw [DataW.trod_step] at h
  unfold DataW.trodStep at h
  rw [Tryz.underlying125] at h
  split at h <;> simp_all
  rename_i b _
  rw [DataW.trod_step] at h0
  unfold DataW.trodStep at h0
  cases hb : w.heap[b]? with
  | none=>simp [Tryz.underlying125,hb] at h0
  | some o =>
   cases o
   case map es clock =>
    simp only [Tryz.underlying125,hb] at h0
    split at h0
    ·rename_i hc
     simp only [Option.bind_eq_some_iff] at h0
     obtain ⟨entries,he,h3⟩:=h0
     split at h3
     ·simp only [Option.some.injEq,Prod.mk.injEq,DataW.map.injEq] at h3
      obtain ⟨h3,_⟩:=h3
      have hp : (entries.map (·.1)).Perm (T.map toD):=(WideShapes.sorted_perm _).symm.trans (by rw [h3]; exact hT)
      obtain ⟨l,hl,hle⟩:=perm_image hp
      have hlen : entries.length = es.size:=by rw [Lib.mapM_length he]; simp
      have hll : l.length = es.size:=by
       have:=congrArg List.length hle
       simp at this
       omega
      have ent : ∀ i (hi : i < es.size),es[i].key = .int .u8 ((l[i]'(by omega)).1.toNat : Int) ∧ ∃ A,es[i].val = .agg A ∧ A.toList = valW (l[i]'(by omega)).2:=fun i hi=>by
       obtain ⟨y,h1,h2⟩:=Lib.mapM_at he i es[i] (by simp [hi])
       have h3 : (entries.map (·.1))[i]? = some y.1:=by rw [List.getElem?_map,h1]; rfl
       rw [hle,List.getElem?_map,List.getElem?_eq_getElem (by omega)] at h3
       simp only [Option.map_some,Option.some.injEq] at h3
       rw [Option.bind_eq_some_iff] at h2
       obtain ⟨key,k1,k2⟩:=h2
       split at k2
       ·rename_i hfm
        rw [Option.map_eq_some_iff] at k2
        obtain ⟨z,z1,rfl⟩:=k2
        obtain ⟨A,hA⟩:=formed_of hfm
        simp only at h3
        have q1 : key = .int .u8 ((l[i]'(by omega)).1.toNat : Int):=(congrArg Prod.fst h3).symm
        have q2 : z.1 = (toD l[i]).2:=(congrArg Prod.snd h3).symm
        rw [q1] at k1
        refine ⟨key_of k1,A,hA,?_⟩
        rw [hA] at z1
        obtain ⟨z1a,z1b⟩:=z
        simp only at q2
        subst q2
        exact wcells (c:=l[i].1) z1
       ·cases k2
      refine ⟨l,hl,es,clock,rfl,⟨by simp [keysA,hll],by simp [keysA,valsA],fun i h1 h2=>?_,fun i h1 h2=>?_,fun i hi=>?_,fun i j hi hj e=>?_⟩⟩
      ·obtain ⟨e1,_⟩:=ent i h2
       rw [e1]
       simp only [keysA,List.getElem_map]
       exact .int ..
      ·obtain ⟨_,A,e1,e2⟩:=ent i h2
       rw [e1]
       simp only [valsA,List.getElem_map,W.av]
       have hs : A.size = 6:=by rw [← Array.length_toList,e2]; rfl
       refine .agg _ A (by rw [hs]; rfl) fun j g1 g2=>?_
       have g3 : A[j] = A.toList[j]'(by simpa using g2):=by simp
       rw [g3]
       simp only [e2]
       clear g3
       rcases j with _ | _ | _ | _ | _ | _ | j
       ·exact .int ..
       ·exact .int ..
       ·exact .int ..
       ·exact .int ..
       ·exact .int ..
       ·exact At.str ⟨(l[i]'(by omega)).2.name.toArray⟩
       ·exact absurd g1 (by simp [W.cs])
      ·have:=Array.all_eq_true.1 hc.2.2.1 i hi
       simpa using this
      ·have hnd:=ChangeMaps.nodup_of_eraseDups _ (by rw [hc.2.2.2]; simp)
       have:=List.getElem_inj (h₀:=by simpa using hi) (h₁:=by simpa using hj) hnd (i:=i) (j:=j)
       simp at this
       exact this.1 e
     ·cases h3
    ·cases h0
   all_goals (simp [Tryz.underlying125,hb] at h0; done)
end Go.Proofs.YthejpoplbllcbaaGreatDoor
set_option linter.unusedSimpArgs false
set_option linter.unusedVariables false
namespace Go.Proofs.YthejpoplbllcbaaGreatDoor
open Go Go.Abs Go.RowKit
def GD (lp ln : List (UInt8 × W)) : Env where
 g:=fun x=>match x with | 0=>.pv (.stat true) (.agg [.str ones,.str twos]) | 1=>.pv (.stat true) (.mp (keysA lp) (valsA lp)) | 2=>.pv (.stat true) (.mp (keysA ln) (valsA ln)) | 3=>.pv (.stat true) (.agg spTab) | _=>.undef
 has:=fun _=>False
 y:=fun _ _ _ _ _=>False
 fix:=fun _=>none
structure WOk (lp ln : List (UInt8 × W)) (w : World) : Prop where
 g : GOk Tryz.prog (GD lp ln) (Mp.all w) AS.zero.F w
 p : lp.Perm plainT
 n : ln.Perm numT
theorem WOk.vars {lp ln w} (h : WOk lp ln w) : VarsB (GD lp ln) := ⟨rfl,⟨lp,h.p,rfl⟩,⟨ln,h.n,rfl⟩,rfl⟩
def spZ : List Int := (List.range 256).map fun c => if isSpB (UInt8.ofNat c) then 1 else 0
def plainS : List (UInt8 × W) := [(0x00,pw 17 0 0),(0x0F,pw 16 0 0),(0x1A,pw 18 0 0),(0x28,pw 8 1 4),(0x29,pw 8 2 8),(0x2C,pw 8 1 1),(0x36,pw 9 1 4),(0x37,pw 9 2 8),(0x3A,pw 9 1 1),(0x45,pw 5 1 0),(0x50,pw 5 2 0),(0xA7,pw 6 0 0),(0xAC,pw 7 0 0)]
def numS : List (UInt8 × W) := [(0x0C,pw 14 0 0),(0x0D,pw 15 0 0),(0x10,pw 10 0 0),(0x20,pw 2 0 0),(0x21,pw 3 0 0),(0x41,pw 1 1 0),(0x42,pw 1 2 0)]
set_option maxRecDepth 20000 in
theorem plain_perm : plainS.Perm plainT := by decide
set_option maxRecDepth 20000 in
theorem num_perm : numS.Perm numT := by decide
set_option maxRecDepth 100000 in
theorem wok_of_laid {W : World} (hl : laidMetH Tryz.prog LAID W) : ∃ lp ln,WOk lp ln W := by
 have hl0 : laidMet Tryz.prog LAID W:=hl
 obtain ⟨ps,⟨_,_,_,_,_,_,_,_,_,_,⟨g3,t3,cs3,fuel3,p3,q3,a1,a2,a3,a4,⟨g0,t0,cs0,fuel0,p0,q0,b1,b2,b3,b4,⟨g1,t1,cs1,fuel1,p1,q1,c1,c2,c3,c4,⟨g2,t2,cs2,fuel2,p2,q2,d1,d2,d3,d4,_⟩,_⟩,_⟩,_⟩,_⟩,_⟩:=hl0
 obtain rfl : 3 = g3 := Option.some.inj ((show Tryz.prog.globalNamed "strings.asciiSpace" = some 3 by kernel_rfl).symm.trans a1)
 obtain rfl : 0 = g0 := Option.some.inj ((show Tryz.prog.globalNamed "mortise/bin.bytesOf" = some 0 by kernel_rfl).symm.trans b1)
 obtain rfl : 1 = g1 := Option.some.inj ((show Tryz.prog.globalNamed "mortise/bin.plain" = some 1 by kernel_rfl).symm.trans c1)
 obtain rfl : 2 = g2 := Option.some.inj ((show Tryz.prog.globalNamed "mortise/bin.numbered" = some 2 by kernel_rfl).symm.trans d1)
 obtain rfl : 147 = t3:=Option.some.inj ((show (Tryz.prog.globals[3]?).map (·.type) = some 147 by kernel_rfl).symm.trans a2)
 obtain rfl : 122 = t0:=Option.some.inj ((show (Tryz.prog.globals[0]?).map (·.type) = some 122 by kernel_rfl).symm.trans b2)
 obtain rfl : 125 = t1:=Option.some.inj ((show (Tryz.prog.globals[1]?).map (·.type) = some 125 by kernel_rfl).symm.trans c2)
 obtain rfl : 125 = t2:=Option.some.inj ((show (Tryz.prog.globals[2]?).map (·.type) = some 125 by kernel_rfl).symm.trans d2)
 have e3 : cs3.toList = spZ.map fun z=>Value.int .u8 z:=Lib.cells_of_tab (n:=256) (e:=5) (k:=.u8) Tryz.underlying147 Tryz.underlying5 (by kernel_rfl) (by kernel_rfl) (zs:=spZ) (by have:=a4; exact this)
 have e0 : cs0.toList = [ones,twos].map fun l=>Value.string ⟨l.toArray⟩:=cells_of_strs (n:=2) (e:=9) Tryz.underlying122 Tryz.underlying9 (by kernel_rfl) (by kernel_rfl) (ls:=[ones,twos]) b4
 obtain ⟨lp,mb1,es1,k1,hp,hc1,hb1,hm1⟩:=map_of (T:=plainT) (L:=plainS.map toD) (plain_perm.map toD) c4
 obtain ⟨ln,mb2,es2,k2,hn,hc2,hb2,hm2⟩:=map_of (T:=numT) (L:=numS.map toD) (num_perm.map toD) d4
 have cell : ∀ (nm : String) (g : Nat) (cs : Array Value),Tryz.prog.globalNamed nm = some g → W.var? Tryz.prog nm = some cs → ∀ j,W.cell? ⟨g,j,none⟩ = cs.toList[j]?:=fun nm g cs h1 h2 j=>by
  have:=World.var?_cell h1 h2 j
  rw [Array.getElem?_toList]
  simpa using this
 have v3:=cell _ 3 cs3 a1 a3
 have v0:=cell _ 0 cs0 b1 b3
 have v1:=cell _ 1 cs1 c1 c3
 have v2:=cell _ 2 cs2 d1 d3
 rw [e3] at v3
 rw [e0] at v0
 rw [hc1] at v1
 rw [hc2] at v2
 have sz : ∀ {g : Nat} {l : List Value} {v : Value},(∀ j,W.cell? ⟨g,j,none⟩ = l[j]?) → l[0]? = some v → g < W.heap.size:=fun h1 h2=>World.block_lt_of_cell? W _ ((h1 0).trans h2)
 have z3:=sz v3 (v:=.int .u8 0) rfl
 have z0:=sz v0 (v:=.string ⟨ones.toArray⟩) rfl
 have z1:=sz v1 (v:=.map (some mb1)) rfl
 have z2:=sz v2 (v:=.map (some mb2)) rfl
 have y1 : mb1 < W.heap.size:=(Array.getElem?_eq_some_iff.1 hb1).1
 have y2 : mb2 < W.heap.size:=(Array.getElem?_eq_some_iff.1 hb2).1
 refine ⟨lp,ln,⟨⟨fun x=>?_,fun _ h=>h.elim,fun B c h=>by cases h⟩,hp,hn⟩⟩
 match x with
 | 0 =>
  refine .pv _ _ 0 0 (fun j=>([ones,twos].map fun l=>Value.string ⟨l.toArray⟩).getD j undef) (by simp [Mem,Mp.all,z0]) (fun _ j hj=>?_) (fun _ j hj=>?_)
  ·have hj' : j < 2:=hj
   rw [Nat.zero_add,v0 j]
   rcases j with _ | _ | j
   ·rfl
   ·rfl
   ·omega
  ·have hj' : j < 2:=hj
   rcases j with _ | _ | j
   ·exact .str ⟨ones.toArray⟩
   ·exact .str ⟨twos.toArray⟩
   ·omega
 | 1 =>
  refine .pv _ _ 1 0 (fun j=>.map (some mb1)) (by simp [Mem,Mp.all,z1]) (fun _ j hj=>?_) (fun _ j hj=>?_)
  ·have hj' : j = 0:=by simpa using hj
   subst hj'
   exact v1 0
  ·have hj' : j = 0:=by simpa using hj
   subst hj'
   exact .mp _ _ mb1 es1 k1 (by simp [Mp.all,y1]) hb1 hm1
 | 2 =>
  refine .pv _ _ 2 0 (fun j=>.map (some mb2)) (by simp [Mem,Mp.all,z2]) (fun _ j hj=>?_) (fun _ j hj=>?_)
  ·have hj' : j = 0:=by simpa using hj
   subst hj'
   exact v2 0
  ·have hj' : j = 0:=by simpa using hj
   subst hj'
   exact .mp _ _ mb2 es2 k2 (by simp [Mp.all,y2]) hb2 hm2
 | 3 =>
  have hl : spTab = spZ.map (AV.int .u8):=by simp [spTab,spZ]
  refine .pv _ _ 3 0 (fun j=>(spZ.map fun z=>Value.int .u8 z).getD j undef) (by simp [Mem,Mp.all,z3]) (fun _ j hj=>?_) (fun _ j hj=>?_)
  ·have hj' : j < (spZ.map fun z=>Value.int .u8 z).length:=by
    have : j < spTab.length:=hj
    rw [hl] at this
    simpa using this
   rw [Nat.zero_add,v3 j,List.getD_eq_getElem?_getD,List.getElem?_eq_getElem hj']
   rfl
  ·have hj' : j < spZ.length:=by
    have : j < spTab.length:=hj
    rw [hl] at this
    simpa using this
   have : ((AV.agg spTab).cells[j]'hj) = .int .u8 spZ[j]:=by simp [AV.cells,hl]
   rw [this,List.getD_eq_getElem?_getD,List.getElem?_map,List.getElem?_eq_getElem hj']
   exact .int ..
 | n + 4=>exact .undef _
theorem cells1 {M F w} {x : AV} {c : Value} (h : VR M F w x c) : Cells M F w [x] #[c] := ⟨rfl,fun j v hj => by
 match j with
 | 0=>simp at hj; subst hj; exact ⟨c,rfl,h⟩
 | j + 1=>simp at hj⟩
noncomputable def laidWorld (os : Os) : World := World.doorLaid Tryz.prog 189 os
theorem laid_met (os : Os) (args : Array Value) : laidMetH Tryz.prog LAID ((laidWorld os).forCall (fun _ _ => 0) ⟨#[],args,[]⟩).memory :=
 show laidMet Tryz.prog LAID _ from laidMet_of_run' 8 (by kernel_rfl) (by kernel_rfl)
end Go.Proofs.YthejpoplbllcbaaGreatDoor
set_option linter.unusedSimpArgs false
set_option linter.unusedVariables false
namespace Go.Proofs.YthejpoplbllcbaaGreatDoor
open Go Go.Abs Go.RowKit Go.ChangeShapes Go.WideShapes Go.ChangeAt
theorem laidOut : laidOutB Tryz.prog = true := by kernel_rfl
theorem gd_still (lp ln : List (UInt8 × W)) : ∀ k,Still ((GD lp ln).g k)
 | 0=>.pv _ _ fun c hc=>by
  simp only [AV.cells,List.mem_cons,List.not_mem_nil,or_false] at hc
  rcases hc with rfl | rfl <;> exact .str _
 | 1=>.pv _ _ fun c hc=>by
  simp only [AV.cells,List.mem_singleton] at hc
  subst hc
  exact .mp _ _
 | 2=>.pv _ _ fun c hc=>by
  simp only [AV.cells,List.mem_singleton] at hc
  subst hc
  exact .mp _ _
 | 3=>.pv _ _ fun c hc=>by
  simp only [AV.cells,spTab,List.mem_map] at hc
  obtain ⟨x,_,rfl⟩:=hc
  exact .int _ _
 | n + 4=>.undef
end Go.Proofs.YthejpoplbllcbaaGreatDoor
