/- Parts of the proof of the row BinMakes: contracts of functions, each under the conditions that its theorem names. -/
import Derived.Test.YthejpoplbllcbaaGreatDoorZB
import Derived.Test.YthejpoplbllcbaaGreatDoorAbsB
import Derived.Test.YthejpoplbllcbaaGreatDoorTie
import Derived.ProofKit
import Derived.OpenShut
import Derived.ChangeOld
import Derived.ChangeSame
import Derived.ChangeVars
import Derived.Test.YthejpoplbllcbaaGreatDoorZA
import Derived.Test.YthejpoplbllcbaaGreatDoorShelf
import Derived.Test.YthejpoplbllcbaaGreatDoorRows
import Derived.Lib.LaidTab
import Derived.LaidLaws
import Derived.LaidHandle
import Derived.ShapedOpen
import Derived.Lay
import Derived.LaidMore
import Derived.Deep.DeepHandedRow
import Derived.Deep.DeepWitnessRowRef
import Derived.Test.YthejpoplbllcbaaGreatDoorCards
set_option linter.unusedSimpArgs false
set_option linter.unusedVariables false
set_option linter.unusedSimpArgs false
set_option linter.unusedVariables false
namespace Go.Proofs.YthejpoplbllcbaaGreatDoor
open Go Go.Abs
theorem flat_take (l : List (List UInt8)) (i : Nat) : (l.take i).flatten.length ≤ l.flatten.length := by
 rw [sumB_flat,sumB_flat]
 exact sumB_le l i
theorem numsF_at : ∀ (fs : List F) (i : Int) (n : Nat),n < fs.length → (numsF i fs)[n]? = some (uI (i + n))
 | [],_,n,h=>by simp at h
 | f :: fs,i,0,_=>by simp [numsF]
 | f :: fs,i,n + 1,h=>by
  simp only [numsF,List.getElem?_cons_succ]
  rw [numsF_at fs (i + 1) n (by simpa using h)]
  congr 2
  omega
theorem namesF_at : ∀ (fs : List F) (i : Int) (n : Nat) (f : F),fs[n]? = some f → (namesF i fs)[n]? = some (uI (i + n) ++ sizedL f.name)
 | [],_,n,f,h=>by simp at h
 | g :: fs,i,0,f,h=>by simp at h; subst h; simp [namesF]
 | g :: fs,i,n + 1,f,h=>by
  simp only [namesF,List.getElem?_cons_succ]
  rw [namesF_at fs (i + 1) n f (by simpa using h)]
  congr 3
  omega
theorem flat_next {l : List (List UInt8)} {i : Nat} {x : List UInt8} (h : l[i]? = some x) : (l.take (i + 1)).flatten = (l.take i).flatten ++ x := by
 rw [List.take_add_one,h]
 simp
structure SzE (m : M) (codes : List (List UInt8)) : Prop where
 heads : (headsL m.funcs).flatten.length ≤ 2 ^ 37
 nums : (numsF 3 m.funcs).flatten.length ≤ 2 ^ 37
 codes : codes.flatten.length ≤ 2 ^ 37
 names : (namesF 3 m.funcs).flatten.length ≤ 2 ^ 37
def EnQ (σ : AS) (fs : List F) (codes : List (List UInt8)) (oc : List AV) (a : Nat → AV) (τ : AS) : Prop := ∃ (i : Nat) (T : Nat → Nat),i ≤ fs.length ∧ a 1 = .ptr σ.no 0 ∧ a 3 = .int .i64 (fs.length : Int) ∧ a 8 = .int .i64 (i : Int) ∧ LitT T 1 σ τ (a 4) (uI ((fs.length : Int) + 3) ++ ((headsL fs).take (i + 3)).flatten) ∧ LitT T 2 σ τ (a 5) (uI fs.length ++ ((numsF 3 fs).take i).flatten) ∧
 LitT T 3 σ τ (a 6) (uI fs.length ++ (codes.take i).flatten) ∧ LitT T 4 σ τ (a 7) (uI fs.length ++ ((namesF 3 fs).take i).flatten) ∧ FreshT T τ ∧ Adds σ τ ∧ σ.no < τ.no ∧ τ.objs σ.no = some oc
theorem Beside.adds {T T' i σ τ τ'} (h : Beside T T' i σ τ τ') {j : Nat} {w z} (h1 : 1 ≤ j) (h2 : j ≠ i) (hw : LitT T j σ τ w z) : LitT T' j σ τ' w z := h j w z h1 h2 hw
section
variable {G : Env} {σ : AS} {R : Out → AS → Prop}
theorem funcE_body {fs : List F} {codes : List (List UInt8)} {fsv : AV} {mem mn : Int} (hfs : Al.FsO σ fsv fs) (hlen : fs.length ≤ 2 ^ 30) (hsz : ∀ f ∈ fs,SzB f) (hty : ∀ f ∈ fs,typedF f = true) (hc : codesF fs = some codes) (hse : SzE ⟨fs,mem,mn⟩ codes)
  (fin : ∀ a τ,(∃ T,a 1 = .ptr σ.no 0 ∧ LitT T 1 σ τ (a 4) (rowL (headsL fs)) ∧ LitT T 2 σ τ (a 5) (rowL (numsF 3 fs)) ∧ LitT T 3 σ τ (a 6) (rowL codes) ∧ LitT T 4 σ τ (a 7) (rowL (namesF 3 fs)) ∧ FreshT T τ ∧ Adds σ τ ∧ σ.no < τ.no ∧ τ.objs σ.no = some [fsv,.int .i64 mem,.int .i64 mn]) → avc Tryz.prog G 156 pc22_r2 (afin Tryz.prog [.tmp 2] R) a τ)
  {a : Nat → AV} {τ : AS} (hI : EnQ σ fs codes [fsv,.int .i64 mem,.int .i64 mn] a τ) :
  avc Tryz.prog G 156 pc22_l1 (athen (fun a' σ'=>EnQ σ fs codes [fsv,.int .i64 mem,.int .i64 mn] a' σ' ∧ MU 8 (fs.length + 1) a' σ' < MU 8 (fs.length + 1) a τ) (ablock 0 (athen (avc Tryz.prog G 156 pc22_r2 (afin Tryz.prog [.tmp 2] R)) (afin Tryz.prog [.tmp 2] R)))) a τ:=by
 obtain ⟨i,T,hi,a1,a3,a8,l1,l2,l3,l4,hT,hA,hno,ho⟩:=hI
 have hcl:=codesF_len hc
 have b1:=flat_take (headsL fs) (i + 3)
 have b2:=flat_take (numsF 3 fs) i
 have b3:=flat_take codes i
 have b4:=flat_take (namesF 3 fs) i
 have c1:=hse.heads
 have c2:=hse.nums
 have c3:=hse.codes
 have c4:=hse.names
 simp only at c1 c2 c4
 have u1:=uI_len ((fs.length : Int) + 3)
 have u2:=uI_len (fs.length : Int)
 have f1:=hfs.one
 by_cases hlt : i < fs.length
 ·have hlt' : (i : Int) < (fs.length : Int):=by omega
  obtain ⟨φ,rv,hrd,hv,hix⟩:=hfs.at hlt
  have hrd:=(hrd.keep hA).read
  have hmem:=List.getElem_mem hlt
  have hfi:=List.getElem?_eq_getElem hlt
  have hs:=hsz _ hmem
  have hy:=hty _ hmem
  obtain ⟨c,hcf,hcc⟩:=codesF_at hc hfi
  generalize fs[i] = f at *
  obtain ⟨pv,lv,tv,rfl,hpv,hlv,htv⟩:=hv
  have p1:=hpv.one
  have q1:=hlv.one
  have t1:=htv.one
  obtain ⟨ty1,ty2,ty3⟩:=typed_parts hy
  have w3 : IntKind.wrap .i64 ((i : Int) + 3) = (i : Int) + 3:=by rw [wrap_i64] <;> omega
  have w1 : IntKind.wrap .i64 ((i : Int) + 1) = ((i + 1 : Nat) : Int):=by rw [wrap_i64] <;> omega
  have hhd : (headsL fs)[i + 3]? = some (headL f.params f.type):=by simp [headsL,hfi]
  have hnm:=numsF_at fs 3 i hlt
  have hna:=namesF_at fs 3 i f hfi
  have hon : ¬ σ.no = τ.no:=by omega
  have A1 : Adds τ ((τ.newO [.str [],.nilsl,.nilsl,.int .i64 0,.nilsl]).setO τ.no [.str f.name,pv,lv,.int .i64 f.type,tv]):=.mk1
  have o1 : ((τ.newO [.str [],.nilsl,.nilsl,.int .i64 0,.nilsl]).setO τ.no [.str f.name,pv,lv,.int .i64 f.type,tv]).objs τ.no = some [.str f.name,pv,lv,.int .i64 f.type,tv]:=by simp
  have o2 : ((τ.newO [.str [],.nilsl,.nilsl,.int .i64 0,.nilsl]).setO τ.no [.str f.name,pv,lv,.int .i64 f.type,tv]).objs σ.no = some [fsv,.int .i64 mem,.int .i64 mn]:=by simp [hon,ho]
  have o3 : ((τ.newO [.str [],.nilsl,.nilsl,.int .i64 0,.nilsl]).setO τ.no [.str f.name,pv,lv,.int .i64 f.type,tv]).no = τ.no + 1:=by simp
  simp [pc22_l1,a1,a3,a8,hlt',ho,hix,hrd,splice,p1,q1,t1]
  generalize (τ.newO [.str [],.nilsl,.nilsl,.int .i64 0,.nilsl]).setO τ.no [.str f.name,pv,lv,.int .i64 f.type,tv] = τ1 at *
  have hA1:=hA.trans A1
  refine headE_calls (hpv.keep hA1) (by have:=hs.params; omega) ty1 (by omega) fun v2 τ2 h2=>?_
  have hA2:=hA1.trans h2.2
  have B2:=A1.trans h2.2
  have p2:=(h2.2.obj τ.no (by omega)).trans o1
  have r2:=(h2.2.obj σ.no (by omega)).trans o2
  have n2:=h2.2.no
  have fh:=flat_next hhd
  have fn:=flat_next hnm
  have fc:=flat_next hcc
  have fa:=flat_next hna
  have b1':=flat_take (headsL fs) (i + 3 + 1)
  have b2':=flat_take (numsF 3 fs) (i + 1)
  have b3':=flat_take codes (i + 1)
  have b4':=flat_take (namesF 3 fs) (i + 1)
  rw [fh,List.length_append] at b1'
  rw [fn,List.length_append] at b2'
  rw [fc,List.length_append] at b3'
  rw [fa,List.length_append] at b4'
  have hT2:=hT.keep B2
  simp
  refine srcT (by decide) (l1.keep B2) h2.byt hT2 hA2 (by rw [List.length_append]; omega) fun v3 τ3 T3 t3 hT3 hA3 e3 m3 bs3=>?_
  have s2:=bs3.adds (by decide) (by decide) (l2.keep B2)
  have s3:=bs3.adds (by decide) (by decide) (l3.keep B2)
  have s4:=bs3.adds (by decide) (by decide) (l4.keep B2)
  have p3:=(congrFun e3 τ.no).trans p2
  have r3:=(congrFun e3 σ.no).trans r2
  have k3:=t3.byt.one
  have k5:=s2.byt.one
  simp [k3,k5,a8,w3]
  -- numbers
  refine ru_calls (by omega) fun v4 τ4 h4=>?_
  have hA4:=hA3.trans h4.2
  have p4:=(h4.2.obj τ.no (by omega)).trans p3
  have r4:=(h4.2.obj σ.no (by omega)).trans r3
  have n4:=h4.2.no
  have hni : (3 : Int) + (i : Int) = (i : Int) + 3:=by omega
  rw [hni] at fn fa b2' b4'
  simp
  refine srcT (by decide) (s2.keep h4.2) h4.byt (hT3.keep h4.2) hA4 (by rw [List.length_append]; omega) fun v5 τ5 T5 t5 hT5 hA5 e5 m5 bs5=>?_
  have x1:=bs5.adds (by decide) (by decide) (t3.keep h4.2)
  have x3:=bs5.adds (by decide) (by decide) (s3.keep h4.2)
  have x4:=bs5.adds (by decide) (by decide) (s4.keep h4.2)
  have p5:=(congrFun e5 τ.no).trans p4
  have r5:=(congrFun e5 σ.no).trans r4
  have k5':=t5.byt.one
  have tl:=htv.len
  have wl : IntKind.wrap .i64 ((f.lists.length : Int) - 1) = (f.lists.length : Int) - 1:=by have:=hs.many; rw [wrap_i64] <;> omega
  unfold codeF at hcf
  rw [Option.map_eq_some_iff] at hcf
  obtain ⟨bl,hbl,rfl⟩:=hcf
  have hcl2 : (localsL f.locals ++ bl ++ [11]).length ≤ 2 ^ 37:=by
   have e : (sizedL (localsL f.locals ++ bl ++ [11])).length = (uI ((localsL f.locals ++ bl ++ [11]).length : Int)).length + (localsL f.locals ++ bl ++ [11]).length:=by unfold sizedL; rw [List.length_append]
   omega
  simp only [List.length_append,List.length_cons,List.length_nil] at hcl2
  simp [k5',p5,q1,tl,wl]
  -- code
  refine localsE_calls (hlv.keep hA5) hs.locals ty2 fun v6 τ6 h6=>?_
  have hA6:=hA5.trans h6.2
  have p6:=(h6.2.obj τ.no (by omega)).trans p5
  have r6:=(h6.2.obj σ.no (by omega)).trans r5
  have n6:=h6.2.no
  simp [p6,p1,q1,t1,tl,wl]
  refine listE_ok hs.rows hs.rg f.lists.length τ6 _ f pv lv tv _ bl rfl (hpv.keep hA6) (hlv.keep hA6) (htv.keep hA6) hbl (by omega) fun v7 τ7 h7=>?_
  have hA7:=hA6.trans h7.2
  have p7:=(h7.2.obj τ.no (by omega)).trans p6
  have r7:=(h7.2.obj σ.no (by omega)).trans r6
  have n7:=h7.2.no
  simp
  refine lit_src (h6.keep h7.2) h7.byt (by omega) fun v8 τ8 h8 e8 m8=>?_
  have k8:=h8.byt.one
  have p8:=(congrFun e8 τ.no).trans p7
  have r8:=(congrFun e8 σ.no).trans r7
  simp [k8]
  refine lit_grow (y:=[11]) h8 rfl (by simp; omega) fun v9 τ9 h9 e9 m9=>?_
  have k9:=h9.byt.one
  have p9:=(congrFun e9 τ.no).trans p8
  have r9:=(congrFun e9 σ.no).trans r8
  have kx3:=x3.byt.one
  simp [k9]
  refine sizedE_calls h9.byt (by simp; omega) fun v10 τ10 h10=>?_
  have B10:=h9.2.trans h10.2
  have hA10:=hA5.trans B10
  have p10:=(h10.2.obj τ.no (by omega)).trans p9
  have r10:=(h10.2.obj σ.no (by omega)).trans r9
  have n10:=h10.2.no
  simp
  refine srcT (by decide) (x3.keep B10) h10.byt (hT5.keep B10) hA10 (by rw [List.length_append]; omega) fun v11 τ11 T11 t11 hT11 hA11 e11 m11 bs11=>?_
  have y1:=bs11.adds (by decide) (by decide) (x1.keep B10)
  have y2:=bs11.adds (by decide) (by decide) (t5.keep B10)
  have y4:=bs11.adds (by decide) (by decide) (x4.keep B10)
  have p11:=(congrFun e11 τ.no).trans p10
  have r11:=(congrFun e11 σ.no).trans r10
  have k11:=t11.byt.one
  have ky4:=y4.byt.one
  simp [k11,ky4,a8,w3,p11]
  -- names
  refine ru_calls (by omega) fun v12 τ12 h12=>?_
  have hA12:=hA11.trans h12.2
  have p12:=(h12.2.obj τ.no (by omega)).trans p11
  have r12:=(h12.2.obj σ.no (by omega)).trans r11
  have n12:=h12.2.no
  simp [p12]
  refine srcT (by decide) (y4.keep h12.2) h12.byt (hT11.keep h12.2) hA12 (by rw [List.length_append] at b4' ⊢; omega) fun v13 τ13 T13 t13 hT13 hA13 e13 m13 bs13=>?_
  have z1:=bs13.adds (by decide) (by decide) (y1.keep h12.2)
  have z2:=bs13.adds (by decide) (by decide) (y2.keep h12.2)
  have z3:=bs13.adds (by decide) (by decide) (t11.keep h12.2)
  have p13:=(congrFun e13 τ.no).trans p12
  have r13:=(congrFun e13 σ.no).trans r12
  have k13:=t13.byt.one
  simp [p13]
  refine nameE_calls (by have:=hs.name; omega) fun v14 τ14 h14=>?_
  have hA14:=hA13.trans h14.2
  have r14:=(h14.2.obj σ.no (by omega)).trans r13
  have n14:=h14.2.no
  simp
  refine srcT (by decide) (t13.keep h14.2) h14.byt (hT13.keep h14.2) hA14 (by simp only [List.length_append] at b4' ⊢; omega) fun v15 τ15 T15 t15 hT15 hA15 e15 m15 bs15=>?_
  have z1':=bs15.adds (by decide) (by decide) (z1.keep h14.2)
  have z2':=bs15.adds (by decide) (by decide) (z2.keep h14.2)
  have z3':=bs15.adds (by decide) (by decide) (z3.keep h14.2)
  have r15:=(congrFun e15 σ.no).trans r14
  have k15:=t15.byt.one
  simp [k15,a8,w1]
  refine ⟨⟨i + 1,T15,hlt,by simp [a1],by simp [a3],by simp,?_,?_,?_,?_,hT15,hA15,by omega,r15⟩,?_⟩
  ·have e : i + 1 + 3 = i + 3 + 1:=by omega
   rw [e,fh]
   simpa using z1'
  ·rw [fn]
   simpa using z2'
  ·rw [fc]
   simpa using z3'
  ·rw [fa]
   simpa using t15
  ·simp only [MU,a8]
   simp
   omega
 ·have e : i = fs.length:=by omega
  subst e
  simp [pc22_l1,a3,a8]
  refine fin _ _ ⟨T,by simp [a1],?_,?_,?_,?_,hT,hA,hno,ho⟩
  ·have e1 : (headsL fs).take (fs.length + 3) = headsL fs:=List.take_of_length_le (by rw [headsL_len]; omega)
   rw [e1] at l1
   have e2 : ((headsL fs).length : Int) = (fs.length : Int) + 3:=by rw [headsL_len]; omega
   unfold rowL
   rw [e2]
   simpa using l1
  ·have e1 : (numsF 3 fs).take fs.length = numsF 3 fs:=List.take_of_length_le (by rw [numsF_len]; omega)
   rw [e1] at l2
   unfold rowL
   rw [numsF_len]
   simpa using l2
  ·have e1 : codes.take fs.length = codes:=List.take_of_length_le (by omega)
   rw [e1] at l3
   unfold rowL
   rw [hcl]
   simpa using l3
  ·have e1 : (namesF 3 fs).take fs.length = namesF 3 fs:=List.take_of_length_le (by rw [namesF_len]; omega)
   rw [e1] at l4
   unfold rowL
   rw [namesF_len]
   simpa using l4
end
end Go.Proofs.YthejpoplbllcbaaGreatDoor
set_option linter.unusedSimpArgs false
set_option linter.unusedVariables false
namespace Go.Proofs.YthejpoplbllcbaaGreatDoor
open Go Go.Abs
def ImQ (σ : AS) (n : Nat) (h4 h5 h6 h7 : List UInt8) (oc : List AV) (a : Nat → AV) (τ : AS) : Prop := ∃ (j : Nat) (T : Nat → Nat),j ≤ 3 ∧ a 1 = .ptr σ.no 0 ∧ a 12 = .sl (.stat true) 1 (wordsI.map AV.str) ∧ a 13 = .int .i64 (j : Int) ∧ LitT T 1 σ τ (a 4) h4 ∧ LitT T 2 σ τ (a 5) h5 ∧ LitT T 3 σ τ (a 6) h6 ∧ LitT T 4 σ τ (a 7) h7 ∧
 LitT T 5 σ τ (a 11) (3 :: (importsL.take j).flatten) ∧ FreshT T τ ∧ Adds σ τ ∧ σ.no < τ.no ∧ τ.objs σ.no = some oc
section
variable {G : Env} {σ : AS} {R : Out → AS → Prop}
theorem secK_calls {n : UInt8} {k : Int} {v : AV} {bs : List UInt8} (hk : k = (n.toNat : Int)) (hv : BytO σ v bs) (hl : bs.length < 2 ^ 40) (h : ∀ v' σ',LitB σ σ' v' (sectionL n bs) → R (.ret v') σ') : ACalls Tryz.prog G 56 [.int .i64 k,v] σ R := by
 subst hk
 exact sectionE_calls hv hl h
theorem importE_body {n : Nat} {h4 h5 h6 h7 : List UInt8} {oc : List AV} {a : Nat → AV} {τ : AS}
  (fin : ∀ a τ,(∃ T,a 1 = .ptr σ.no 0 ∧ LitT T 1 σ τ (a 4) h4 ∧ LitT T 2 σ τ (a 5) h5 ∧ LitT T 3 σ τ (a 6) h6 ∧ LitT T 4 σ τ (a 7) h7 ∧ LitT T 5 σ τ (a 11) (rowL importsL) ∧ FreshT T τ ∧ Adds σ τ ∧ σ.no < τ.no ∧ τ.objs σ.no = some oc) → avc Tryz.prog G 156 pc22_r1 (afin Tryz.prog [.tmp 2] R) a τ)
  (hI : ImQ σ n h4 h5 h6 h7 oc a τ) :
  avc Tryz.prog G 156 pc22_l2 (athen (fun a' σ'=>ImQ σ n h4 h5 h6 h7 oc a' σ' ∧ MU 13 4 a' σ' < MU 13 4 a τ) (ablock 2 (athen (avc Tryz.prog G 156 pc22_r1 (afin Tryz.prog [.tmp 2] R)) (afin Tryz.prog [.tmp 2] R)))) a τ:=by
 obtain ⟨j,T,hj,a1,a12,a13,l4,l5,l6,l7,l11,hT,hA,hno,ho⟩:=hI
 by_cases hlt : j < 3
 ·have hlt' : (j : Int) < 3:=by omega
  have w1 : IntKind.wrap .i64 ((j : Int) + 1) = ((j + 1 : Nat) : Int):=by rw [wrap_i64] <;> omega
  obtain ⟨w,c,hw,hi,hc,hwl⟩ : ∃ (w : List UInt8) (c : UInt8),wordsI[j]? = some w ∧ importsL[j]? = some (importL w c) ∧ IntKind.wrap .u8 (j : Int) = (c.toNat : Int) ∧ w.length ≤ 4:=by
   rcases j with _ | _ | _ | j
   ·exact ⟨_,0,rfl,rfl,rfl,by decide⟩
   ·exact ⟨_,1,rfl,rfl,rfl,by decide⟩
   ·exact ⟨_,2,rfl,rfl,rfl,by decide⟩
   ·omega
  have hw2 : (wordsI.map AV.str)[j]? = some (.str w):=by simp [hw]
  have hfl:=flat_next hi
  have k11:=l11.byt.one
  have hl3 : ((importsL.take j).flatten).length ≤ 60:=by
   have:=flat_take importsL j
   have e : importsL.flatten.length ≤ 60:=by decide
   omega
  have hsl : (sizedL w).length ≤ 20:=by have:=sized_len w; omega
  have henv : (sizedL [101,110,118]).length = 4:=by decide
  simp [pc22_l2,a1,a12,a13,hlt',k11,hw2]
  refine nameE_calls (by simp) fun v1 τ1 h1=>?_
  have hA1:=hA.trans h1.2
  have p1:=(h1.2.obj σ.no (by omega)).trans ho
  have n1:=h1.2.no
  simp
  refine srcT (by decide) (l11.keep h1.2) h1.byt (hT.keep h1.2) hA1 (by simp only [List.length_cons]; omega) fun v2 τ2 T2 t2 hT2 hA2 e2 m2 bs2=>?_
  have x4:=bs2.adds (by decide) (by decide) (l4.keep h1.2)
  have x5:=bs2.adds (by decide) (by decide) (l5.keep h1.2)
  have x6:=bs2.adds (by decide) (by decide) (l6.keep h1.2)
  have x7:=bs2.adds (by decide) (by decide) (l7.keep h1.2)
  have p2:=(congrFun e2 σ.no).trans p1
  simp [hw2]
  refine nameE_calls (by omega) fun v3 τ3 h3=>?_
  have hA3:=hA2.trans h3.2
  have p3:=(h3.2.obj σ.no (by omega)).trans p2
  have n3:=h3.2.no
  simp
  refine srcT (by decide) (t2.keep h3.2) h3.byt (hT2.keep h3.2) hA3 (by simp only [List.length_append,List.length_cons]; omega) fun v4 τ4 T4 t4 hT4 hA4 e4 m4 bs4=>?_
  have y4:=bs4.adds (by decide) (by decide) (x4.keep h3.2)
  have y5:=bs4.adds (by decide) (by decide) (x5.keep h3.2)
  have y6:=bs4.adds (by decide) (by decide) (x6.keep h3.2)
  have y7:=bs4.adds (by decide) (by decide) (x7.keep h3.2)
  have p4:=(congrFun e4 σ.no).trans p3
  have k4:=t4.byt.one
  simp [k4,a13,hc]
  refine growT (y:=[0,c]) (by decide) t4 rfl hT4 hA4 (by simp only [List.length_append,List.length_cons,List.length_nil]; omega) fun v5 τ5 T5 t5 hT5 hA5 e5 m5 bs5=>?_
  have z4:=bs5.adds (by decide) (by decide) y4
  have z5:=bs5.adds (by decide) (by decide) y5
  have z6:=bs5.adds (by decide) (by decide) y6
  have z7:=bs5.adds (by decide) (by decide) y7
  have p5:=(congrFun e5 σ.no).trans p4
  have k5:=t5.byt.one
  simp [k5,a13,w1]
  refine ⟨⟨j + 1,T5,hlt,by simp [a1],by simp [a12],by simp,by simpa using z4,by simpa using z5,by simpa using z6,by simpa using z7,?_,hT5,hA5,by omega,p5⟩,?_⟩
  ·rw [hfl]
   unfold importL
   simpa using t5
  ·simp only [MU,a13]
   simp
   omega
 ·have e : j = 3:=by omega
  subst e
  simp [pc22_l2,a13]
  refine fin _ _ ⟨T,by simp [a1],by simpa using l4,by simpa using l5,by simpa using l6,by simpa using l7,?_,hT,hA,hno,ho⟩
  have e1 : importsL.take 3 = importsL:=rfl
  rw [e1] at l11
  have e2 : rowL importsL = 3 :: importsL.flatten:=by decide
  rw [e2]
  simpa using l11
end
end Go.Proofs.YthejpoplbllcbaaGreatDoor
set_option linter.unusedSimpArgs false
set_option linter.unusedVariables false
namespace Go.Proofs.YthejpoplbllcbaaGreatDoor
open Go Go.Abs
theorem LitT.lit {T i σ τ v bs} (h : LitT T i σ τ v bs) (A : Adds σ τ) : LitB σ τ v bs := by
 rcases h with h | ⟨h1,h2⟩ | ⟨g,h1,h2,h3,h4,_⟩
 ·exact ⟨.inl h,A⟩
 ·exact ⟨.inr (.inl ⟨by rw [h1]; rfl,h2⟩),A⟩
 ·exact ⟨.inr (.inr ⟨g,h1,h2,h3,h4⟩),A⟩
section
variable {G : Env} {σ : AS} {R : Out → AS → Prop}
set_option maxRecDepth 20000 in
theorem encE_end {m : M} {codes : List (List UInt8)} {bs : List UInt8} {fsv : AV} (he : encM m = some bs) (hc : codesF m.funcs = some codes) (hl : bs.length ≤ 2 ^ 36) (hmem : -(2 ^ 63) ≤ m.memory ∧ m.memory < 2 ^ 63) (h : ∀ v σ',LitB σ σ' v bs → R (.ret v) σ')
  {a : Nat → AV} {τ : AS} {T : Nat → Nat} (a1 : a 1 = .ptr σ.no 0) (l4 : LitT T 1 σ τ (a 4) (rowL (headsL m.funcs))) (l5 : LitT T 2 σ τ (a 5) (rowL (numsF 3 m.funcs))) (l6 : LitT T 3 σ τ (a 6) (rowL codes)) (l7 : LitT T 4 σ τ (a 7) (rowL (namesF 3 m.funcs))) (l11 : LitT T 5 σ τ (a 11) (rowL importsL)) (hT : FreshT T τ) (hA : Adds σ τ) (hno : σ.no < τ.no) (ho : τ.objs σ.no = some [fsv,.int .i64 m.memory,.int .i64 m.main]) :
  avc Tryz.prog G 156 pc22_r1 (afin Tryz.prog [.tmp 2] R) a τ:=by
 unfold encM at he
 rw [hc] at he
 simp only [Option.map_some,Option.some.injEq] at he
 generalize hS1 : sectionL 1 (rowL (headsL m.funcs)) = S1 at he
 generalize hS2 : sectionL 2 (rowL importsL) = S2 at he
 generalize hS3 : sectionL 3 (rowL (numsF 3 m.funcs)) = S3 at he
 generalize hS5 : sectionL 5 [1,0,1] = S5 at he
 generalize hS6 : sectionL 6 ([1,127,0,65] ++ sI m.memory ++ [11]) = S6 at he
 generalize hS7 : sectionL 7 ([1] ++ sizedL [109,97,105,110] ++ [0] ++ uI (mainL m)) = S7 at he
 generalize hS10 : sectionL 10 (rowL codes) = S10 at he
 generalize hS0 : sectionL 0 (sizedL [110,97,109,101] ++ [1] ++ sizedL (rowL (namesF 3 m.funcs))) = S0 at he
 have hlen:=congrArg List.length he
 simp only [List.length_append] at hlen
 have sl : ∀ (n : UInt8) (b : List UInt8) S,sectionL n b = S → b.length ≤ S.length:=fun n b S e=>by
  rw [← e]
  unfold sectionL sizedL
  simp
  omega
 have z1:=sl _ _ _ hS1
 have z2:=sl _ _ _ hS2
 have z3:=sl _ _ _ hS3
 have z5:=sl _ _ _ hS5
 have z6:=sl _ _ _ hS6
 have z7:=sl _ _ _ hS7
 have z10:=sl _ _ _ hS10
 have z0:=sl _ _ _ hS0
 have hmag : magicL.length = 8:=rfl
 have k4:=l4.byt.one
 simp [pc22_r1,k4]
 refine secK_calls (n:=1) (by decide) l4.byt (by omega) fun v1 τ1 h1=>?_
 rw [hS1] at h1
 have hA1:=hA.trans h1.2
 have p1:=(h1.2.obj σ.no (by omega)).trans ho
 have n1:=h1.2.no
 simp
 refine litT (T:=T) (i:=6) (x:=magicL) h1.byt (by rw [← hS1]; unfold sectionL; simp) (hT.keep h1.2) hA1 (by omega) fun v2 τ2 T2 t2 hT2 hA2 e2 m2 bs2=>?_
 have a5:=bs2.adds (by decide) (by decide) (l5.keep h1.2)
 have a6:=bs2.adds (by decide) (by decide) (l6.keep h1.2)
 have a7:=bs2.adds (by decide) (by decide) (l7.keep h1.2)
 have a11:=bs2.adds (by decide) (by decide) (l11.keep h1.2)
 have p2:=(congrFun e2 σ.no).trans p1
 have k11:=a11.byt.one
 simp [k11]
 refine secK_calls (n:=2) (by decide) a11.byt (by omega) fun v3 τ3 h3=>?_
 rw [hS2] at h3
 have hA3:=hA2.trans h3.2
 have p3:=(h3.2.obj σ.no (by omega)).trans p2
 have n3:=h3.2.no
 simp
 refine srcT (by decide) (t2.keep h3.2) h3.byt (hT2.keep h3.2) hA3 (by rw [List.length_append]; omega) fun v4 τ4 T4 t4 hT4 hA4 e4 m4 bs4=>?_
 have b5:=bs4.adds (by decide) (by decide) (a5.keep h3.2)
 have b6:=bs4.adds (by decide) (by decide) (a6.keep h3.2)
 have b7:=bs4.adds (by decide) (by decide) (a7.keep h3.2)
 have p4:=(congrFun e4 σ.no).trans p3
 have q4:=t4.byt.one
 have k5:=b5.byt.one
 simp [q4,k5]
 -- 3,5
 refine secK_calls (n:=3) (by decide) b5.byt (by omega) fun v5 τ5 h5=>?_
 rw [hS3] at h5
 have hA5:=hA4.trans h5.2
 have p5:=(h5.2.obj σ.no (by omega)).trans p4
 have n5:=h5.2.no
 simp
 refine srcT (by decide) (t4.keep h5.2) h5.byt (hT4.keep h5.2) hA5 (by simp only [List.length_append]; omega) fun v6 τ6 T6 t6 hT6 hA6 e6 m6 bs6=>?_
 have c6:=bs6.adds (by decide) (by decide) (b6.keep h5.2)
 have c7:=bs6.adds (by decide) (by decide) (b7.keep h5.2)
 have p6:=(congrFun e6 σ.no).trans p5
 have q6:=t6.byt.one
 simp [q6]
 refine secK_calls (n:=5) (bs:=[1,0,1]) (by decide) (.inr ⟨.stat true,by simp [B],trivial⟩) (by simp) fun v7 τ7 h7=>?_
 rw [hS5] at h7
 have hA7:=hA6.trans h7.2
 have p7:=(h7.2.obj σ.no (by omega)).trans p6
 have n7:=h7.2.no
 simp
 refine srcT (by decide) (t6.keep h7.2) h7.byt (hT6.keep h7.2) hA7 (by simp only [List.length_append]; omega) fun v8 τ8 T8 t8 hT8 hA8 e8 m8 bs8=>?_
 have d6:=bs8.adds (by decide) (by decide) (c6.keep h7.2)
 have d7:=bs8.adds (by decide) (by decide) (c7.keep h7.2)
 have p8:=(congrFun e8 σ.no).trans p7
 have q8:=t8.byt.one
 have sI1:=sI_len m.memory
 simp [q8,a1,p8]
 -- 6
 refine rs_calls hmem fun v9 τ9 h9=>?_
 have n9:=h9.2.no
 simp
 refine lit_src (x:=[1,127,0,65]) ⟨.inl (by simp [B]),h9.2⟩ h9.byt (by simp; omega) fun v10 τ10 h10 e10 m10=>?_
 have q10:=h10.byt.one
 simp [q10]
 refine lit_grow (y:=[11]) h10 rfl (by simp; omega) fun v11 τ11 h11 e11 m11=>?_
 have q11:=h11.byt.one
 simp
 refine secK_calls (n:=6) (by decide) h11.byt (by simp; omega) fun v12 τ12 h12=>?_
 have B12:=h11.2.trans h12.2
 rw [hS6] at h12
 have hA12:=hA8.trans B12
 have p12:=(B12.obj σ.no (by omega)).trans p8
 have n12:=B12.no
 simp
 refine srcT (by decide) (t8.keep B12) h12.byt (hT8.keep B12) hA12 (by simp only [List.length_append]; omega) fun v13 τ13 T13 t13 hT13 hA13 e13 m13 bs13=>?_
 have f6:=bs13.adds (by decide) (by decide) (d6.keep B12)
 have f7:=bs13.adds (by decide) (by decide) (d7.keep B12)
 have p13:=(congrFun e13 σ.no).trans p12
 have q13:=t13.byt.one
 have uI1:=uI_len (mainL m)
 have hz4 : (sizedL [109,97,105,110]).length = 5:=by decide
 have hml : IntKind.wrap .i64 (m.main + 3) = mainL m:=rfl
 have hml2 : mainL m < 2 ^ 63:=(wrap_range (m.main + 3)).2
 simp [q13,a1,p13,hml]
 -- 7
 refine nameE_calls (by simp) fun v14 τ14 h14=>?_
 have n14:=h14.2.no
 have p14:=(h14.2.obj σ.no (by omega)).trans p13
 simp [p14,hml]
 refine lit_src (x:=[1]) ⟨.inl (by simp [B]),h14.2⟩ h14.byt (by simp only [List.length_cons,List.length_nil]; omega) fun v15 τ15 h15 e15 m15=>?_
 have q15:=h15.byt.one
 have p15:=(congrFun e15 σ.no).trans p14
 simp [q15,p15,hml]
 refine lit_grow (y:=[0]) h15 rfl (by simp only [List.length_append,List.length_cons,List.length_nil]; omega) fun v16 τ16 h16 e16 m16=>?_
 have q16:=h16.byt.one
 have p16:=(congrFun e16 σ.no).trans p15
 simp [q16,p16,hml]
 refine ru_calls hml2 fun v17 τ17 h17=>?_
 have n17:=h17.2.no
 simp
 refine lit_src (h16.keep h17.2) h17.byt (by simp only [List.length_append,List.length_cons,List.length_nil]; omega) fun v18 τ18 h18 e18 m18=>?_
 have q18:=h18.byt.one
 simp
 refine secK_calls (n:=7) (by decide) h18.byt (by simp only [List.length_append,List.length_cons,List.length_nil]; omega) fun v19 τ19 h19=>?_
 have B19:=h18.2.trans h19.2
 rw [hS7] at h19
 have hA19:=hA13.trans B19
 have p19:=(B19.obj σ.no (by omega)).trans p13
 have n19:=B19.no
 simp
 refine srcT (by decide) (t13.keep B19) h19.byt (hT13.keep B19) hA19 (by simp only [List.length_append]; omega) fun v20 τ20 T20 t20 hT20 hA20 e20 m20 bs20=>?_
 have g6:=bs20.adds (by decide) (by decide) (f6.keep B19)
 have g7:=bs20.adds (by decide) (by decide) (f7.keep B19)
 have q20:=t20.byt.one
 have k6:=g6.byt.one
 simp [q20,k6]
 -- 10
 refine secK_calls (n:=10) (by decide) g6.byt (by omega) fun v21 τ21 h21=>?_
 rw [hS10] at h21
 have hA21:=hA20.trans h21.2
 have n21:=h21.2.no
 simp
 refine srcT (by decide) (t20.keep h21.2) h21.byt (hT20.keep h21.2) hA21 (by simp only [List.length_append]; omega) fun v22 τ22 T22 t22 hT22 hA22 e22 m22 bs22=>?_
 have i7:=bs22.adds (by decide) (by decide) (g7.keep h21.2)
 have q22:=t22.byt.one
 have k7:=i7.byt.one
 have hz5 : (sizedL [110,97,109,101]).length = 5:=by decide
 have zn:=sized_len (rowL (namesF 3 m.funcs))
 have zn2 : (rowL (namesF 3 m.funcs)).length ≤ S0.length:=by
  simp only [List.length_append] at z0
  have : (rowL (namesF 3 m.funcs)).length ≤ (sizedL (rowL (namesF 3 m.funcs))).length:=by unfold sizedL; simp
  omega
 simp [q22,k7]
 -- 0
 refine nameE_calls (by simp) fun v23 τ23 h23=>?_
 have n23:=h23.2.no
 have q23:=h23.byt.one
 have i7b:=i7.keep h23.2
 simp
 refine lit_grow (y:=[1]) h23 rfl (by simp only [List.length_cons,List.length_nil]; omega) fun v24 τ24 h24 e24 m24=>?_
 have q24:=h24.byt.one
 simp [k7]
 refine sizedE_calls (i7.byt.keep h24.2) (by omega) fun v25 τ25 h25=>?_
 simp
 refine lit_src (h24.keep h25.2) h25.byt (by simp only [List.length_append,List.length_cons,List.length_nil]; omega) fun v26 τ26 h26 e26 m26=>?_
 have q26:=h26.byt.one
 simp
 refine secK_calls (n:=0) (by decide) h26.byt (by simp only [List.length_append,List.length_cons,List.length_nil]; omega) fun v27 τ27 h27=>?_
 have B27:=h26.2.trans h27.2
 rw [hS0] at h27
 have hA27:=hA22.trans B27
 simp
 refine srcT (by decide) (t22.keep B27) h27.byt (hT22.keep B27) hA27 (by simp only [List.length_append]; omega) fun v28 τ28 T28 t28 hT28 hA28 e28 m28 bs28=>?_
 have q28:=t28.byt.one
 simp [q28]
 refine h _ _ ?_
 have:=t28.lit hA28
 rw [← he]
 simpa using this
end
end Go.Proofs.YthejpoplbllcbaaGreatDoor
set_option linter.unusedSimpArgs false
set_option linter.unusedVariables false
namespace Go.Proofs.YthejpoplbllcbaaGreatDoor
open Go Go.Abs
section
variable {G : Env} {σ : AS} {R : Out → AS → Prop}
theorem encodeE_calls {m : M} {mv : AV} {bs : List UInt8} (hm : Al.MO σ mv m) (he : encM m = some bs) (hl : bs.length ≤ 2 ^ 36) (hn : m.funcs.length ≤ 2 ^ 30) (hsz : ∀ f ∈ m.funcs,SzB f) (hty : ∀ f ∈ m.funcs,typedF f = true) (hmem : -(2 ^ 63) ≤ m.memory ∧ m.memory < 2 ^ 63) (h : ∀ v σ',LitB σ σ' v bs → R (.ret v) σ') : ACalls Tryz.prog G 22 [mv] σ R := by
 obtain ⟨fsv,rfl,hfs⟩:=hm
 obtain ⟨codes,hc,hbs⟩:=encM_parts he
 have hse : SzE ⟨m.funcs,m.memory,m.main⟩ codes:=by
  have h2:=congrArg List.length hbs
  simp only [startL,endL,List.length_append,sectionL,sizedL,rowL,List.length_cons] at h2
  exact ⟨by show (headsL m.funcs).flatten.length ≤ _; omega,by show (numsF 3 m.funcs).flatten.length ≤ _; omega,by omega,by show (namesF 3 m.funcs).flatten.length ≤ _; omega⟩
 clear hbs
 refine calls22 rfl ?_
 have f1:=hfs.one
 have fl:=hfs.len
 have A0 : Adds σ (σ.newO [fsv,.int .i64 m.memory,.int .i64 m.main]):=(Adds.refl σ).newO
 have o0 : (σ.newO [fsv,.int .i64 m.memory,.int .i64 m.main]).objs σ.no = some [fsv,.int .i64 m.memory,.int .i64 m.main]:=by simp
 have n0 : σ.no < (σ.newO [fsv,.int .i64 m.memory,.int .i64 m.main]).no:=by simp
 have w3 : IntKind.wrap .i64 ((m.funcs.length : Int) + 3) = (m.funcs.length : Int) + 3:=by rw [wrap_i64] <;> omega
 have d1 : (headL [] 2).length ≤ 40:=by decide
 have d2 : (headL [2] 0).length ≤ 40:=by decide
 have d3 : (headL [1] 0).length ≤ 40:=by decide
 have ul:=uI_len ((m.funcs.length : Int) + 3)
 simp [pc22,f1,fl,w3]
 generalize σ.newO [fsv,.int .i64 m.memory,.int .i64 m.main] = σ0 at *
 refine ru_calls (by omega) fun v1 σ1 h1=>?_
 simp
 refine headE_calls (l:=[]) (.inl ⟨rfl,rfl⟩) (by simp) (by simp) (by simp) fun v2 σ2 h2=>?_
 simp
 refine lit_src (h1.keep h2.2) h2.byt (by omega) fun v3 σ3 h3 e3 m3=>?_
 have k3:=h3.byt.one
 simp [k3]
 refine headE_calls (l:=[2]) (.inr ⟨.stat true,rfl,trivial⟩) (by simp) (by simp) (by simp) fun v4 σ4 h4=>?_
 simp
 refine lit_src (h3.keep h4.2) h4.byt (by simp only [List.length_append]; omega) fun v5 σ5 h5 e5 m5=>?_
 have k5:=h5.byt.one
 simp [k5]
 refine headE_calls (l:=[1]) (.inr ⟨.stat true,rfl,trivial⟩) (by simp) (by simp) (by simp) fun v6 σ6 h6=>?_
 simp
 refine lit_src (h5.keep h6.2) h6.byt (by simp only [List.length_append]; omega) fun v7 σ7 h7 e7 m7=>?_
 have k7:=h7.byt.one
 simp [k7]
 refine ru_calls (by omega) fun v8 σ8 h8=>?_
 have k8:=h8.byt.one
 simp [k8]
 refine ru_calls (by omega) fun v9 σ9 h9=>?_
 have k9:=h9.byt.one
 simp [k9]
 refine ru_calls (by omega) fun v10 σ10 h10=>?_
 have k10:=h10.byt.one
 simp [k10]
 have hA7:=A0.trans h7.2
 have B8:=h8.2
 have B9:=h9.2
 have B10:=h10.2
 have hA10:=((hA7.trans B8).trans B9).trans B10
 have g0:=A0.nf
 have g7:=h7.2.nf
 have g8:=B8.nf
 have g9:=B9.nf
 have g10:=B10.nf
 have o10:=((h7.2.trans B8).trans (B9.trans B10)).obj σ.no n0
 have n10:=((h7.2.trans B8).trans (B9.trans B10)).no
 obtain ⟨T,hT⟩ : ∃ T : Nat → Nat,T = fun g=>if g < σ7.nf then 1 else if g < σ8.nf then 2 else if g < σ9.nf then 3 else if g < σ10.nf then 4 else 0:=⟨_,rfl⟩
 have l4 : LitT T 1 σ σ10 v7 _:=(h7.tagged (σ0:=σ) (T:=T) (i:=1) g0 fun g q1 q2=>by rw [hT]; simp [q2]).keep ((B8.trans B9).trans B10)
 have l5 : LitT T 2 σ σ10 v8 _:=(h8.tagged (σ0:=σ) (T:=T) (i:=2) (by omega) fun g q1 q2=>by rw [hT]; simp [q2,show ¬ g < σ7.nf by omega]).keep (B9.trans B10)
 have l6 : LitT T 3 σ σ10 v9 _:=(h9.tagged (σ0:=σ) (T:=T) (i:=3) (by omega) fun g q1 q2=>by rw [hT]; simp [q2,show ¬ g < σ7.nf by omega,show ¬ g < σ8.nf by omega]).keep B10
 have l7 : LitT T 4 σ σ10 v10 _:=h10.tagged (σ0:=σ) (T:=T) (i:=4) (by omega) fun g q1 q2=>by rw [hT]; simp [q2,show ¬ g < σ7.nf by omega,show ¬ g < σ8.nf by omega,show ¬ g < σ9.nf by omega]
 have hF : FreshT T σ10:=fun g q=>by rw [hT]; simp [show ¬ g < σ7.nf by omega,show ¬ g < σ8.nf by omega,show ¬ g < σ9.nf by omega,show ¬ g < σ10.nf by omega]
 clear hT
 refine aloop (EnQ σ m.funcs codes [fsv,.int .i64 m.memory,.int .i64 m.main]) (MU 8 (m.funcs.length + 1)) ⟨0,T,by omega,by simp,by simp,by simp,?_,by simpa using l5,by simpa using l6,by simpa using l7,hF,hA10,by omega,o10.trans o0⟩ fun a τ hI=>?_
 ·have e : ((headsL m.funcs).take (0 + 3)).flatten = headL [] 2 ++ (headL [2] 0 ++ headL [1] 0):=by simp [headsL]
  rw [e]
  simpa using l4
 refine funcE_body hfs hn hsz hty hc hse (fun a τ hq=>?_) hI
 obtain ⟨T,a1,t4,t5,t6,t7,hT,hA,hno,ho⟩:=hq
 simp [pc22_r2]
 have tg : ∀ {j w z},LitT T j σ τ w z → LitT (upd T τ.nf 5) j σ τ.newF w z:=fun hw=>(hw.tag fun g hg=>by
  have : ¬ g = τ.nf:=by omega
  simp [this]).keep (Adds.refl τ).newF
 refine aloop (ImQ σ 0 (rowL (headsL m.funcs)) (rowL (numsF 3 m.funcs)) (rowL codes) (rowL (namesF 3 m.funcs)) [fsv,.int .i64 m.memory,.int .i64 m.main]) (MU 13 4) ⟨0,upd T τ.nf 5,by omega,by simp [a1],by simp [wordsI],by simp,by simpa using tg t4,by simpa using tg t5,by simpa using tg t6,by simpa using tg t7,.inr (.inr ⟨τ.nf,by simp [B],hA.nf,by simp,by simp,by simp⟩),fun f hf=>?_,hA.newF,by simpa using hno,by simpa using ho⟩ fun a τ2 hI=>?_
 ·simp at hf
  have : ¬ f = τ.nf:=by omega
  simp [this]
  exact hT f (by omega)
 ·refine importE_body (fun a τ hq=>?_) hI
  obtain ⟨T,b1,t4,t5,t6,t7,t11,hT,hA,hno,ho⟩:=hq
  exact encE_end he hc hl hmem h b1 t4 t5 t6 t7 t11 hT hA hno ho
end
end Go.Proofs.YthejpoplbllcbaaGreatDoor
set_option linter.unusedSimpArgs false
set_option linter.unusedVariables false
namespace Go.Proofs.YthejpoplbllcbaaGreatDoor
open Go Go.Abs
def markB (i : Nat) : UInt8 := byteI (201 + 7 * i)
section
variable {G : Env} {σ : AS} {R : Out → AS → Prop}
theorem markB_calls {i : Nat} (hi : i ≤ 2 ^ 50) (h : R (.ret (.int .u8 ((markB i).toNat : Int))) σ) : ACalls Tryz.prog G 26 [.int .i64 (i : Int)] σ R := by
 refine calls26 rfl ?_
 have w1 : IntKind.wrap .i64 (7 * (i : Int)) = 7 * (i : Int):=by rw [wrap_i64] <;> omega
 have w2 : IntKind.wrap .i64 (201 + 7 * (i : Int)) = 201 + 7 * (i : Int):=by rw [wrap_i64] <;> omega
 simp [pc26,w1,w2,wrap_u8]
 exact h
end
end Go.Proofs.YthejpoplbllcbaaGreatDoor
set_option linter.unusedSimpArgs false
set_option linter.unusedVariables false
namespace Go.Proofs.YthejpoplbllcbaaGreatDoor
open Go Go.Abs
@[simp] theorem abin_neq_bool4 (x y : Bool) (K : AV → Prop) : abin Tryz.prog .neq 4 (.bool x) (.bool y) K = K (.bool (x != y)) := by
 have u4 : Tryz.prog.underlying 4 = some .bool:=by kernel_rfl
 simp [abin,aeq,aeq1,u4]
 exact Iff.rfl
section
variable {G : Env} {σ : AS} {R : Out → AS → Prop}
theorem bare0 : 0 < AS.bare.nf ∧ AS.bare.F 0 = .alive := ⟨by decide,rfl⟩
theorem known_any (V : VarsB G) (hG : ∀ k,Still (G.g k)) (hy : ∀ l,¬ G.has l) (h : R (.ret (.bool true)) σ) : ACalls Tryz.prog G 6 [] σ R :=
 ACalls.closed hG hy (known_calls V bare0 fun _ _=>rfl) h
theorem spo_rd {S : Nat → Prop} {σ σ' : AS} (hs : Al.Spo S σ σ') {v : AV} {bs : List UInt8} (h : BytO σ v bs) (hS : ∀ φ,v = .sl φ 1 (B bs) → ∀ g f,φ = .fam g f → ¬ S g) : BytO σ' v bs := by
 rcases h with h | ⟨φ,rfl,hr⟩
 ·exact .inl h
 ·refine .inr ⟨φ,rfl,?_⟩
  cases φ with
  | stat b=>exact trivial
  | fam g f =>
   obtain ⟨h1,h2⟩:=hr
   exact ⟨Nat.lt_of_lt_of_le h1 hs.nf,(hs.fam g h1 (hS _ rfl g f rfl)).trans h2⟩
end
end Go.Proofs.YthejpoplbllcbaaGreatDoor
set_option linter.unusedSimpArgs false
set_option linter.unusedVariables false
namespace Go.Proofs.YthejpoplbllcbaaGreatDoor
open Go Go.Abs
@[simp] theorem blitF1 : blitSl 22 [(0,Operand.const (.int .u8 0)),(1,Operand.const (.int .u8 63)),(2,Operand.const (.int .u8 192)),(3,Operand.const (.int .u8 0)),(4,Operand.const (.int .u8 127)),(5,Operand.const (.int .u8 64)),(6,Operand.const (.int .u8 191)),(7,Operand.const (.int .u8 127))] = false := by decide
@[simp] theorem blitF2 : blitSl 22 [(0,Operand.const (.int .u8 127)),(1,Operand.const (.int .u8 128)),(2,Operand.const (.int .u8 1))] = false := by decide
section
variable {G : Env} {σ : AS} {R : Out → AS → Prop}
end
end Go.Proofs.YthejpoplbllcbaaGreatDoor
set_option linter.unusedSimpArgs false
set_option linter.unusedVariables false
namespace Go.Proofs.YthejpoplbllcbaaGreatDoor
open Go Go.Abs Go.RowKit
def CellsV (w : World) (v : AV) (cs : List Value) : Prop := v.cells.length = cs.length ∧ ∀ j (h : j < v.cells.length) (h' : j < cs.length),VR (Mp.all w) AS.zero.F w v.cells[j] cs[j]
theorem CellsV.one {w : World} {v : AV} {c : Value} (h : VR (Mp.all w) AS.zero.F w v c) (hv : v.cells = [v]) : CellsV w v [c] := by
 refine ⟨by rw [hv]; rfl,fun j h1 h2=>?_⟩
 have : j = 0:=by simpa using h2
 subst this
 simpa [hv] using h
theorem CellsV.tO {w : World} {v : AV} {c : Value} (h : CellsV w v [c]) (hv : v.cells = [v]) : VR (Mp.all w) AS.zero.F w v c := by
 have:=h.2 0 (by rw [hv]; simp) (by simp)
 simpa [hv] using this
def WtOk {H : Type} (t : TypeId) (d : DataW H) : Prop := (d.weights Tryz.prog t).all (· ≤ reachBytes) = true
theorem wtAll {H : Type} {e : TypeId} : ∀ {ds : List (DataW H)},(DataW.weightsAll Tryz.prog e ds).all (· ≤ reachBytes) = true → ∀ d ∈ ds,WtOk e d
 | [],_=>by simp
 | d :: ds,h=>by
  rw [DataW.weightsAll,List.all_append,Bool.and_eq_true] at h
  intro x hx
  rcases List.mem_cons.1 hx with rfl | hx
  ·exact h.1
  ·exact wtAll h.2 x hx
theorem wtEach {H : Type} : ∀ {ts : List TypeId} {ds : List (DataW H)},(DataW.weightsEach Tryz.prog ts ds).all (· ≤ reachBytes) = true → ∀ (i : Nat) t d,ts[i]? = some t → ds[i]? = some d → WtOk t d
 | [],ds,_=>by simp
 | _ :: _,[],_=>by simp
 | t :: ts,d :: ds,h=>by
  rw [DataW.weightsEach,List.all_append,Bool.and_eq_true] at h
  intro i t' d' h1 h2
  cases i with
  | zero=>simp at h1 h2; subst h1 h2; exact h.1
  | succ i=>exact wtEach h.2 i t' d' (by simpa using h1) (by simpa using h2)
theorem exists_list {X : Type} {n : Nat} {P : Nat → X → Prop} (h : ∀ i,i < n → ∃ x,P i x) : ∃ l : List X,l.length = n ∧ ∀ i (hi : i < l.length),P i l[i] := by
 induction n with
 | zero=>exact ⟨[],rfl,fun i hi=>by simp at hi⟩
 | succ n ih =>
  obtain ⟨l,hl,hp⟩:=ih fun i hi=>h i (by omega)
  obtain ⟨x,hx⟩:=h n (by omega)
  refine ⟨l ++ [x],by simp [hl],fun i hi=>?_⟩
  by_cases hi' : i < l.length
  ·rw [List.getElem_append_left hi']; exact hp i hi'
  ·have e : i = l.length:=by simp at hi; omega
   subst e
   rw [List.getElem_append_right (by omega)]
   simpa [hl] using hx
theorem All2.of_get {α β : Type} {R : α → β → Prop} : ∀ {xs : List α} {ys : List β},xs.length = ys.length → (∀ i (h : i < xs.length) (h' : i < ys.length),R xs[i] ys[i]) → All2 R xs ys
 | [],[],_,_=>.nil
 | [],_ :: _,h,_=>by simp at h
 | _ :: _,[],h,_=>by simp at h
 | x :: xs,y :: ys,h,hr=>.cons (hr 0 (by simp) (by simp)) (All2.of_get (by simpa using h) fun i h1 h2=>hr (i + 1) (Nat.succ_lt_succ h1) (Nat.succ_lt_succ h2))
theorem slice_relP {H T : Type} {enc : TypeId × Value → H} {w : World} {fuel : Nat} {t e : TypeId} {cs : List Value} {x : DataW H × List MemPlace} {sz : Nat} (Rel : AV → T → Prop) (P : DataW H → Prop)
  (ht : Tryz.prog.underlying t = some (.slice e)) (hc : Tryz.prog.cellsOf e = sz) (hsz : 0 < sz) (hb : 0 < Tryz.prog.bytesOf e)
  (ih : ∀ n cs' d q,DataW.trod enc Tryz.prog w 0 (fun _=>true) true n e cs' = some (d,q) → WtOk e d → P d → ∃ v o,Rel v o ∧ CellsV w v cs')
  (h : DataW.trod enc Tryz.prog w 0 (fun _=>true) true fuel t cs = some x) (hw : WtOk t x.1) (hP : ∀ ds rs,x.1 = .slice ds rs → ∀ d ∈ ds,P d) :
  ∃ (v : AV) (os : List T),CellsV w v cs ∧ ((os = [] ∧ v = .nilsl) ∨ ∃ vs,v = .sl (.stat false) sz vs ∧ All2 Rel vs os) ∧ os.length ≤ 2 ^ 47:=by
 rcases DataW.trod_slice ht h with ⟨rfl,rfl⟩ | ⟨a,len,cap,elems,rest,n,rfl,rfl,rfl,hb0,hl,hm,hlen,hel,hsp,hns⟩
 ·exact ⟨.nilsl,[],.one .nilsl rfl,.inl ⟨rfl,rfl⟩,by simp⟩
 obtain ⟨hrl,hrest⟩:=hsp rfl
 have hw':=hw
 unfold WtOk DataW.weights at hw'
 rw [ht] at hw'
 simp only [List.all_cons,List.all_append,Bool.and_eq_true,List.length_map,decide_eq_true_eq] at hw'
 obtain ⟨w1,w2,w3⟩:=hw'
 have hel2:=wtAll w2
 have hel3:=hP _ _ rfl
 have each : ∀ i,i < len → ∃ p : AV × T,Rel p.1 p.2 ∧ ∃ cs',w.cells? 0 (a.add (i * sz)) sz = some cs' ∧ CellsV w p.1 cs':=fun i hi=>by
  have h1:=hel i hi
  have hi' : i < elems.length:=by omega
  rw [hc,List.getElem?_eq_getElem hi',Option.bind_eq_some_iff] at h1
  obtain ⟨cs',h2,h3⟩:=h1
  obtain ⟨v,o,h4,h5⟩:=ih n cs' elems[i].1 elems[i].2 h3 (hel2 _ (List.mem_map_of_mem (List.getElem_mem hi'))) (hel3 _ (List.mem_map_of_mem (List.getElem_mem hi')))
  exact ⟨(v,o),h4,cs',h2,h5⟩
 obtain ⟨l,hll,hp⟩:=exists_list each
 have hcap : len ≤ 2 ^ 47:=by
  have h1 : (elems.length + rest.length) * 1 ≤ (elems.length + rest.length) * Tryz.prog.bytesOf e:=Nat.mul_le_mul_left _ hb
  have h2 : reachBytes ≤ 2 ^ 47:=by unfold reachBytes; omega
  omega
 have hall : All2 Rel (l.map (·.1)) (l.map (·.2)):=All2.of_get (by simp) fun i h1 h2=>by simpa using (hp i (by simpa using h1)).1
 by_cases hz : cap = 0
 ·have e1 : len = 0:=by omega
  have e2 : l = []:=List.eq_nil_of_length_eq_zero (by omega)
  subst e1 hz e2
  exact ⟨.sl (.stat false) sz [],[],.one (.slz ..) rfl,.inr ⟨[],rfl,.nil⟩,by simp⟩
 have h0 : ∃ c,w.cell? a = some c:=by
  have key : ∀ (y : DataW H × List MemPlace),(w.cells? 0 (a.add (0 * Tryz.prog.cellsOf e)) (Tryz.prog.cellsOf e)).bind (DataW.trod enc Tryz.prog w 0 (fun _=>true) true n e) = some y → ∃ c,w.cell? a = some c:=fun y hy=>by
   rw [Option.bind_eq_some_iff] at hy
   obtain ⟨cs',h2,_⟩:=hy
   obtain ⟨_,h3,h4⟩:=World.cells?_some h2
   have h5:=h4 0 (by omega)
   rw [Nat.zero_mul] at h5
   have e : (a.add 0).add 0 = a:=by simp [Addr.add]
   rw [e,List.getElem?_eq_getElem (by omega)] at h5
   exact ⟨_,h5⟩
  by_cases hl0 : 0 < len
  ·have:=hel 0 hl0
   rw [List.getElem?_eq_getElem (by omega)] at this
   exact key _ this
  ·have e1 : len = 0:=by omega
   subst e1
   have:=hrest 0 (by omega)
   rw [List.getElem?_eq_getElem (by omega)] at this
   exact key _ this
 obtain ⟨c0,hc0⟩:=h0
 obtain ⟨B,off,spot⟩:=a
 have hBs : B < w.heap.size ∧ spot = none:=by
  unfold World.cell? at hc0
  split at hc0
  ·rename_i c t' fr hh
   refine ⟨(Array.getElem?_eq_some_iff.1 hh).1,?_⟩
   split at hc0
   ·cases hc0
   ·rename_i hs; simpa using hs
  ·cases hc0
 obtain ⟨hB,rfl⟩:=hBs
 have hsz' : ∀ v ∈ l.map (·.1),v.cells.length = sz:=fun v hv=>by
  obtain ⟨p,hp',rfl⟩:=List.mem_map.1 hv
  obtain ⟨i,hi,rfl⟩:=List.mem_iff_getElem.1 hp'
  obtain ⟨_,cs',h2,h3⟩:=hp i hi
  rw [h3.1,(World.cells?_some h2).2.1]
 have hfl:=flat_length sz (l.map (·.1)) hsz'
 have key : ∀ j (hj : j < (flat (l.map (·.1))).length),∃ c,w.cell? ⟨B,off + j,none⟩ = some c ∧ VR (Mp.all w) AS.zero.F w (flat (l.map (·.1)))[j] c:=fun j hj=>by
  have hj' : j < l.length * sz:=by simpa [hfl] using hj
  have hi : j / sz < l.length:=(Nat.div_lt_iff_lt_mul hsz).2 hj'
  have hr : j % sz < sz:=Nat.mod_lt _ hsz
  obtain ⟨_,cs',h2,h3⟩:=hp (j / sz) hi
  obtain ⟨_,h4,h5⟩:=World.cells?_some h2
  have h6:=h5 (j % sz) hr
  rw [addr_add,addr_add,Nat.add_assoc,Nat.div_add_mod',List.getElem?_eq_getElem (by omega)] at h6
  refine ⟨_,h6,?_⟩
  have hl1 : l[j / sz].1.cells.length = sz:=by rw [h3.1,h4]
  have h7:=(flat_get hsz' (i:=j / sz) (v:=l[j / sz].1) (by simp [List.getElem?_eq_getElem hi]) (j:=j % sz) (by omega)).2
  rw [Nat.div_add_mod',List.getElem?_eq_getElem hj] at h7
  rw [Option.some.inj h7]
  exact h3.2 _ _ _
 have hv:=VR.sl (M:=Mp.all w) (F:=AS.zero.F) (w:=w) (.stat false) sz (l.map (·.1)) B off cap (fun j=>(w.cell? ⟨B,off + j,none⟩).getD undef) (by simp; omega) (by simp [Own.full]) hsz' (by simp [Mem,Mp.all,hB])
  (fun _ j hj=>by obtain ⟨c,h1,_⟩:=key j hj; simp [h1]) (fun _ j hj=>by obtain ⟨c,h1,h2⟩:=key j hj; simpa [h1] using h2)
 rw [List.length_map,hll] at hv
 exact ⟨_,l.map (·.2),.one hv rfl,.inr ⟨_,rfl,hall⟩,by simpa [hll] using hcap⟩
theorem slice_rel {H T : Type} {enc : TypeId × Value → H} {w : World} {fuel : Nat} {t e : TypeId} {cs : List Value} {x : DataW H × List MemPlace} {sz : Nat} (Rel : AV → T → Prop)
  (ht : Tryz.prog.underlying t = some (.slice e)) (hc : Tryz.prog.cellsOf e = sz) (hsz : 0 < sz) (hb : 0 < Tryz.prog.bytesOf e)
  (ih : ∀ n cs' d q,DataW.trod enc Tryz.prog w 0 (fun _=>true) true n e cs' = some (d,q) → WtOk e d → ∃ v o,Rel v o ∧ CellsV w v cs')
  (h : DataW.trod enc Tryz.prog w 0 (fun _=>true) true fuel t cs = some x) (hw : WtOk t x.1) :
  ∃ (v : AV) (os : List T),CellsV w v cs ∧ ((os = [] ∧ v = .nilsl) ∨ ∃ vs,v = .sl (.stat false) sz vs ∧ All2 Rel vs os) ∧ os.length ≤ 2 ^ 47 :=
 slice_relP Rel (fun _=>True) ht hc hsz hb (fun n cs' d q h hw _=>ih n cs' d q h hw) h hw fun _ _ _ _ _=>trivial
end Go.Proofs.YthejpoplbllcbaaGreatDoor
set_option linter.unusedSimpArgs false
set_option linter.unusedVariables false
namespace Go.Proofs.YthejpoplbllcbaaGreatDoor.Ck
open Go Go.Abs Go.Proofs.YthejpoplbllcbaaGreatDoor
theorem nameE_true {a n : Int} {named named' : List Bool} (h : nameE a named n = .ok named') {i : Nat} (hi : named'[i]? = some true) : named[i]? = some true ∨ (i : Int) = n := by
 unfold nameE at h
 split at h
 ·rename_i hc
  cases h
  by_cases hin : n.toNat = i
  ·right; omega
  ·left; rwa [List.getElem?_set_ne hin] at hi
 ·cases h
theorem namesE_true {a : Int} : ∀ {ns : List Int} {named named' : List Bool},namesE a ns named = .ok named' → ∀ {i : Nat},named'[i]? = some true → named[i]? = some true ∨ (i : Int) ∈ ns
 | [],named,named',h,i,hi=>by rw [namesE] at h; cases h; exact .inl hi
 | n :: ns,named,named',h,i,hi=>by
  rw [namesE] at h
  split at h
  ·cases h
  ·rename_i nm hnm
   rcases namesE_true h hi with h1 | h1
   ·rcases nameE_true hnm h1 with h2 | h2
    ·exact .inl h2
    ·exact .inr (by simp [h2])
   ·exact .inr (by simp [h1])
theorem rowE_true {a : Int} : ∀ {r : List W} {named named' : List Bool},rowE a r named = .ok named' → ∀ {i : Nat},named'[i]? = some true → named[i]? = some true ∨ ∃ w ∈ r,(i : Int) ∈ namesL w
 | [],named,named',h,i,hi=>by rw [rowE] at h; cases h; exact .inl hi
 | w :: r,named,named',h,i,hi=>by
  rw [rowE] at h
  split at h
  ·cases h
  ·rename_i nm hnm
   rcases rowE_true h hi with h1 | ⟨w',h1,h2⟩
   ·rcases namesE_true hnm h1 with h2 | h2
    ·exact .inl h2
    ·exact .inr ⟨w,by simp,h2⟩
   ·exact .inr ⟨w',by simp [h1],h2⟩
theorem rowsE_true : ∀ {ls : To} {k : Nat} {named named' : List Bool},rowsE k ls named = .ok named' → ∀ {i : Nat},named'[i]? = some true → named[i]? = some true ∨ ∃ (j : Nat) (r : List W),ls[j]? = some r ∧ ∃ w ∈ r,(i : Int) ∈ namesL w
 | [],k,named,named',h,i,hi=>by rw [rowsE] at h; cases h; exact .inl hi
 | r :: ls,k,named,named',h,i,hi=>by
  rw [rowsE] at h
  split at h
  ·cases h
  ·rename_i nm hnm
   rcases rowsE_true h hi with h1 | ⟨j,r',h1,h2⟩
   ·rcases rowE_true hnm h1 with h2 | h2
    ·exact .inl h2
    ·exact .inr ⟨0,r,rfl,h2⟩
   ·exact .inr ⟨j + 1,r',by simpa using h1,h2⟩
theorem nameE_ln {a n : Int} {named named' : List Bool} (h : nameE a named n = .ok named') : named'.length = named.length := by
 unfold nameE at h
 split at h
 ·cases h; simp
 ·cases h
theorem namesE_ln {a : Int} : ∀ {ns : List Int} {named named' : List Bool},namesE a ns named = .ok named' → named'.length = named.length
 | [],named,named',h=>by rw [namesE] at h; cases h; rfl
 | n :: ns,named,named',h=>by
  rw [namesE] at h
  split at h
  ·cases h
  ·rename_i nm hnm
   rw [namesE_ln h,nameE_ln hnm]
theorem rowE_ln {a : Int} : ∀ {r : List W} {named named' : List Bool},rowE a r named = .ok named' → named'.length = named.length
 | [],named,named',h=>by rw [rowE] at h; cases h; rfl
 | w :: r,named,named',h=>by
  rw [rowE] at h
  split at h
  ·cases h
  ·rename_i nm hnm
   rw [rowE_ln h,namesE_ln hnm]
theorem rowsE_ln : ∀ {ls : To} {k : Nat} {named named' : List Bool},rowsE k ls named = .ok named' → named'.length = named.length
 | [],k,named,named',h=>by rw [rowsE] at h; cases h; rfl
 | r :: ls,k,named,named',h=>by
  rw [rowsE] at h
  split at h
  ·cases h
  ·rename_i nm hnm
   rw [rowsE_ln h,rowE_ln hnm]
theorem listsE_named {ls : To} (h : listsE ls = .ok ()) {i : Nat} (hi : i + 1 < ls.length) : ∃ (j : Nat) (r : List W),ls[j]? = some r ∧ ∃ w ∈ r,(i : Int) ∈ namesL w := by
 unfold listsE at h
 split at h
 ·cases h
 split at h
 ·cases h
 rename_i nm hnm
 split at h
 ·rename_i hall
  rw [List.all_eq_true] at hall
  have hlen : nm.length = ls.length:=by
   have:=(rowsE_ln hnm)
   simpa using this
  have h1 : nm[i]? = some true:=by
   have h2:=hall (nm[i]'(by omega)) (List.mem_iff_getElem.2 ⟨i,by simp; omega,by simp⟩)
   rw [List.getElem?_eq_getElem (by omega)]
   simpa using h2
  rcases rowsE_true hnm h1 with h2 | h2
  ·rw [List.getElem?_replicate] at h2
   split at h2 <;> simp at h2
  ·exact h2
 ·cases h
theorem instrsE_each {fs : List F} {ls : List Int} {ty deep : Int} {look : Look} : ∀ {ws : List W} {s s' : St},instrsE fs ls ty deep look ws s = .ok s' → ∀ w ∈ ws,∃ s0 s1,instrE fs ls ty deep look w s0 = .ok s1
 | [],_,_,_,w,hw=>by simp at hw
 | v :: ws,s,s',h,w,hw=>by
  rw [instrsE] at h
  split at h
  ·cases h
  ·rename_i s1 h1
   rcases List.mem_cons.1 hw with rfl | hw
   ·exact ⟨s,s1,h1⟩
   ·exact instrsE_each h w hw
theorem instrE_form {fs : List F} {ls : List Int} {ty deep : Int} {look : Look} {w : W} {s s' : St} (h : instrE fs ls ty deep look w s = .ok s') : formB w = true ∧ ∀ n ∈ namesL w,look n (deep + 1) = .ok () := by
 unfold instrE at h
 split at h
 ·cases h
 rename_i hf
 refine ⟨by simpa using hf,fun n hn=>?_⟩
 split at h
 ·cases h
 by_cases h1 : w.op = 11 ∨ w.op = 12
 ·rw [if_pos h1] at h
  unfold namesL at hn
  rw [if_pos (by omega)] at hn
  simp at hn
  subst hn
  cases hl : look w.body (deep + 1) with
  | ok u=>rfl
  | error e=>rw [hl] at h; cases h
 rw [if_neg h1] at h
 by_cases h2 : w.op = 13
 ·rw [if_pos h2] at h
  split at h
  ·cases h
  cases hl : look w.body (deep + 1) with
  | error e=>rw [hl] at h; cases h
  | ok u =>
   rw [hl] at h
   simp only at h
   unfold namesL at hn
   by_cases ho : w.other < 0
   ·rw [if_pos (by omega)] at hn
    simp at hn
    subst hn
    exact hl
   ·rw [if_neg (by omega),if_pos h2] at hn
    rw [if_pos (by omega)] at h
    simp at hn
    rcases hn with rfl | rfl
    ·exact hl
    ·cases hl2 : look w.other (deep + 1) with
     | ok u=>rfl
     | error e=>rw [hl2] at h; cases h
 ·unfold namesL at hn
  rw [if_neg (by omega),if_neg h2] at hn
  simp at hn
theorem lookE_form {fs : List F} {ls : List Int} {ty : Int} {lists : To} {k : Nat} {at_ deep : Int} (h : lookE fs ls ty lists (k + 1) at_ deep = .ok ()) : ∀ w ∈ lists.getD at_.toNat [],formB w = true ∧ ∀ n ∈ namesL w,lookE fs ls ty lists k n (deep + 1) = .ok () := by
 rw [lookE] at h
 split at h
 ·cases h
 ·rename_i s' hs
  intro w hw
  obtain ⟨s0,s1,h1⟩:=instrsE_each hs w hw
  exact instrE_form h1
theorem seen {fs : List F} {ls : List Int} {ty : Int} {lists : To} (hl : listsE lists = .ok ()) (h : lookE fs ls ty lists lists.length ((lists.length : Int) - 1) 0 = .ok ()) : ∀ (d i : Nat),i + d + 1 = lists.length → ∃ (k : Nat) (deep : Int),lookE fs ls ty lists k (i : Int) deep = .ok () := by
 intro d
 induction d using Nat.strongRecOn with
 | _ d ih =>
  intro i hi
  by_cases h0 : d = 0
  ·subst h0
   refine ⟨lists.length,0,?_⟩
   have : (i : Int) = (lists.length : Int) - 1:=by omega
   rw [this]; exact h
  ·obtain ⟨j,r,h1,w,h2,h3⟩:=listsE_named hl (i:=i) (by omega)
   obtain ⟨_,ha,_⟩:=listsE_ok hl
   have hj:=(ha j r h1 _ (List.mem_flatMap.2 ⟨w,h2,h3⟩)).2
   have hjl : j < lists.length:=(List.getElem?_eq_some_iff.1 h1).1
   obtain ⟨k,deep,hk⟩:=ih (lists.length - 1 - j) (by omega) j (by omega)
   cases k with
   | zero=>rw [lookE] at hk; cases hk
   | succ k =>
    have hg : lists.getD (j : Int).toNat [] = r:=by rw [Int.toNat_natCast,List.getD_eq_getElem?_getD,h1]; rfl
    have:=lookE_form hk w (by rw [hg]; exact h2)
    exact ⟨k,deep + 1,this.2 _ h3⟩
theorem forms_of {fs : List F} {f : F} (h : functionE fs f = .ok ()) : ∀ l ∈ f.lists,∀ w ∈ l,formB w = true := by
 have hl:=functionE_lists h
 unfold functionE at h
 split at h
 ·cases h
 rw [hl] at h
 simp only at h
 intro l hlm w hw
 obtain ⟨i,hi,e⟩:=List.getElem_of_mem hlm
 obtain ⟨k,deep,hk⟩:=seen hl h (f.lists.length - 1 - i) i (by omega)
 cases k with
 | zero=>rw [lookE] at hk; cases hk
 | succ k =>
  have hg : f.lists.getD (i : Int).toNat [] = l:=by rw [Int.toNat_natCast,List.getD_eq_getElem?_getD,List.getElem?_eq_getElem hi,e]; rfl
  exact (lookE_form hk w (by rw [hg]; exact hw)).1
end Go.Proofs.YthejpoplbllcbaaGreatDoor.Ck
set_option linter.unusedSimpArgs false
set_option linter.unusedVariables false
namespace Go.Proofs.YthejpoplbllcbaaGreatDoor
open Go Go.Abs
def signCells : List AV := (signs.map fun p => [AV.str p.1,AV.str p.2]).flatten
structure Vars (G : Env) : Prop where
 signs : G.g 5 = .pv (.stat true) (.agg signCells)
 max : ∃ m,G.g 6 = .pv (.stat true) (.int .i64 m)
theorem w_number_calls {G : Env} {σ : AS} {R : Out → AS → Prop} {t : Int} (h : R (.ret (.bool (numberB t))) σ) : ACalls Tryz.prog G 87 [.int .i64 t] σ R := by
 refine calls87 rfl ?_
 unfold numberB at h
 by_cases h1 : t = 1
 ·simp [h1] at h
  simp [pc87,h1]; exact h
 ·by_cases h2 : t = 2
  ·simp [h2] at h
   simp [pc87,h2]; exact h
  ·simp [h1,h2] at h
   simp [pc87,h1,h2]; exact h
def stopV (e : Int) : AV := .iface 75 (.agg [.int .i64 e])
theorem w_must_calls {G : Env} {σ : AS} {R : Out → AS → Prop} {b : Bool} {e : Int} (h1 : b = true → R (.ret (.tuple [])) σ) (h2 : b = false → R (.panic (stopV e)) σ) : ACalls Tryz.prog G 48 [.bool b,.int .i64 e] σ R := by
 refine calls48 rfl ?_
 cases b with
 | true=>simp [pc48,splice]; exact h1 rfl
 | false=>simp [pc48,splice]; exact h2 rfl
theorem bytes_calls {G : Env} {σ : AS} {R : Out → AS → Prop} {t n : Int} (h : R (.ret (.bool (bytesB t n))) σ) : ACalls Tryz.prog G 136 [.int .i64 t,.int .i64 n] σ R := by
 refine calls136 rfl ?_
 unfold bytesB at h
 by_cases h1 : t = 1
 ·by_cases h2 : n = 1
  ·simp [h1,h2] at h; simp [pc136,h1,h2]; exact h
  ·by_cases h4 : n = 4
   ·simp [h1,h4] at h; simp [pc136,h1,h4]; exact h
   ·simp [h1,h2,h4] at h; simp [pc136,h1,h2,h4]; exact h
 ·by_cases h2 : t = 2
  ·by_cases h8 : n = 8
   ·simp [h2,h8] at h; simp [pc136,h2,h8]; exact h
   ·simp [h2,h8] at h; simp [pc136,h2,h8]; exact h
  ·simp [h1,h2] at h; simp [pc136,h1,h2]; exact h
theorem wrap_self (k : IntKind) (n : Int) (h : k = .i8 ∨ k = .i32) : IntKind.wrap .i64 (k.wrap n) = k.wrap n := by
 have hb : -2147483648 ≤ k.wrap n ∧ k.wrap n ≤ 2147483647:=by
  rcases h with rfl | rfl <;> simp only [IntKind.wrap,IntKind.signed,IntKind.bits] <;> simp <;> omega
 rw [wrap_i64] <;> omega
theorem wrap_calls {G : Env} {σ : AS} {R : Out → AS → Prop} {t v : Int} (h : R (.ret (.int .i64 (wrapT t v))) σ) : ACalls Tryz.prog G 137 [.int .i64 t,.int .i64 v] σ R := by
 refine calls137 rfl ?_
 unfold wrapT at h
 by_cases h3 : t = 3
 ·simp [h3] at h; simp [pc137,h3,wrap_self]; exact h
 ·by_cases h1 : t = 1
  ·simp [h1] at h; simp [pc137,h1,wrap_self]; exact h
  ·by_cases h2 : t = 2
   ·simp [h2] at h; simp [pc137,h2]; exact h
   ·simp [h1,h2,h3] at h; simp [pc137,h1,h2,h3]; exact h
def GI (s : List UInt8) (σ : AS) (a : Nat → AV) (τ : AS) : Prop := ∃ i : Nat,i ≤ 16 ∧ a 0 = .str s ∧ a 5 = .agg signCells ∧ a 6 = .int .i64 (i : Int) ∧ signOf (signs.drop i) s = signOf signs s ∧ Adds σ τ
theorem pairs_at : ∀ (l : List (List UInt8 × List UInt8)) (i : Nat) (p : List UInt8 × List UInt8),l[i]? = some p → (((l.map fun p => [AV.str p.1,AV.str p.2]).flatten).drop (i * 2)).take 2 = [.str p.1,.str p.2]
 | [],i,p,h=>by simp at h
 | q :: l,0,p,h=>by simp at h; subst h; rfl
 | q :: l,i + 1,p,h=>by
  have:=pairs_at l i p (by simpa using h)
  rw [show (i + 1) * 2 = i * 2 + 1 + 1 from by omega]
  simpa using this
theorem signs_at (i : Nat) (h : i < 16) : ∃ p,signs[i]? = some p ∧ (signCells.drop (i * 2)).take 2 = [.str p.1,.str p.2] :=
 ⟨_,List.getElem?_eq_getElem h,pairs_at signs i _ (List.getElem?_eq_getElem h)⟩
theorem sign_calls {G : Env} (V : Vars G) {σ : AS} {R : Out → AS → Prop} {s : List UInt8} (h : ∀ σ',Adds σ σ' → R (.ret (.str (signOf signs s))) σ') : ACalls Tryz.prog G 135 [.str s] σ R := by
 refine calls135 rfl ?_
 have hg:=V.signs
 have hl : signCells.length = 32:=rfl
 simp [pc135,hg,hl]
 refine aloop (GI s σ) (MU 6 17) ⟨0,by omega,by simp,by simp,by simp,rfl,.refl _⟩ fun a τ hI=>?_
 obtain ⟨i,hi,a0,a5,a6,hs,A⟩:=hI
 by_cases hlt : i < 16
 ·obtain ⟨p,hp,hc⟩:=signs_at i hlt
  have hd : signs.drop i = p :: signs.drop (i + 1):=by
   obtain ⟨hi',e⟩:=List.getElem?_eq_some_iff.1 hp
   rw [List.drop_eq_getElem_cons hi',e]
  have hlt' : (i : Int) < 16:=by omega
  have hw3 : IntKind.wrap .i64 ((i : Int) + 1) = ((i + 1 : Nat) : Int):=by rw [wrap_i64] <;> omega
  have hle : i * 2 + 2 ≤ 32:=by omega
  obtain ⟨x,y⟩:=p
  rw [hd,signOf] at hs
  by_cases he : x = s
  ·rw [if_pos he] at hs
   simp [pc135_l1,a0,a5,a6,hlt',hl,hle,partOf,hc,splice,he]
   rw [hs]
   exact h _ ((A.newO).setO (by have:=A.no; omega))
  ·rw [if_neg he] at hs
   simp [pc135_l1,a0,a5,a6,hlt',hl,hle,partOf,hc,splice,he,hw3]
   refine ⟨⟨i + 1,by omega,by simp [a0],by simp [a5],by simp,hs,(A.newO).setO (by have:=A.no; omega)⟩,?_⟩
   simp [MU,a6]; omega
 ·have he : i = 16:=by omega
  subst he
  have : signOf signs s = []:=by rw [← hs]; rfl
  rw [this] at h
  simp [pc135_l1,pc135_r1,a6]
  exact h _ A
end Go.Proofs.YthejpoplbllcbaaGreatDoor
set_option linter.unusedSimpArgs false
set_option linter.unusedVariables false
namespace Go.Proofs.YthejpoplbllcbaaGreatDoor
open Go Go.Abs
@[simp] theorem grown_full_cons {KS : AV → AS → Prop} {σ : AS} (bs sz f s' xs y ys) : grown bs sz (.sl (.fam f true) s' xs) (y :: ys) σ KS = (s' = sz ∧ (xs.length + (y :: ys).length) * bs ≤ 2 ^ 47 ∧ σ.F f = .alive ∧ KS (.sl (.fam σ.nf false) sz (xs ++ y :: ys)) σ.newF) := by simp [grown]
@[simp] theorem acall_under {P : Program} {G : Env} {n : Nat} {pa pb : PC} {ps : List Nat} {f0 : Nat} {a : Nat → AV} {l : Nat} {args : List AV} {σ : AS} {K PK : AV → AS → Prop} :
  acall P (G.under P n pa pb ps f0 a l) (.fn (.yield l) [] []) args σ K PK = (args.length = ps.length ∧ σ.F f0 = .alive ∧ avc P G n pa (athen (fun a1 σ1=>σ1.F f0 = .alive ∧ avc P G n pb (rq f0 K PK) a1 σ1) fun _ _ _=>False) (upds a ps args) σ):=by
 simp [acall,Env.under,ARound]
@[simp] theorem rq_normal (f0 : Nat) (K PK : AV → AS → Prop) (a : Nat → AV) (σ : AS) : rq f0 K PK .normal a σ = (σ.F f0 = .alive ∧ K (.bool true) σ) := Eq.trans rfl rfl
@[simp] theorem rq_panic (f0 : Nat) (K PK : AV → AS → Prop) (v : AV) (a : Nat → AV) (σ : AS) : rq f0 K PK (.panic v) a σ = (σ.F f0 = .alive ∧ PK v { σ with F := upd σ.F f0 .dead }) := Eq.trans rfl rfl
def intsA (l : List Int) : List AV := l.map (.int .i64)
def SV (σ : AS) (sv : AV) (st : List Int) : Prop := (st = [] ∧ sv = .nilsl) ∨ ∃ g b,sv = .sl (.fam g b) 1 (intsA st) ∧ g < σ.nf ∧ σ.F g = .alive
def UsesL (σ : AS) (x f : Nat) : Prop := ∃ cs v,σ.objs x = some cs ∧ cs[1]? = some v ∧ famOf v = some f
structure KeepL (x : Nat) (σ σ' : AS) : Prop where
 no : σ.no ≤ σ'.no
 nf : σ.nf ≤ σ'.nf
 obj : ∀ o,o < σ.no → o ≠ x → σ'.objs o = σ.objs o
 fam : ∀ f,f < σ.nf → ¬ UsesL σ x f → σ'.F f = σ.F f
 use : ∀ f,f < σ.nf → UsesL σ' x f → UsesL σ x f
theorem KeepL.refl (x σ) : KeepL x σ σ := ⟨Nat.le_refl _,Nat.le_refl _,fun _ _ _ => rfl,fun _ _ _ => rfl,fun _ _ h => h⟩
theorem KeepL.trans {x σ σ1 σ2} (h : KeepL x σ σ1) (h' : KeepL x σ1 σ2) : KeepL x σ σ2 where
 no:=Nat.le_trans h.no h'.no
 nf:=Nat.le_trans h.nf h'.nf
 obj o a b:=by rw [h'.obj o (Nat.lt_of_lt_of_le a h.no) b,h.obj o a b]
 fam f a b:=by rw [h'.fam f (Nat.lt_of_lt_of_le a h.nf) fun u=>b (h.use f a u),h.fam f a b]
 use f a u:=h.use f a (h'.use f (Nat.lt_of_lt_of_le a h.nf) u)
theorem Adds.keepL {x σ σ'} (h : Adds σ σ') (hx : x < σ.no) : KeepL x σ σ' where
 no:=h.no
 nf:=h.nf
 obj o a _:=h.obj o a
 fam f a _:=h.fam f a
 use f _ u:=by unfold UsesL at *; rwa [h.obj x hx] at u
def LS (σ : AS) (x c : Nat) (s : St) (deep : Int) : Prop := x < σ.no ∧ ∃ sv,σ.objs x = some [.ptr c 0,sv,.bool s.any,.int .i64 deep] ∧ SV σ sv s.stack
theorem LS.adds {σ σ' x c s deep} (h : LS σ x c s deep) (A : Adds σ σ') : LS σ' x c s deep := by
 obtain ⟨hx,sv,ho,hs⟩:=h
 refine ⟨Nat.lt_of_lt_of_le hx A.no,sv,(A.obj x hx).trans ho,?_⟩
 rcases hs with hs | ⟨g,b,e,h1,h2⟩
 ·exact .inl hs
 ·exact .inr ⟨g,b,e,Nat.lt_of_lt_of_le h1 A.nf,(A.fam g h1).trans h2⟩
def FinE (R : Out → AS → Prop) (x c : Nat) (deep : Int) (σ : AS) : Res St → Prop
 | .ok s'=>∀ σ',KeepL x σ σ' → LS σ' x c s' deep → R (.ret (.tuple [])) σ'
 | .error e=>∀ σ',KeepL x σ σ' → R (.panic (stopV e)) σ'
theorem KeepL.set {x σ cs} (hx : x < σ.no) (h : ∀ f v,f < σ.nf → cs[1]? = some v → famOf v = some f → UsesL σ x f) : KeepL x σ (σ.setO x cs) where
 no:=Nat.le_refl _
 nf:=Nat.le_refl _
 obj o _ ho:=by simp [ho]
 fam f _ _:=rfl
 use f hf u:=by
  obtain ⟨cs',v,h1,h2,h3⟩:=u
  simp at h1
  subst h1
  exact h f v hf h2 h3
theorem drop_calls {G : Env} {σ : AS} {R : Out → AS → Prop} {x c : Nat} {s : St} {deep : Int} (L : LS σ x c s deep) (hb : s.stack.length ≤ 2 ^ 40) (h : FinE R x c deep σ (dropE s)) : ACalls Tryz.prog G 140 [.ptr x 0] σ R := by
 refine calls140 rfl ?_
 have L0:=L
 obtain ⟨hx,sv,ho,hs⟩:=L
 unfold dropE at h
 rcases hs with ⟨hnil,rfl⟩ | ⟨g,b,rfl,hg1,hg2⟩
 ·have hl : s.stack.length = 0:=by rw [hnil]; rfl
  rw [if_pos hl] at h
  cases ha : s.any with
  | true =>
   rw [ha] at ho h
   rw [if_pos rfl] at h
   simp [pc140,ho]
   exact h σ (.refl _ _) L0
  | false =>
   rw [ha] at ho h
   rw [if_neg (by simp)] at h
   simp [pc140,ho]
   refine w_must_calls (fun q=>by simp at q) fun _=>?_
   exact h σ (.refl _ _)
 ·have hlA : (intsA s.stack).length = s.stack.length:=by simp [intsA]
  by_cases hl : s.stack.length = 0
  ·rw [if_pos hl] at h
   have hl2 : intsA s.stack = []:=List.length_eq_zero_iff.1 (by omega)
   cases ha : s.any with
   | true =>
    rw [ha] at ho h
    rw [if_pos rfl] at h
    simp [pc140,ho,hl2]
    exact h σ (.refl _ _) L0
   | false =>
    rw [ha] at ho h
    rw [if_neg (by simp)] at h
    simp [pc140,ho,hl2]
    refine w_must_calls (fun q=>by simp at q) fun _=>?_
    exact h σ (.refl _ _)
  ·rw [if_neg hl] at h
   have hl2 : ¬ ((intsA s.stack).length : Int) = 0:=by omega
   have hl3 : (0 : Int) < ((intsA s.stack).length : Int):=by omega
   have hne : ¬ intsA s.stack = []:=fun q=>by rw [q] at hl2; simp at hl2
   have hpos : 0 < (intsA s.stack).length:=by omega
   have hw : IntKind.wrap .i64 (((intsA s.stack).length : Int) - 1) = (((intsA s.stack).length - 1 : Nat) : Int):=by rw [wrap_i64] <;> omega
   have e : (intsA s.stack).take ((intsA s.stack).length - 1) = intsA s.stack.dropLast:=by
    rw [hlA]; unfold intsA; rw [← List.map_take,List.dropLast_eq_take]
   simp [pc140,ho,hne,hpos,splice]
   refine w_must_calls (fun _=>?_) (fun q=>by simp at q)
   simp [pc140,ho,hne,hpos,splice,hw]
   rw [e]
   refine h _ (.set hx fun f v hf hv hfam=>?_) ⟨by simpa using hx,_,by simp,.inr ⟨g,true,rfl,hg1,hg2⟩⟩
   simp at hv
   subst hv
   simp [famOf] at hfam
   subst hfam
   exact ⟨_,_,ho,rfl,rfl⟩
theorem setO_setO (σ : AS) (x : Nat) (a b : List AV) : (σ.setO x a).setO x b = σ.setO x b := by
 unfold AS.setO
 congr 1
 funext j
 simp only [upd]
 split <;> rfl
theorem leaves_calls' {G : Env} {σ : AS} {R : Out → AS → Prop} {x c : Nat} {s : St} {deep : Int} (L : LS σ x c s deep) (h : ∀ σ',KeepL x σ σ' → LS σ' x c leftS deep → R (.ret (.tuple [])) σ') : ACalls Tryz.prog G 128 [.ptr x 0] σ R := by
 refine calls128 rfl ?_
 obtain ⟨hx,sv,ho,hs⟩:=L
 simp [pc128,ho,splice]
 rw [setO_setO]
 refine h _ ((KeepL.set (cs:=[.ptr c 0,.nilsl,.bool true,.int .i64 deep]) hx fun f v hf hv hfam=>?_)) ⟨by simpa using hx,_,by simp [leftS],.inl ⟨rfl,rfl⟩⟩
 simp at hv
 subst hv
 simp [famOf] at hfam
theorem KeepL.grow {x : Nat} {σ σ1 : AS} {cs : List AV} (hx : x < σ.no) (ho : σ1.objs = σ.objs) (hno : σ1.no = σ.no) (hnf : σ.nf ≤ σ1.nf) (hF : ∀ f,f < σ.nf → ¬ UsesL σ x f → σ1.F f = σ.F f) (h : ∀ f v,f < σ.nf → cs[1]? = some v → famOf v = some f → False) : KeepL x σ (σ1.setO x cs) where
 no:=by simp [hno]
 nf:=by simpa using hnf
 obj o _ hne:=by simp [hne,ho]
 fam f hf hu:=hF f hf hu
 use f hf u:=by
  obtain ⟨cs',v,h1,h2,h3⟩:=u
  simp at h1
  subst h1
  exact (h f v hf h2 h3).elim
theorem give_calls {G : Env} {σ : AS} {R : Out → AS → Prop} {x c : Nat} {s : St} {deep t : Int} (L : LS σ x c s deep) (hb : s.stack.length ≤ 2 ^ 40) (h : ∀ σ',KeepL x σ σ' → LS σ' x c (giveS s t) deep → R (.ret (.tuple [])) σ') : ACalls Tryz.prog G 127 [.ptr x 0,.int .i64 t] σ R := by
 refine calls127 rfl ?_
 have L0:=L
 obtain ⟨hx,sv,ho,hs⟩:=L
 by_cases ht : t = 0
 ·have e : giveS s t = s:=by simp [giveS,ht]
  rw [e] at h
  simp [pc127,ht]
  exact h σ (.refl _ _) L0
 ·have e : giveS s t = { s with stack:=s.stack ++ [t] }:=by simp [giveS,ht]
  rw [e] at h
  rcases hs with ⟨hnil,rfl⟩ | ⟨g,b,rfl,hg1,hg2⟩
  ·simp [pc127,ht,ho,splice]
   refine h _ (.grow hx rfl rfl (by simp) (fun f hf _=>by simp; omega) fun f v hf hv hfam=>?_) ⟨by simpa using hx,.sl (.fam σ.nf false) 1 (intsA (s.stack ++ [t])),by simp [hnil,intsA],.inr ⟨σ.nf,false,rfl,by simp,by simp⟩⟩
   ·simp at hv; subst hv; simp [famOf] at hfam; omega
  ·have hlA : (intsA s.stack).length = s.stack.length:=by simp [intsA]
   have ea : intsA s.stack ++ [.int .i64 t] = intsA (s.stack ++ [t]):=by simp [intsA]
   cases b with
   | true =>
    simp [pc127,ht,ho,splice,hg2,hlA]
    refine ⟨by omega,h _ (.grow hx rfl rfl (by simp) (fun f hf _=>by simp; omega) fun f v hf hv hfam=>?_) ⟨by simpa using hx,.sl (.fam σ.nf false) 1 (intsA (s.stack ++ [t])),by simp [intsA],.inr ⟨σ.nf,false,rfl,by simp,by simp⟩⟩⟩
    ·simp at hv; subst hv; simp [famOf] at hfam; omega
   | false =>
    simp [pc127,ht,ho,splice,hg2,hlA]
    refine ⟨by omega,h _ (.grow hx rfl rfl (by simp) (fun f hf hu=>?_) fun f v hf hv hfam=>?_) ⟨by simpa using hx,.sl (.fam σ.nf false) 1 (intsA (s.stack ++ [t])),by simp [intsA],.inr ⟨σ.nf,false,rfl,by simp,by simp⟩⟩⟩
    ·have : f ≠ g:=by rintro rfl; exact hu ⟨_,_,ho,rfl,rfl⟩
     simp [this]; omega
    ·simp at hv; subst hv; simp [famOf] at hfam; omega
end Go.Proofs.YthejpoplbllcbaaGreatDoor
set_option linter.unusedSimpArgs false
set_option linter.unusedVariables false
namespace Go.Proofs.YthejpoplbllcbaaGreatDoor
open Go Go.Abs
theorem backward_calls {G : Env} {σ : AS} {R : Out → AS → Prop} {tv : AV} (hk : tv.known = true) (hc : tv.cells = [tv]) (h : R (.ret (.fn (.func 145) [] [.ptr σ.no 0])) (σ.newO [tv])) : ACalls Tryz.prog G 139 [tv] σ R := by
 refine calls139 rfl ?_
 simp [pc139,hk,hc]
 exact h
theorem takeE_cons (t : Int) (ts : List Int) (s : St) : takeE (t :: ts) s = if s.stack.length = 0 ∨ s.stack.getLast? = some t then (match dropE s with | .ok s' => takeE ts s' | .error e => .error e) else .error 14 := rfl
theorem dropE_le {s s' : St} (h : dropE s = .ok s') : s'.stack.length ≤ s.stack.length := by
 unfold dropE at h
 split at h
 ·split at h
  ·cases h; exact Nat.le_refl _
  ·cases h
 ·cases h; simp
@[simp] theorem upds_two (a : Nat → AV) (p q : Nat) (x y : AV) : upds a [p,q] [x,y] = upd (upd a p x) q y := Eq.trans rfl rfl
theorem SV.len {σ : AS} {sv : AV} {st : List Int} (h : SV σ sv st) (K : AV → Prop) : alen Tryz.prog 38 sv K = K (.int .i64 (st.length : Int)) := by
 rcases h with ⟨rfl,rfl⟩ | ⟨g,b,rfl,_⟩
 ·simp
 ·simp [intsA]
theorem SV.last {σ : AS} {sv : AV} {st : List Int} (h : SV σ sv st) (hn : 0 < st.length) : ∃ φ v,Readable σ.F φ ∧ st.getLast? = some v ∧ ∀ (n : Int),n = (st.length : Int) - 1 → ∀ K : AV → Prop,aindexAddr Tryz.prog 38 sv (.int .i64 n) K = K (.pv φ (.int .i64 v)) := by
 rcases h with ⟨rfl,_⟩ | ⟨g,b,rfl,_,hg⟩
 ·simp at hn
 ·refine ⟨.fam g b,st[st.length - 1],hg,by rw [List.getLast?_eq_getElem?,List.getElem?_eq_getElem (by omega)],fun n hn2 K=>?_⟩
  have e : n.toNat = st.length - 1:=by omega
  have h0 : 0 ≤ n:=by omega
  have hlt : st.length - 1 < st.length:=by omega
  simp [intsA,e,h0,hlt]
def TI (x c : Nat) (deep : Int) (o f0 l : Nat) (σN : AS) (ts : List Int) (s0 : St) (a : Nat → AV) (τ : AS) : Prop := ∃ (i : Nat) (s : St),i ≤ ts.length ∧ a 0 = .fn (.yield l) [] [] ∧ a 1 = .ptr o 0 ∧ a 3 = .int .i64 ((i : Int) - 1) ∧ LS τ x c s deep ∧ KeepL x σN τ ∧ s.stack.length ≤ s0.stack.length ∧
 takeE (ts.take i).reverse s = takeE ts.reverse s0
def TM (a : Nat → AV) (_ : AS) : Nat := match a 3 with | .int _ n => (n + 1).toNat | _ => 0
set_option maxRecDepth 20000 in
theorem w_take_calls {G : Env} {σ : AS} {R : Out → AS → Prop} {x c : Nat} {s : St} {deep : Int} {ts : List Int} {tv : AV} (hv : IntsV tv ts) (hts : ts.length ≤ 2 ^ 40) (L : LS σ x c s deep) (hb : s.stack.length ≤ 2 ^ 40) (h : FinE R x c deep σ (takeE ts.reverse s)) : ACalls Tryz.prog G 126 [.ptr x 0,tv] σ R := by
 obtain ⟨v1,v2,v3⟩:=hv.one
 refine acalls_range (px:=pc126_x) (py:=pc126_yx) (pa:=pc126_yya) (pb:=pc126_yyb) mixed Tryz.func126 (n:=33) (res:=[]) rfl rfl rfl (by kernel_rfl) (by kernel_rfl) (by kernel_rfl) (by kernel_rfl) (by decide) (by simp) ?_
 simp [pc126_x,pc126_yx]
 refine backward_calls v1 v3 ?_
 simp
 generalize hσ2 : (σ.newO [AV.ptr x 0]).newO [tv] = σ2
 have hno2 : σ2.no = σ.no + 2:=by rw [← hσ2]; simp
 have hnf2 : σ2.nf = σ.nf:=by rw [← hσ2]; simp
 have A2 : Adds σ σ2:=by rw [← hσ2]; exact (Adds.refl σ).newO.newO
 have hb0 : σ2.objs σ.no = some [.ptr x 0]:=by rw [← hσ2]; simp
 have ho0 : σ2.objs (σ.no + 1) = some [tv]:=by rw [← hσ2]; simp
 have hxl:=L.1
 refine ⟨145,[.ptr (σ.no + 1) 0],by simp,by simp,fun l=>?_⟩
 refine calls145 rfl ?_
 have L2 : LS σ2.newF x c s deep:=(L.adds A2).adds (Adds.refl σ2).newF
 have AN : Adds σ σ2.newF:=A2.newF
 have hnu : ∀ τ,KeepL x σ2.newF τ → τ.F σ2.nf = .alive:=fun τ K=>by
  rw [K.fam σ2.nf (by simp) ?_]
  ·simp
  ·rintro ⟨cs,v,e1,e2,e3⟩
   obtain ⟨hx,sv,e4,e5⟩:=L
   have : σ2.newF.objs x = some [.ptr c 0,sv,.bool s.any,.int .i64 deep]:=(AN.obj x hx).trans e4
   rw [this] at e1
   cases e1
   simp at e2
   subst e2
   rcases e5 with ⟨_,rfl⟩ | ⟨g,b,rfl,hg,_⟩
   ·simp [famOf] at e3
   ·simp [famOf] at e3; omega
 -- a state behind the loop
 have back : ∀ τ,KeepL x σ2.newF τ → KeepL x σ { τ with F:=upd τ.F σ2.nf .dead }:=by
  intro τ K
  have K':=(AN.keepL hxl).trans K
  exact ⟨K'.no,K'.nf,K'.obj,fun f hf hu=>by simp only [upd]; rw [if_neg (by omega)]; exact K'.fam f hf hu,K'.use⟩
 have backL : ∀ τ s',KeepL x σ2.newF τ → LS τ x c s' deep → LS { τ with F:=upd τ.F σ2.nf .dead } x c s' deep:=by
  intro τ s' K ⟨e1,sv,e2,e3⟩
  refine ⟨e1,sv,e2,?_⟩
  rcases e3 with e3 | ⟨g,b,e4,e5,e6⟩
  ·exact .inl e3
  ·refine .inr ⟨g,b,e4,e5,?_⟩
   have hne : g ≠ σ2.nf:=by
    rintro rfl
    have u : UsesL τ x σ2.nf:=⟨_,_,e2,rfl,by rw [e4]; rfl⟩
    obtain ⟨cs,v,q1,q2,q3⟩:=K.use σ2.nf (by simp) u
    obtain ⟨hx,sv',q4,q5⟩:=L2
    rw [q4] at q1
    cases q1
    simp at q2
    subst q2
    rcases q5 with ⟨_,rfl⟩ | ⟨g',b',rfl,hg',_⟩
    ·simp [famOf] at q3
    ·obtain ⟨hx1,sv1,p1,p2⟩:=L
     have : σ2.newF.objs x = some [.ptr c 0,sv1,.bool s.any,.int .i64 deep]:=(AN.obj x hx1).trans p1
     rw [q4] at this
     simp at this
     subst this
     rcases p2 with ⟨_,p3⟩ | ⟨g2,b2,p3,p4,_⟩
     ·cases p3
     ·simp at p3; simp [famOf] at q3; omega
   simp only [upd]; rw [if_neg hne]; exact e6
 have ho1 : σ2.newF.objs (σ.no + 1) = some [tv]:=by simpa using ho0
 have hw0 : IntKind.wrap .i64 ((ts.length : Int) - 1) = (ts.length : Int) - 1:=by rw [wrap_i64] <;> omega
 have start : ∀ a,TI x c deep (σ.no + 1) σ2.nf l σ2.newF ts s a σ2.newF → ALoop Tryz.prog (Env.under G Tryz.prog 33 pc126_yya pc126_yyb [9,10] σ2.nf (upd (upd (upd (frame0 [AV.ptr x 0,tv]) 2 (AV.ptr σ.no 0)) 7 tv) 8 (AV.fn (Fn.func 145) [] [AV.ptr (σ.no + 1) 0])) l) 19 pc145_l1
   (ablock 0 (afin Tryz.prog [] fun o σ'=>match o with
    | .ret v=>σ'.F σ2.nf = .alive ∧ R (.ret (.tuple [])) { σ' with F:=upd σ'.F σ2.nf .dead }
    | .panic v=>R (.panic v) σ')) a σ2.newF:=by
  intro a hI
  refine aloop (TI x c deep (σ.no + 1) σ2.nf l σ2.newF ts s) TM hI fun a τ hI=>?_
  obtain ⟨i,s1,hi,a0,a1,a3,L1,K1,hle,hq⟩:=hI
  have hal:=hnu τ K1
  have hob : τ.objs (σ.no + 1) = some [tv]:=by
   rw [K1.obj (σ.no + 1) (by simp; omega) (by omega)]; exact ho1
  have hob0 : τ.objs σ.no = some [.ptr x 0]:=by
   rw [K1.obj σ.no (by simp; omega) (by omega)]; simpa using hb0
  cases i with
  | zero =>
   simp [takeE] at hq
   rw [← hq] at h
   simp [pc145_l1,a3]
   exact ⟨hal,h _ (back τ K1) (backL τ s1 K1 L1)⟩
  | succ j =>
   have hj : j < ts.length:=by omega
   rcases hv with ⟨rfl,_⟩ | ⟨b,rfl⟩
   ·simp at hj
   have hrev : (ts.take (j + 1)).reverse = ts[j] :: (ts.take j).reverse:=by rw [List.take_succ_eq_append_getElem hj,List.reverse_append]; rfl
   rw [hrev,takeE_cons] at hq
   obtain ⟨hx1,sv1,hs1,hs2⟩:=L1
   have L1' : LS τ x c s1 deep:=⟨hx1,sv1,hs1,hs2⟩
   have hf0:=hal
   have hsl:=hs2.len
   have hwj : IntKind.wrap .i64 ((j : Int) - 1) = (j : Int) - 1:=by rw [wrap_i64] <;> omega
   have next : ∀ (a' : Nat → AV) (τ' : AS) (s' : St),KeepL x τ τ' → LS τ' x c s' deep → takeE (ts.take j).reverse s' = takeE ts.reverse s → s'.stack.length ≤ s1.stack.length → a' 0 = .fn (.yield l) [] [] → a' 1 = .ptr (σ.no + 1) 0 → a' 3 = .int .i64 ((j : Int) - 1) →
     TI x c deep (σ.no + 1) σ2.nf l σ2.newF ts s a' τ' ∧ TM a' τ' < TM a τ:=by
    intro a' τ' s' K' L' e' l' b0 b1 b3
    refine ⟨⟨j,s',by omega,b0,b1,b3,L',K1.trans K',by omega,e'⟩,?_⟩
    simp only [TM,a3,b3]
    omega
   by_cases hn : s1.stack.length = 0
   ·have hn' : s1.stack = []:=List.length_eq_zero_iff.1 hn
    rw [if_pos (.inl hn)] at hq
    simp [pc145_l1,a0,a1,a3,hob,hj,pc126_yya,pc126_yyb,hal,hob0,hs1,hsl,hn']
    refine w_must_calls (fun _=>?_) (fun q=>by simp at q)
    simp [hob0]
    refine drop_calls L1' (by omega) ?_
    cases hd : dropE s1 with
    | ok s' =>
     rw [hd] at hq
     intro τ' K' L'
     simp [hal,hnu τ' (K1.trans K'),a0,a1,a3,hwj]
     exact next _ τ' s' K' L' hq (dropE_le hd) (by simp [a0]) (by simp [a1]) (by simp)
    | error e =>
     rw [hd] at hq
     simp only at hq
     rw [← hq] at h
     intro τ' K'
     simp [hal,hnu τ' (K1.trans K')]
     exact h _ (back τ' (K1.trans K'))
   ·obtain ⟨φ,v,hrd,hlast,hix⟩:=hs2.last (by omega)
    have hix':=hix _ rfl
    have hw1 : IntKind.wrap .i64 ((s1.stack.length : Int) - 1) = (s1.stack.length : Int) - 1:=by rw [wrap_i64] <;> omega
    have hne : ¬ s1.stack = []:=fun q=>hn (by rw [q]; rfl)
    by_cases hvt : v = ts[j]
    ·rw [if_pos (.inr (by rw [hlast,hvt]))] at hq
     subst hvt
     simp [pc145_l1,a0,a1,a3,hob,hj,pc126_yya,pc126_yyb,hal,hob0,hs1,hsl,hne,hix',hw1,hrd]
     refine w_must_calls (fun _=>?_) (fun q=>by simp at q)
     simp [hob0]
     refine drop_calls L1' (by omega) ?_
     cases hd : dropE s1 with
     | ok s' =>
      rw [hd] at hq
      intro τ' K' L'
      simp [hal,hnu τ' (K1.trans K'),a0,a1,a3,hwj]
      exact next _ τ' s' K' L' hq (dropE_le hd) (by simp [a0]) (by simp [a1]) (by simp)
     | error e =>
      rw [hd] at hq
      simp only at hq
      rw [← hq] at h
      intro τ' K'
      simp [hal,hnu τ' (K1.trans K')]
      exact h _ (back τ' (K1.trans K'))
    ·rw [if_neg (by rintro (q | q); exact hn q; rw [hlast] at q; exact hvt (Option.some.inj q))] at hq
     rw [← hq] at h
     simp [pc145_l1,a0,a1,a3,hob,hj,pc126_yya,pc126_yyb,hal,hob0,hs1,hsl,hne,hix',hw1,hrd,hvt]
     refine w_must_calls (fun q=>by simp at q) (fun _=>?_)
     simp [hal]
     exact h _ (back τ K1)
 simp [pc145,ho1,hv.len,hw0]
 exact start _ ⟨ts.length,s,Nat.le_refl _,by simp,by simp,by simp,L2,.refl _ _,Nat.le_refl _,by rw [List.take_length]⟩
end Go.Proofs.YthejpoplbllcbaaGreatDoor
set_option linter.unusedSimpArgs false
set_option linter.unusedVariables false
namespace Go.Proofs.YthejpoplbllcbaaGreatDoor
open Go Go.Abs
def CkAt (σ : AS) (c : Nat) (m : M) (f : F) (ls : List Int) : Prop := c < σ.no ∧ ∃ fsv pv lv tv sv,σ.objs c = some [fsv,.int .i64 m.memory,.int .i64 m.main,.str f.name,pv,lv,.int .i64 f.type,tv,sv] ∧ FsV fsv m.funcs ∧ IntsV pv f.params ∧ IntsV lv f.locals ∧ ListsV tv f.lists ∧ IntsV sv ls
theorem CkAt.adds {σ σ' c m f ls} (h : CkAt σ c m f ls) (A : Adds σ σ') : CkAt σ' c m f ls := by
 obtain ⟨hc,fsv,pv,lv,tv,sv,ho,r⟩:=h
 exact ⟨Nat.lt_of_lt_of_le hc A.no,fsv,pv,lv,tv,sv,(A.obj c hc).trans ho,r⟩
theorem CkAt.keep {σ σ' x c m f ls} (h : CkAt σ c m f ls) (K : KeepL x σ σ') (hx : c ≠ x) : CkAt σ' c m f ls := by
 obtain ⟨hc,fsv,pv,lv,tv,sv,ho,r⟩:=h
 exact ⟨Nat.lt_of_lt_of_le hc K.no,fsv,pv,lv,tv,sv,(K.obj c hc hx).trans ho,r⟩
theorem returns_calls {G : Env} {σ : AS} {R : Out → AS → Prop} {x c : Nat} {s : St} {deep : Int} {m : M} {f : F} {ls : List Int} (L : LS σ x c s deep) (C : CkAt σ c m f ls) (hb : s.stack.length ≤ 2 ^ 40) (h : FinE R x c deep σ (returnsE f.type s)) : ACalls Tryz.prog G 112 [.ptr x 0] σ R := by
 refine calls112 rfl ?_
 obtain ⟨hc,fsv,pv,lv,tv,lsv,hco,_⟩:=C
 obtain ⟨hx,sv,ho,hs⟩:=L
 unfold returnsE at h
 by_cases ht : f.type = 0
 ·rw [if_pos ht] at h
  simp [pc112,ho,hco,ht]
  exact h σ (.refl _ _) ⟨hx,sv,ho,hs⟩
 ·rw [if_neg ht] at h
  simp [pc112,ho,hco,ht]
  refine w_take_calls (ts:=[f.type]) (.inr ⟨_,rfl⟩) (by simp) ⟨hx,sv,ho,hs⟩ hb ?_
  have e : [f.type].reverse = [f.type]:=rfl
  rw [e]
  revert h
  cases takeE [f.type] s with
  | ok s'=>intro h σ' K L; simp; exact h σ' K L
  | error e=>intro h σ' K; simp; exact h σ' K
theorem form_calls {G : Env} (V : Vars G) {σ : AS} {R : Out → AS → Prop} {w : W} (h : ∀ σ',Adds σ σ' → R (.ret (.bool (formB w))) σ') : ACalls Tryz.prog G 124 [w.av] σ R := by
 refine calls124 rfl ?_
 unfold formB at h
 have A : Adds σ (σ.newO w.cs):=(Adds.refl σ).newO
 simp only [W.cs] at A
 by_cases h1 : w.op = 1
 ·rw [if_pos (.inl h1)] at h
  simp [pc124,W.av,W.cs,h1]
  refine w_number_calls ?_
  simp
  simpa [h1] using h _ A
 by_cases h5 : w.op = 5
 ·rw [if_pos (.inr h5)] at h
  simp [pc124,W.av,W.cs,h5]
  refine w_number_calls ?_
  simp
  simpa [h5] using h _ A
 rw [if_neg (by omega)] at h
 by_cases h4 : w.op = 4
 ·rw [if_pos h4] at h
  simp [pc124,W.av,W.cs,h4]
  refine w_number_calls ?_
  cases hn : numberB w.ty with
  | false =>
   rw [hn] at h
   simp
   simpa [h4] using h _ A
  | true =>
   rw [hn] at h
   simp
   refine sign_calls V fun σ1 A1=>?_
   simp
   have:=h _ ((by simpa [h4] using A : Adds σ _).trans A1)
   cases hq : signOf signs w.name with
   | nil=>rw [hq] at this; simpa using this
   | cons a l=>rw [hq] at this; simpa using this
 rw [if_neg h4] at h
 by_cases h8 : w.op = 8
 ·rw [if_pos (.inl h8)] at h
  simp [pc124,W.av,W.cs,h8]
  refine bytes_calls ?_
  simp
  simpa [h8] using h _ A
 by_cases h9 : w.op = 9
 ·rw [if_pos (.inr h9)] at h
  simp [pc124,W.av,W.cs,h9]
  refine bytes_calls ?_
  simp
  simpa [h9] using h _ A
 rw [if_neg (by omega)] at h
 by_cases k1 : 1 ≤ w.op
 ·by_cases k2 : w.op ≤ 18
  ·simp [k1,k2] at h
   simp [pc124,W.av,W.cs,h1,h5,h4,h8,h9,k1,k2]
   exact h _ A
  ·simp [k1,k2] at h
   simp [pc124,W.av,W.cs,h1,h5,h4,h8,h9,k1,k2]
   exact h _ A
 ·simp [k1] at h
  simp [pc124,W.av,W.cs,h1,h5,h4,h8,h9,k1]
  exact h _ A
def HeadV (v : AV) (r : Option (List Int × Int)) : Prop := match r with
 | some (ts,g)=>∃ tv,v = .tuple [.agg [tv,.int .i64 g],.bool true] ∧ IntsV tv ts
 | none=>v = .tuple [.agg [.nilsl,.int .i64 0],.bool false]
theorem headOf_calls {G : Env} {σ : AS} {R : Out → AS → Prop} {mv : AV} {m : M} {n : Int} (hm : MV mv m) (hb : n ≤ 2 ^ 63 - 1) (h : ∀ v σ',HeadV v (headOf m.funcs n) → Adds σ σ' → R (.ret v) σ') : ACalls Tryz.prog G 138 [mv,.int .i64 n] σ R := by
 refine calls138 rfl ?_
 obtain ⟨fv,rfl,hf⟩:=hm
 unfold headOf at h
 have A0 : ∀ c1 c2 c3 : List AV,Adds σ (((σ.newO c1).newO c2).setO (σ.no + 1) c3):=fun _ _ _=>((Adds.refl σ).newO.newO).setO (by omega)
 by_cases n0 : n = 0
 ·rw [if_pos n0] at h
  simp [pc138,n0,splice]
  exact h _ _ ⟨_,rfl,.inl ⟨rfl,rfl⟩⟩ (A0 _ _ _)
 rw [if_neg n0] at h
 by_cases n1 : n = 1
 ·rw [if_pos n1] at h
  simp [pc138,n1,splice]
  exact h _ _ ⟨_,rfl,.inr ⟨_,rfl⟩⟩ (A0 _ _ _)
 rw [if_neg n1] at h
 by_cases n2 : n = 2
 ·rw [if_pos n2] at h
  simp [pc138,n2,splice]
  exact h _ _ ⟨_,rfl,.inr ⟨_,rfl⟩⟩ (A0 _ _ _)
 rw [if_neg n2] at h
 by_cases n3 : n < 0
 ·rw [if_pos n3] at h
  simp [pc138,n0,n1,n2,n3,splice]
  exact h _ _ rfl (A0 _ _ _)
 rw [if_neg n3] at h
 have hw : IntKind.wrap .i64 (n - 3) = n - 3:=by rw [wrap_i64] <;> omega
 have hl:=hf.len
 by_cases n4 : (m.funcs.length : Int) ≤ n - 3
 ·have e : m.funcs[(n - 3).toNat]? = none:=List.getElem?_eq_none (by omega)
  rw [e] at h
  simp [pc138,n0,n1,n2,n3,n4,splice,hl,hw]
  exact h _ _ rfl (A0 _ _ _)
 ·rcases hf with ⟨e0,rfl⟩ | ⟨b,rows,rfl,hr⟩
  ·rw [e0] at n4; simp at n4; omega
  have hlt : (n - 3).toNat < m.funcs.length:=by omega
  have hg : m.funcs[(n - 3).toNat]? = some m.funcs[(n - 3).toNat]:=List.getElem?_eq_getElem hlt
  obtain ⟨row,hrow,pv,lv,tv,rfl,hp,hlv,htv⟩:=hr.get hg
  rw [hg] at h
  have h3 : 0 ≤ n - 3:=by omega
  have p1:=hp.one
  simp [pc138,n0,n1,n2,n3,n4,splice,hl,hw,hrow,h3,p1]
  refine ⟨by omega,⟨hlv.one.2.1,htv.one.2.1⟩,h _ _ ⟨_,rfl,hp⟩ ?_⟩
  exact (((Adds.refl σ).newO.newO.newO).setO (by omega)).setO (by omega)
theorem w_ranged_calls {G : Env} {σ : AS} {R : Out → AS → Prop} {x c : Nat} {s : St} {deep : Int} {m : M} {f : F} {ls : List Int} {w : W} (L : LS σ x c s deep) (C : CkAt σ c m f ls) (hb : w.n ≤ 2 ^ 63 - 1) (h : ∀ σ',Adds σ σ' → R (.ret (.bool (rangedB m.funcs ls deep w))) σ') : ACalls Tryz.prog G 125 [.ptr x 0,w.av] σ R := by
 refine calls125 rfl ?_
 obtain ⟨hc,fsv,pv,lv,tv,lsv,hco,hfs,hpv,hlv,htv,hls⟩:=C
 obtain ⟨hx,sv,ho,hs⟩:=L
 have A : Adds σ (σ.newO w.cs):=(Adds.refl σ).newO
 simp only [W.cs] at A
 have hx' : x ≠ σ.no:=by omega
 have hc' : c ≠ σ.no:=by omega
 unfold rangedB at h
 by_cases h1 : w.op = 1
 ·rw [if_pos h1] at h
  simp [pc125,W.av,W.cs,h1]
  refine wrap_calls ?_
  simp
  simpa [h1] using h _ A
 rw [if_neg h1] at h
 by_cases h2 : w.op = 2 ∨ w.op = 3
 ·rw [if_pos h2] at h
  have hl:=hls.len
  by_cases k1 : 0 ≤ w.n
  ·by_cases k2 : w.n < (ls.length : Int)
   ·simp [k1,k2] at h
    rcases h2 with h2 | h2 <;> simp [pc125,W.av,W.cs,h1,h2,ho,hco,hx',hc',hl,k1,k2] <;> exact h _ (by simpa [h2] using A)
   ·simp [k1,k2] at h
    rcases h2 with h2 | h2 <;> simp [pc125,W.av,W.cs,h1,h2,ho,hco,hx',hc',hl,k1,k2] <;> exact h _ (by simpa [h2] using A)
  ·simp [k1] at h
   rcases h2 with h2 | h2 <;> simp [pc125,W.av,W.cs,h1,h2,ho,hco,hx',hc',hl,k1] <;> exact h _ (by simpa [h2] using A)
 rw [if_neg h2] at h
 have h2a : ¬ w.op = 2:=fun q=>h2 (.inl q)
 have h2b : ¬ w.op = 3:=fun q=>h2 (.inr q)
 by_cases h10 : w.op = 10
 ·rw [if_pos h10] at h
  simp [pc125,W.av,W.cs,h10,ho,hco,hx',hc']
  have hx'' : x ≠ σ.no + 1:=by omega
  have hc'' : c ≠ σ.no + 1:=by omega
  have A' : Adds σ (σ.newO [.int .i64 10,.int .i64 w.ty,.int .i64 w.n,.int .i64 w.body,.int .i64 w.other,.str w.name]):=by simpa [h10] using A
  constructor
  ·refine headOf_calls (m:=m) ⟨_,rfl,hfs⟩ hb fun v σ1 hv A1=>?_
   have A2:=A'.trans A1
   cases hq : headOf m.funcs w.n with
   | none =>
    rw [hq] at hv h
    simp only [HeadV] at hv
    subst hv
    simp [splice]
    exact h _ (A2.newO.setO A2.no)
   | some p =>
    rw [hq] at hv h
    obtain ⟨y,rfl,hy⟩:=hv
    have y1:=hy.one
    simp [splice,y1]
    exact h _ (A2.newO.setO A2.no)
  ·simp [ho,hco,hx',hc',hx'',hc'']
   refine headOf_calls (m:=m) ⟨_,rfl,hfs⟩ hb fun v σ1 hv A1=>?_
   have A2 : Adds σ σ1:=(A'.newO).trans A1
   have hnew : σ1.objs (σ.no + 1) = some [.nilsl,.int .i64 0]:=(A1.obj (σ.no + 1) (by simp)).trans (by simp)
   cases hq : headOf m.funcs w.n with
   | none =>
    rw [hq] at hv h
    simp only [HeadV] at hv
    subst hv
    simp [splice,hnew]
    exact h _ (A2.setO (by omega))
   | some p =>
    rw [hq] at hv h
    obtain ⟨y,rfl,hy⟩:=hv
    have y1:=hy.one
    simp [splice,y1,hnew]
    exact h _ (A2.setO (by omega))
 rw [if_neg h10] at h
 by_cases h14 : w.op = 14 ∨ w.op = 15
 ·rw [if_pos h14] at h
  by_cases k1 : 0 ≤ w.n
  ·by_cases k2 : w.n ≤ deep
   ·simp [k1,k2] at h
    rcases h14 with h14 | h14 <;> simp [pc125,W.av,W.cs,h14,ho,hco,hx',hc',k1,k2] <;> exact h _ (by simpa [h14] using A)
   ·simp [k1,k2] at h
    rcases h14 with h14 | h14 <;> simp [pc125,W.av,W.cs,h14,ho,hco,hx',hc',k1,k2] <;> exact h _ (by simpa [h14] using A)
  ·simp [k1] at h
   rcases h14 with h14 | h14 <;> simp [pc125,W.av,W.cs,h14,ho,hco,hx',hc',k1] <;> exact h _ (by simpa [h14] using A)
 rw [if_neg h14] at h
 have h14a : ¬ w.op = 14:=fun q=>h14 (.inl q)
 have h14b : ¬ w.op = 15:=fun q=>h14 (.inr q)
 simp [pc125,W.av,W.cs,h1,h2a,h2b,h10,h14a,h14b]
 exact h _ A
end Go.Proofs.YthejpoplbllcbaaGreatDoor
set_option linter.unusedSimpArgs false
set_option linter.unusedVariables false
namespace Go.Proofs.YthejpoplbllcbaaGreatDoor
open Go Go.Abs
@[simp] theorem abin_add_str {P : Program} (t) (x y : List UInt8) {K : AV → Prop} : abin P .add t (.str x) (.str y) K = (x.length + y.length < 2 ^ 62 ∧ K (.str (x ++ y))) := by simp only [abin,strCmp]
theorem Vars.cell {G : Env} (V : Vars G) {M F w} (g : GOk Tryz.prog G M F w) : ∃ m,w.cell? ⟨6,0,none⟩ = some (.int .i64 m) := by
 obtain ⟨m,hm⟩:=V.max
 have h:=g.vars 6
 rw [hm] at h
 cases h with
 | pv φ v B off cs hmem hc hv =>
  have h1:=hc trivial 0 (by simp)
  have h2:=hv trivial 0 (by simp)
  simp at h2
  generalize cs 0 = c at h1 h2
  cases h2
  exact ⟨m,h1⟩
theorem contains_calls {G : Env} (V : Vars G) {s t : List UInt8} {σ : AS} {R : Out → AS → Prop} (hl : s.length < 4294967281) (h : R (.ret (.bool (Lib.contains s t))) σ) : ACalls Tryz.prog G 141 [.str s,.str t] σ R := by
 refine ACalls.of_below fun M w cargs S g hc=>?_
 obtain ⟨m,hm⟩:=V.cell g
 obtain ⟨c0,e0,v0⟩:=hc.2 0 _ rfl
 obtain ⟨c1,e1,v1⟩:=hc.2 1 _ rfl
 obtain ⟨b0,rfl,rfl⟩:=v0.str_inv
 obtain ⟨b1,rfl,rfl⟩:=v1.str_inv
 have hcargs : cargs = #[.string b0,.string b1]:=by
  have hsz : cargs.size = 2:=hc.1
  apply Array.ext
  ·simpa using hsz
  ·intro i h1 h2
   match i,h1 with
   | 0,_=>simpa using (Array.getElem?_eq_some_iff.1 e0).2
   | 1,_=>simpa using (Array.getElem?_eq_some_iff.1 e1).2
   | i + 2,h=>omega
 rw [hcargs]
 refine (Tryz.strings_Contains b0 b1 m w (by simpa using hl) hm).mono fun e w' ⟨he,hw⟩=>?_
 subst he hw
 exact ⟨⟨.bool _,_,rfl,fun M F w=>.bool _,h⟩,rfl,rfl,rfl,Nat.le_refl _,fun _ _=>rfl⟩
theorem takeE_le : ∀ {ts : List Int} {s s' : St},takeE ts s = .ok s' → s'.stack.length ≤ s.stack.length
 | [],s,s',h=>by simp [takeE] at h; subst h; exact Nat.le_refl _
 | t :: ts,s,s',h=>by
  rw [takeE] at h
  split at h
  ·cases hd : dropE s with
   | error e=>rw [hd] at h; cases h
   | ok s1=>rw [hd] at h; exact Nat.le_trans (takeE_le h) (dropE_le hd)
  ·cases h
theorem sign_short : ∀ s,signOf signs s ≠ [] → s.length ≤ 5 := by
 have key : ∀ (l : List (List UInt8 × List UInt8)),(∀ p ∈ l,p.1.length ≤ 5) → ∀ s,signOf l s ≠ [] → s.length ≤ 5:=by
  intro l
  induction l with
  | nil=>intro _ s h; simp [signOf] at h
  | cons p l ih =>
   intro hp s h
   obtain ⟨x,y⟩:=p
   rw [signOf] at h
   by_cases e : x = s
   ·subst e; exact hp (x,y) (by simp)
   ·rw [if_neg e] at h; exact ih (fun q hq=>hp q (by simp [hq])) s h
 exact key signs (by decide)
section
variable {G : Env} {σ : AS} {R : Out → AS → Prop} {x c : Nat} {s : St} {deep : Int} {m : M} {f : F} {ls : List Int} {w : W}
theorem plain_calls (V : Vars G) (L : LS σ x c s deep) (C : CkAt σ c m f ls) (hcx : c ≠ x) (hb : s.stack.length ≤ 2 ^ 39) (hn : w.n ≤ 2 ^ 63 - 1) (hps : ∀ g ∈ m.funcs,g.params.length ≤ 2 ^ 30) (hf : formB w = true) (hr : rangedB m.funcs ls deep w = true)
  (h : FinE R x c deep σ (plainE m.funcs ls w s)) : ACalls Tryz.prog G 129 [.ptr x 0,w.av] σ R:=by
 refine calls129 rfl ?_
 have A : Adds σ (σ.newO w.cs):=(Adds.refl σ).newO
 have La:=L.adds A
 have Ca:=C.adds A
 have Ka:=A.keepL L.1
 have hwo : (σ.newO w.cs).objs σ.no = some [.int .i64 w.op,.int .i64 w.ty,.int .i64 w.n,.int .i64 w.body,.int .i64 w.other,.str w.name]:=by simp [W.cs]
 have hwl : σ.no < (σ.newO w.cs).no:=by simp
 have hxw : σ.no ≠ x:=by have:=L.1; omega
 simp [pc129,W.av,W.cs]
 rw [show σ.newO [AV.int IntKind.i64 w.op,AV.int IntKind.i64 w.ty,AV.int IntKind.i64 w.n,AV.int IntKind.i64 w.body,AV.int IntKind.i64 w.other,AV.str w.name] = σ.newO w.cs from rfl]
 generalize hσa : σ.newO w.cs = σa at *
 obtain ⟨hc,fsv,pv,lv,tv,lsv,hco,hfs,hpv,hlv,htv,hls⟩:=Ca
 obtain ⟨hx,sv,ho,hs⟩:=La
 have La : LS σa x c s deep:=⟨hx,sv,ho,hs⟩
 -- the ends
 have fin : ∀ r : Res St,FinE R x c deep σ r → FinE (ends (fun v σ'=>R (.ret (.tuple [])) σ') fun v σ'=>R (.panic v) σ') x c deep σa r:=by
  intro r hr
  cases r with
  | ok s'=>intro σ' K L'; simp; exact hr σ' (Ka.trans K) L'
  | error e=>intro σ' K; simp; exact hr σ' (Ka.trans K)
 unfold plainE at h
 by_cases h1 : w.op = 1
 ·rw [if_pos h1] at h
  simp [h1,hwo]
  refine give_calls La (by omega) fun σ' K L'=>?_
  simp
  exact h σ' (Ka.trans K) L'
 rw [if_neg h1] at h
 by_cases h2 : w.op = 2
 ·rw [if_pos h2] at h
  have hr2 : 0 ≤ w.n ∧ w.n < (ls.length : Int):=by simpa [rangedB,h1,h2] using hr
  rcases hls with ⟨e,_⟩ | ⟨b,rfl⟩
  ·rw [e] at hr2; simp at hr2; omega
  have hlt : w.n.toNat < ls.length:=by omega
  have e1 : ls.getD w.n.toNat 0 = ls[w.n.toNat]:=by rw [List.getD_eq_getElem?_getD,List.getElem?_eq_getElem hlt]; rfl
  simp [h2,hwo,ho,hco,hr2.1,hlt]
  refine give_calls La (by omega) fun σ' K L'=>?_
  simp
  unfold localAt at h
  rw [e1] at h
  exact h σ' (Ka.trans K) L'
 rw [if_neg h2] at h
 by_cases h3 : w.op = 3
 ·rw [if_pos h3] at h
  have hr2 : 0 ≤ w.n ∧ w.n < (ls.length : Int):=by simpa [rangedB,h1,h2,h3] using hr
  rcases hls with ⟨e,_⟩ | ⟨b,rfl⟩
  ·rw [e] at hr2; simp at hr2; omega
  have hlt : w.n.toNat < ls.length:=by omega
  have e1 : ls.getD w.n.toNat 0 = ls[w.n.toNat]:=by rw [List.getD_eq_getElem?_getD,List.getElem?_eq_getElem hlt]; rfl
  simp [h3,hwo,ho,hco,hr2.1,hlt]
  unfold localAt at h
  rw [e1] at h
  refine w_take_calls (ts:=[ls[w.n.toNat]]) (.inr ⟨_,rfl⟩) (by simp) La (by omega) ?_
  have e : [ls[w.n.toNat]].reverse = [ls[w.n.toNat]]:=rfl
  rw [e]
  revert h
  cases takeE [ls[w.n.toNat]] s with
  | ok s'=>intro h σ' K L; simp; exact h σ' (Ka.trans K) L
  | error e=>intro h σ' K; simp; exact h σ' (Ka.trans K)
 rw [if_neg h3] at h
 -- takes,and gives
 have tgB : ∀ {R' : Out → AS → Prop} {σb : AS} (Kb : KeepL x σ σb) (Lb : LS σb x c s deep) (o : Nat) (cs : List AV) (ts : List Int) (tv : AV) (t : Int),σb.objs o = some cs → o < σb.no → o ≠ x → IntsV tv ts → ts.length ≤ 2 ^ 30 → FinE R x c deep σ (gives (takeE ts.reverse s) t) →
   (∀ σ1 s1,s1.stack.length ≤ 2 ^ 39 → KeepL x σb σ1 → LS σ1 x c s1 deep → σ1.objs o = some cs → (∀ σ2,KeepL x σ1 σ2 → LS σ2 x c (giveS s1 t) deep → R (.ret (.tuple [])) σ2) → R' (.ret (.tuple [])) σ1) →
   (∀ e σ1,R (.panic (stopV e)) σ1 → R' (.panic (stopV e)) σ1) → ACalls Tryz.prog G 126 [.ptr x 0,tv] σb R':=by
  intro R' σb Kb Lb o cs ts tv t hob hlo hox hv hl hr k1 k2
  refine w_take_calls hv (by omega) Lb (by omega) ?_
  cases hq : takeE ts.reverse s with
  | error e =>
   rw [hq] at hr
   exact fun σ1 K=>k2 e σ1 (hr σ1 (Kb.trans K))
  | ok s1 =>
   rw [hq] at hr
   exact fun σ1 K L'=>k1 σ1 s1 (by have:=takeE_le hq; omega) K L' ((K.obj o hlo hox).trans hob) fun σ2 K2 L2=>hr σ2 (Kb.trans (K.trans K2)) L2
 have tg : ∀ {R' : Out → AS → Prop} (ts : List Int) (tv : AV) (t : Int),IntsV tv ts → ts.length ≤ 2 ^ 30 → FinE R x c deep σ (gives (takeE ts.reverse s) t) →
   (∀ σ1 s1,s1.stack.length ≤ 2 ^ 39 → KeepL x σa σ1 → LS σ1 x c s1 deep → σ1.objs σ.no = some [.int .i64 w.op,.int .i64 w.ty,.int .i64 w.n,.int .i64 w.body,.int .i64 w.other,.str w.name] → (∀ σ2,KeepL x σ1 σ2 → LS σ2 x c (giveS s1 t) deep → R (.ret (.tuple [])) σ2) → R' (.ret (.tuple [])) σ1) →
   (∀ e σ1,R (.panic (stopV e)) σ1 → R' (.panic (stopV e)) σ1) → ACalls Tryz.prog G 126 [.ptr x 0,tv] σa R':=fun ts tv t hv hl hr k1 k2=>tgB Ka La σ.no _ ts tv t hwo hwl hxw hv hl hr k1 k2
 by_cases h4 : w.op = 4
 ·rw [if_pos h4] at h
  have hsig : w.name.length ≤ 5:=by
   refine sign_short _ fun q=>?_
   simp [formB,h4,q] at hf
  simp [h4,hwo]
  refine tg [w.ty,w.ty] _ _ (.inr ⟨_,rfl⟩) (by simp) h (fun σ1 s1 hb1 K1 L1 hw1 fin1=>?_) (fun e σ1 hh=>by simp; exact hh)
  simp [hw1]
  refine ⟨by omega,by omega,contains_calls V ?_ ?_⟩
  ·decide
  have hcmp : Lib.contains [32,101,113,32,110,101,32,108,116,95,115,32,108,101,95,115,32,103,116,95,115,32,103,101,95,115,32] (32 :: (w.name ++ [32])) = cmpB w.name:=rfl
  simp [hcmp]
  cases hq : cmpB w.name with
  | true =>
   rw [hq] at fin1
   simp [hw1]
   refine give_calls L1 (by omega) fun σ2 K2 L2=>?_
   simp
   exact fin1 σ2 K2 L2
  | false =>
   rw [hq] at fin1
   simp [hw1]
   refine give_calls L1 (by omega) fun σ2 K2 L2=>?_
   simp
   exact fin1 σ2 K2 L2
 rw [if_neg h4] at h
 by_cases h5 : w.op = 5
 ·rw [if_pos h5] at h
  simp [h5,hwo]
  refine tg [w.ty] _ _ (.inr ⟨_,rfl⟩) (by simp) h (fun σ1 s1 hb1 K1 L1 hw1 fin1=>?_) (fun e σ1 hh=>by simp; exact hh)
  simp [hw1]
  refine give_calls L1 (by omega) fun σ2 K2 L2=>?_
  simp
  exact fin1 σ2 K2 L2
 rw [if_neg h5] at h
 by_cases h6 : w.op = 6
 ·rw [if_pos h6] at h
  simp [h6,hwo]
  refine tg [2] _ _ (.inr ⟨_,rfl⟩) (by simp) h (fun σ1 s1 hb1 K1 L1 hw1 fin1=>?_) (fun e σ1 hh=>by simp; exact hh)
  simp [hw1]
  refine give_calls L1 (by omega) fun σ2 K2 L2=>?_
  simp
  exact fin1 σ2 K2 L2
 rw [if_neg h6] at h
 by_cases h7 : w.op = 7
 ·rw [if_pos h7] at h
  simp [h7,hwo]
  refine tg [1] _ _ (.inr ⟨_,rfl⟩) (by simp) h (fun σ1 s1 hb1 K1 L1 hw1 fin1=>?_) (fun e σ1 hh=>by simp; exact hh)
  simp [hw1]
  refine give_calls L1 (by omega) fun σ2 K2 L2=>?_
  simp
  exact fin1 σ2 K2 L2
 rw [if_neg h7] at h
 by_cases h8 : w.op = 8
 ·rw [if_pos h8] at h
  simp [h8,hwo]
  refine tg [1] _ _ (.inr ⟨_,rfl⟩) (by simp) h (fun σ1 s1 hb1 K1 L1 hw1 fin1=>?_) (fun e σ1 hh=>by simp; exact hh)
  simp [hw1]
  refine give_calls L1 (by omega) fun σ2 K2 L2=>?_
  simp
  exact fin1 σ2 K2 L2
 rw [if_neg h8] at h
 by_cases h9 : w.op = 9
 ·rw [if_pos h9] at h
  simp [h9,hwo]
  refine w_take_calls (ts:=[1,w.ty]) (.inr ⟨_,rfl⟩) (by simp) La (by omega) ?_
  have e : [1,w.ty].reverse = [w.ty,1]:=rfl
  rw [e]
  revert h
  cases takeE [w.ty,1] s with
  | ok s'=>intro h σ' K L; simp; exact h σ' (Ka.trans K) L
  | error e=>intro h σ' K; simp; exact h σ' (Ka.trans K)
 rw [if_neg h9] at h
 by_cases h10 : w.op = 10
 ·rw [if_pos h10] at h
  have hh : (headOf m.funcs w.n).isSome = true:=by simpa [rangedB,h1,h2,h3,h10] using hr
  obtain ⟨⟨ts,g⟩,hq⟩:=Option.isSome_iff_exists.1 hh
  rw [hq] at h
  simp only at h
  have htl : ts.length ≤ 2 ^ 30:=by
   unfold headOf at hq
   split at hq
   ·cases hq; simp
   ·split at hq
    ·cases hq; simp
    ·split at hq
     ·cases hq; simp
     ·split at hq
      ·cases hq
      ·obtain ⟨fn,hfn,e⟩:=Option.map_eq_some_iff.1 hq
       cases e
       exact hps _ (List.mem_of_getElem? hfn)
  have hcw : c ≠ σa.no:=by omega
  have hxw' : x ≠ σa.no:=by omega
  simp [h10,hwo,ho,hco]
  constructor
  ·refine headOf_calls (m:=m) ⟨_,rfl,hfs⟩ hn fun v σ1 hv A1=>?_
   rw [hq] at hv
   obtain ⟨y,rfl,hy⟩:=hv
   have y1:=hy.one
   simp [splice,y1]
   have A2 : Adds σa ((σ1.newO [.nilsl,.int .i64 0]).setO σ1.no [y,.int .i64 g]):=A1.newO.setO A1.no
   have Lb:=La.adds A2
   refine tgB (Ka.trans (A2.keepL hx)) Lb σ1.no [y,.int .i64 g] ts y g (by simp) (by simp) (by have:=A1.no; omega) hy htl h (fun σ3 s1 hb1 K1 L1 hw1 fin1=>?_) (fun e σ1 hh=>by simp; exact hh)
   simp [hw1]
   refine give_calls L1 (by omega) fun σ2 K2 L2=>?_
   simp
   exact fin1 σ2 K2 L2
  ·have hx2 : x ≠ σ.no:=fun q=>hxw q.symm
   simp [ho,hco,hcw,hxw',hwo,show σ.no ≠ σa.no from by omega]
   refine headOf_calls (m:=m) ⟨_,rfl,hfs⟩ hn fun v σ1 hv A1=>?_
   rw [hq] at hv
   obtain ⟨y,rfl,hy⟩:=hv
   have y1:=hy.one
   have hnew : σ1.objs σa.no = some [.nilsl,.int .i64 0]:=(A1.obj σa.no (by simp)).trans (by simp)
   simp [splice,y1,hnew]
   have hle : σa.no + 1 ≤ σ1.no:=by have:=A1.no; simpa using this
   have A2 : Adds σa (σ1.setO σa.no [y,.int .i64 g]):=(((Adds.refl σa).newO).trans A1).setO (Nat.le_refl _)
   have Lb:=La.adds A2
   refine tgB (Ka.trans (A2.keepL hx)) Lb σa.no [y,.int .i64 g] ts y g (by simp) (by simp; omega) (fun q=>hxw' q.symm) hy htl h (fun σ3 s1 hb1 K1 L1 hw1 fin1=>?_) (fun e σ1 hh=>by simp; exact hh)
   simp [hw1]
   refine give_calls L1 (by omega) fun σ2 K2 L2=>?_
   simp
   exact fin1 σ2 K2 L2
 rw [if_neg h10] at h
 by_cases h18 : w.op = 18
 ·rw [if_pos h18] at h
  simp [h18,hwo]
  refine drop_calls La (by omega) ?_
  revert h
  cases dropE s with
  | ok s'=>intro h σ' K L; simp; exact h σ' (Ka.trans K) L
  | error e=>intro h σ' K; simp; exact h σ' (Ka.trans K)
 rw [if_neg h18] at h
 simp [h1,h2,h3,h4,h5,h6,h7,h8,h9,h10,h18,hwo]
 exact h σa Ka La
end
end Go.Proofs.YthejpoplbllcbaaGreatDoor
set_option linter.unusedSimpArgs false
set_option linter.unusedVariables false
namespace Go.Proofs.YthejpoplbllcbaaGreatDoor
open Go Go.Abs
def FinU (R : Out → AS → Prop) (σ : AS) : Res Unit → Prop
 | .ok _=>∀ σ',Adds σ σ' → R (.ret (.tuple [])) σ'
 | .error e=>∀ σ',Adds σ σ' → R (.panic (stopV e)) σ'
def LookOk (G : Env) (m : M) (f : F) (ls : List Int) (B : Int) (lk : Look) : Prop := ∀ (c : Nat) (σ : AS) (at_ deep : Int) (R : Out → AS → Prop),CkAt σ c m f ls → 0 ≤ at_ → at_ < B → 0 ≤ deep → deep + at_ ≤ 2 ^ 40 → FinU R σ (lk at_ deep) → ACalls Tryz.prog G 89 [.ptr c 0,.int .i64 at_,.int .i64 deep] σ R
section
variable {G : Env} {σ : AS} {R : Out → AS → Prop} {x c : Nat} {s : St} {deep : Int} {m : M} {f : F} {ls : List Int} {w : W} {lk : Look} {B : Int}
set_option maxRecDepth 20000 in
theorem w_instr_calls (V : Vars G) (IH : LookOk G m f ls B lk) (L : LS σ x c s deep) (C : CkAt σ c m f ls) (hcx : c ≠ x) (hb : s.stack.length ≤ 2 ^ 38) (hd0 : 0 ≤ deep) (hd1 : deep ≤ 2 ^ 40) (hn : w.n ≤ 2 ^ 63 - 1) (hps : ∀ g ∈ m.funcs,g.params.length ≤ 2 ^ 30)
  (hnm : ∀ n ∈ namesL w,0 ≤ n ∧ n < B ∧ deep + 1 + n ≤ 2 ^ 40) (h : FinE R x c deep σ (instrE m.funcs ls f.type deep lk w s)) : ACalls Tryz.prog G 111 [.ptr x 0,w.av] σ R:=by
 refine calls111 rfl ?_
 have A : Adds σ (σ.newO w.cs):=(Adds.refl σ).newO
 have La:=L.adds A
 have Ca:=C.adds A
 have Ka:=A.keepL L.1
 have hwo : (σ.newO w.cs).objs σ.no = some [.int .i64 w.op,.int .i64 w.ty,.int .i64 w.n,.int .i64 w.body,.int .i64 w.other,.str w.name]:=by simp [W.cs]
 have hwl : σ.no < (σ.newO w.cs).no:=by simp
 have hxw : σ.no ≠ x:=by have:=L.1; omega
 have hcs : w.cs = [.int .i64 w.op,.int .i64 w.ty,.int .i64 w.n,.int .i64 w.body,.int .i64 w.other,.str w.name]:=rfl
 simp [pc111,W.av,hcs]
 rw [show σ.newO [AV.int IntKind.i64 w.op,AV.int IntKind.i64 w.ty,AV.int IntKind.i64 w.n,AV.int IntKind.i64 w.body,AV.int IntKind.i64 w.other,AV.str w.name] = σ.newO w.cs from rfl]
 rw [show AV.agg [AV.int IntKind.i64 w.op,AV.int IntKind.i64 w.ty,AV.int IntKind.i64 w.n,AV.int IntKind.i64 w.body,AV.int IntKind.i64 w.other,AV.str w.name] = w.av from rfl]
 generalize σ.newO w.cs = σa at *
 unfold instrE at h
 refine form_calls V fun σ1 A1=>?_
 cases hf : formB w with
 | false =>
  rw [if_pos hf] at h
  simp
  refine w_must_calls (fun q=>by simp at q) fun _=>?_
  simp
  exact h _ (Ka.trans (A1.keepL La.1))
 | true =>
 rw [if_neg (by rw [hf]; simp)] at h
 have hw1:=(A1.obj σ.no hwl).trans hwo
 simp
 refine w_must_calls (fun _=>?_) (fun q=>by simp at q)
 simp [hw1]
 rw [show AV.agg [AV.int IntKind.i64 w.op,AV.int IntKind.i64 w.ty,AV.int IntKind.i64 w.n,AV.int IntKind.i64 w.body,AV.int IntKind.i64 w.other,AV.str w.name] = w.av from rfl]
 refine w_ranged_calls (La.adds A1) (Ca.adds A1) hn fun σ2 A2=>?_
 have A12:=A1.trans A2
 cases hr : rangedB m.funcs ls deep w with
 | false =>
  rw [if_pos hr] at h
  simp
  refine w_must_calls (fun q=>by simp at q) fun _=>?_
  simp
  exact h _ (Ka.trans (A12.keepL La.1))
 | true =>
 rw [if_neg (by rw [hr]; simp)] at h
 have hw2:=(A2.obj σ.no (Nat.lt_of_lt_of_le hwl A1.no)).trans hw1
 have L2:=La.adds A12
 have C2:=Ca.adds A12
 have K2:=Ka.trans (A12.keepL La.1)
 have hwl2 : σ.no < σ2.no:=Nat.lt_of_lt_of_le hwl A12.no
 simp
 refine w_must_calls (fun _=>?_) (fun q=>by simp at q)
 simp [hw2]
 clear A1 A2 hw1 hwo A12 Ka La Ca
 have keepW : ∀ {σ3},KeepL x σ2 σ3 → σ3.objs σ.no = some [.int .i64 w.op,.int .i64 w.ty,.int .i64 w.n,.int .i64 w.body,.int .i64 w.other,.str w.name]:=fun K=>(K.obj σ.no hwl2 hxw).trans hw2
 have L2':=L2
 have C2':=C2
 obtain ⟨hc2,fsv,pv,lv,tv,lsv,hco,_⟩:=C2'
 obtain ⟨hx2,sv,ho,_⟩:=L2'
 have hwd : IntKind.wrap .i64 (deep + 1) = deep + 1:=by rw [wrap_i64] <;> omega
 by_cases h11 : w.op = 11 ∨ w.op = 12
 ·rw [if_pos h11] at h
  have hnn : namesL w = [w.body]:=by unfold namesL; rw [if_pos (by omega)]
  rw [hnn] at hnm
  have hb0:=hnm w.body (by simp)
  have go : FinU (ends (fun v σ'=>R (.ret (.tuple [])) σ') fun v σ'=>R (.panic v) σ') σ2 (lk w.body (deep + 1)):=by
   cases hq : lk w.body (deep + 1) with
   | ok u=>rw [hq] at h; intro σ3 A3; simp; exact h σ3 (K2.trans (A3.keepL hx2)) (L2.adds A3)
   | error e=>rw [hq] at h; intro σ3 A3; simp; exact h σ3 (K2.trans (A3.keepL hx2))
  rcases h11 with h11 | h11
  ·simp [h11,hw2,ho,hco,hwd]
   refine IH c σ2 w.body (deep + 1) _ C2 hb0.1 hb0.2.1 (by omega) hb0.2.2 ?_
   revert go
   cases lk w.body (deep + 1) with
   | ok u=>intro go σ3 A3; have:=go σ3 A3; simpa using this
   | error e=>intro go σ3 A3; have:=go σ3 A3; simpa using this
  ·simp [h11,hw2,ho,hco,hwd]
   refine IH c σ2 w.body (deep + 1) _ C2 hb0.1 hb0.2.1 (by omega) hb0.2.2 ?_
   revert go
   cases lk w.body (deep + 1) with
   | ok u=>intro go σ3 A3; have:=go σ3 A3; simpa using this
   | error e=>intro go σ3 A3; have:=go σ3 A3; simpa using this
 rw [if_neg h11] at h
 have h11a : ¬ w.op = 11:=fun q=>h11 (.inl q)
 have h11b : ¬ w.op = 12:=fun q=>h11 (.inr q)
 by_cases h13 : w.op = 13
 ·rw [if_pos h13] at h
  simp [h13,hw2]
  refine w_take_calls (ts:=[1]) (.inr ⟨_,rfl⟩) (by simp) L2 (by omega) ?_
  rw [show [(1 : Int)].reverse = [1] from rfl]
  cases ht : takeE [1] s with
  | error e =>
   rw [ht] at h
   intro σ3 K3
   simp
   exact h σ3 (K2.trans K3)
  | ok s1 =>
   rw [ht] at h
   simp only at h
   intro σ3 K3 L3
   have C3:=C2.keep K3 hcx
   have hw3:=keepW K3
   have hwl3 : σ.no < σ3.no:=Nat.lt_of_lt_of_le hwl2 K3.no
   have C3':=C3
   have L3':=L3
   obtain ⟨hc3,fsv3,pv3,lv3,tv3,lsv3,hco3,_⟩:=C3'
   obtain ⟨hx3,sv3,ho3,_⟩:=L3'
   have hb0 : 0 ≤ w.body ∧ w.body < B ∧ deep + 1 + w.body ≤ 2 ^ 40:=hnm w.body (by
    unfold namesL
    by_cases ho : w.other < 0
    ·rw [if_pos (by omega)]; simp
    ·rw [if_neg (by omega),if_pos h13]; simp)
   simp [hw3,ho3,hco3,hwd]
   refine IH c σ3 w.body (deep + 1) _ C3 hb0.1 hb0.2.1 (by omega) hb0.2.2 ?_
   cases hq : lk w.body (deep + 1) with
   | error e =>
    rw [hq] at h
    intro σ4 A4
    simp
    exact h σ4 (K2.trans (K3.trans (A4.keepL hx3)))
   | ok u =>
    rw [hq] at h
    simp only at h
    intro σ4 A4
    have hw4:=(A4.obj σ.no hwl3).trans hw3
    have ho4:=(A4.obj x hx3).trans ho3
    have hco4:=(A4.obj c hc3).trans hco3
    have L4:=L3.adds A4
    have C4:=C3.adds A4
    by_cases ho : 0 ≤ w.other
    ·rw [if_pos ho] at h
     have hb1 : 0 ≤ w.other ∧ w.other < B ∧ deep + 1 + w.other ≤ 2 ^ 40:=hnm w.other (by unfold namesL; rw [if_neg (by omega),if_pos h13]; simp)
     simp [hw4,ho,ho4,hco4,hwd]
     refine IH c σ4 w.other (deep + 1) _ C4 hb1.1 hb1.2.1 (by omega) hb1.2.2 ?_
     cases hq2 : lk w.other (deep + 1) with
     | error e =>
      rw [hq2] at h
      intro σ5 A5
      simp
      exact h σ5 (K2.trans (K3.trans ((A4.trans A5).keepL hx3)))
     | ok u =>
      rw [hq2] at h
      intro σ5 A5
      simp
      exact h σ5 (K2.trans (K3.trans ((A4.trans A5).keepL hx3))) (L4.adds A5)
    ·rw [if_neg ho] at h
     simp [hw4,ho]
     exact h σ4 (K2.trans (K3.trans (A4.keepL hx3))) L4
 rw [if_neg h13] at h
 by_cases h15 : w.op = 15
 ·rw [if_pos h15] at h
  simp [h15,hw2]
  refine w_take_calls (ts:=[1]) (.inr ⟨_,rfl⟩) (by simp) L2 (by omega) ?_
  rw [show [(1 : Int)].reverse = [1] from rfl]
  cases ht : takeE [1] s with
  | error e =>
   rw [ht] at h
   intro σ3 K3
   simp
   exact h σ3 (K2.trans K3)
  | ok s1 =>
   rw [ht] at h
   simp only at h
   intro σ3 K3 L3
   have hs1:=takeE_le ht
   have C3:=C2.keep K3 hcx
   have hw3:=keepW K3
   have L3':=L3
   obtain ⟨hx3,sv3,ho3,_⟩:=L3'
   by_cases hq : w.n = deep
   ·rw [if_pos hq] at h
    simp [hw3,ho3,hq]
    refine returns_calls L3 C3 (by omega) ?_
    cases hq2 : returnsE f.type s1 with
    | error e =>
     rw [hq2] at h
     intro σ4 K4
     simp
     exact h σ4 (K2.trans (K3.trans K4))
    | ok s2 =>
     rw [hq2] at h
     intro σ4 K4 L4
     have hs2 : s2.stack.length ≤ s1.stack.length:=by
      unfold returnsE at hq2
      split at hq2
      ·cases hq2; exact Nat.le_refl _
      ·exact takeE_le hq2
     have C4:=C3.keep K4 hcx
     have C4':=C4
     have L4':=L4
     obtain ⟨hc4,fsv4,pv4,lv4,tv4,lsv4,hco4,_⟩:=C4'
     obtain ⟨hx4,sv4,ho4,_⟩:=L4'
     simp [ho4,hco4]
     refine give_calls L4 (by omega) fun σ5 K5 L5=>?_
     simp
     exact h σ5 (K2.trans (K3.trans (K4.trans K5))) L5
   ·rw [if_neg hq] at h
    simp [hw3,ho3,hq]
    exact h σ3 (K2.trans K3) L3
 rw [if_neg h15] at h
 have ret : ∀ {R' : Out → AS → Prop},FinE R' x c deep σ2 (returnsE f.type s) → ACalls Tryz.prog G 112 [.ptr x 0] σ2 R':=fun hh=>returns_calls L2 C2 (by omega) hh
 by_cases h14 : w.op = 14
 ·rw [if_pos h14] at h
  by_cases hq : w.n = deep
  ·rw [if_pos hq] at h
   simp [h14,hw2,ho,hq]
   refine ret ?_
   cases hq2 : returnsE f.type s with
   | error e =>
    rw [hq2] at h
    intro σ4 K4
    simp
    exact h σ4 (K2.trans K4)
   | ok s2 =>
    rw [hq2] at h
    intro σ4 K4 L4
    simp
    refine leaves_calls' L4 fun σ5 K5 L5=>?_
    simp
    exact h σ5 (K2.trans (K4.trans K5)) L5
  ·rw [if_neg hq] at h
   simp [h14,hw2,ho,hq]
   refine leaves_calls' L2 fun σ5 K5 L5=>?_
   simp
   exact h σ5 (K2.trans K5) L5
 rw [if_neg h14] at h
 by_cases h16 : w.op = 16
 ·rw [if_pos h16] at h
  simp [h16,hw2]
  refine ret ?_
  cases hq2 : returnsE f.type s with
  | error e =>
   rw [hq2] at h
   intro σ4 K4
   simp
   exact h σ4 (K2.trans K4)
  | ok s2 =>
   rw [hq2] at h
   intro σ4 K4 L4
   simp
   refine leaves_calls' L4 fun σ5 K5 L5=>?_
   simp
   exact h σ5 (K2.trans (K4.trans K5)) L5
 rw [if_neg h16] at h
 by_cases h17 : w.op = 17
 ·rw [if_pos h17] at h
  simp [h17,hw2]
  refine leaves_calls' L2 fun σ5 K5 L5=>?_
  simp
  exact h σ5 (K2.trans K5) L5
 rw [if_neg h17] at h
 simp [h11a,h11b,h13,h15,h14,h16,h17,hw2]
 rw [show AV.agg [AV.int IntKind.i64 w.op,AV.int IntKind.i64 w.ty,AV.int IntKind.i64 w.n,AV.int IntKind.i64 w.body,AV.int IntKind.i64 w.other,AV.str w.name] = w.av from rfl]
 refine plain_calls V L2 C2 hcx (by omega) hn hps hf hr ?_
 revert h
 cases plainE m.funcs ls w s with
 | ok s'=>intro h σ3 K3 L3; simp; exact h σ3 (K2.trans K3) L3
 | error e=>intro h σ3 K3; simp; exact h σ3 (K2.trans K3)
end
end Go.Proofs.YthejpoplbllcbaaGreatDoor
set_option linter.unusedSimpArgs false
set_option linter.unusedVariables false
namespace Go.Proofs.YthejpoplbllcbaaGreatDoor
open Go Go.Abs
theorem giveS_le (s : St) (t : Int) : (giveS s t).stack.length ≤ s.stack.length + 1 := by unfold giveS; split <;> simp
theorem gives_le {ts : List Int} {s s' : St} {t : Int} (h : gives (takeE ts s) t = .ok s') : s'.stack.length ≤ s.stack.length + 1 := by
 obtain ⟨s1,e,rfl⟩ : ∃ s1,takeE ts s = .ok s1 ∧ s' = giveS s1 t:=by
  cases hq : takeE ts s with
  | error e=>rw [hq] at h; cases h
  | ok s1=>rw [hq] at h; cases h; exact ⟨s1,rfl,rfl⟩
 have:=takeE_le e
 have:=giveS_le s1 t
 omega
theorem plainE_le {fs : List F} {ls : List Int} {w : W} {s s' : St} (h : plainE fs ls w s = .ok s') : s'.stack.length ≤ s.stack.length + 1 := by
 unfold plainE at h
 repeat' split at h
 all_goals first
  | (cases h; first | exact giveS_le _ _ | omega)
  | exact gives_le h
  | (have:=takeE_le h; omega)
  | (have:=dropE_le h; omega)
theorem returnsE_le {ty : Int} {s s' : St} (h : returnsE ty s = .ok s') : s'.stack.length ≤ s.stack.length := by
 unfold returnsE at h
 split at h
 ·cases h; exact Nat.le_refl _
 ·exact takeE_le h
theorem instrE_le {fs : List F} {ls : List Int} {ty deep : Int} {lk : Look} {w : W} {s s' : St} (h : instrE fs ls ty deep lk w s = .ok s') : s'.stack.length ≤ s.stack.length + 1 := by
 unfold instrE at h
 by_cases h1 : formB w = false
 ·rw [if_pos h1] at h; cases h
 rw [if_neg h1] at h
 by_cases h2 : rangedB fs ls deep w = false
 ·rw [if_pos h2] at h; cases h
 rw [if_neg h2] at h
 by_cases h3 : w.op = 11 ∨ w.op = 12
 ·rw [if_pos h3] at h
  split at h
  ·cases h; omega
  ·cases h
 rw [if_neg h3] at h
 by_cases h4 : w.op = 13
 ·rw [if_pos h4] at h
  split at h
  ·cases h
  ·rename_i s1 hs1
   have:=takeE_le hs1
   split at h
   ·cases h
   ·split at h
    ·split at h
     ·cases h
     ·cases h; omega
    ·cases h; omega
 rw [if_neg h4] at h
 by_cases h5 : w.op = 15
 ·rw [if_pos h5] at h
  split at h
  ·cases h
  ·rename_i s1 hs1
   have:=takeE_le hs1
   split at h
   ·cases hq : returnsE ty s1 with
    | error e=>rw [hq] at h; cases h
    | ok s2 =>
     rw [hq] at h
     cases h
     have:=returnsE_le hq
     have:=giveS_le s2 ty
     omega
   ·cases h; omega
 rw [if_neg h5] at h
 have hl : leftS.stack.length = 0:=rfl
 by_cases h6 : w.op = 14
 ·rw [if_pos h6] at h
  split at h
  ·split at h
   ·cases h
   ·cases h; omega
  ·cases h; omega
 rw [if_neg h6] at h
 by_cases h7 : w.op = 16
 ·rw [if_pos h7] at h
  split at h
  ·cases h
  ·cases h; omega
 rw [if_neg h7] at h
 by_cases h8 : w.op = 17
 ·rw [if_pos h8] at h; cases h; omega
 rw [if_neg h8] at h
 exact plainE_le h
structure Small (m : M) : Prop where
 funcs : m.funcs.length ≤ 2 ^ 20
 params : ∀ f ∈ m.funcs,f.params.length ≤ 2 ^ 20
 locals : ∀ f ∈ m.funcs,f.locals.length ≤ 2 ^ 20
 lists : ∀ f ∈ m.funcs,f.lists.length ≤ 2 ^ 20
 rows : ∀ f ∈ m.funcs,∀ l ∈ f.lists,l.length ≤ 2 ^ 20
 nums : ∀ f ∈ m.funcs,∀ l ∈ f.lists,∀ w ∈ l,w.n ≤ 2 ^ 63 - 1
theorem KeepL.made {x : Nat} {σ σ' : AS} {cs : List AV} (K : KeepL x (σ.newO cs) σ') (hx : x = σ.no) (hn : ∀ v f,cs[1]? = some v → famOf v ≠ some f) : Adds σ σ' where
 no:=Nat.le_trans (by simp) K.no
 nf:=by have:=K.nf; simpa using this
 obj o ho:=by
  rw [K.obj o (by simp; omega) (by omega)]
  simp; omega
 fam f hf:=by
  rw [K.fam f (by simpa using hf) ?_]
  ·rfl
  ·rintro ⟨cs',v,h1,h2,h3⟩
   subst hx
   simp at h1
   subst h1
   exact hn v f h2 h3
def KI (x c : Nat) (deep : Int) (rv : AV) (row : List W) (σ1 : AS) (run : List W → St → Res St) (a : Nat → AV) (τ : AS) : Prop := ∃ (i : Nat) (s : St),i ≤ row.length ∧ a 2 = .int .i64 deep ∧ a 6 = .ptr x 0 ∧ a 20 = rv ∧ a 21 = .int .i64 (row.length : Int) ∧ a 22 = .int .i64 (i : Int) ∧ LS τ x c s deep ∧ KeepL x σ1 τ ∧ s.stack.length ≤ i ∧
 run (row.drop i) s = run row ⟨[],false⟩
theorem look_ok {G : Env} (V : Vars G) {m : M} (sm : Small m) {f : F} (hfm : f ∈ m.funcs) (ha : Ahead f.lists) (ls : List Int) : ∀ k : Nat,LookOk G m f ls (min (k : Int) (f.lists.length : Int)) (lookE m.funcs ls f.type f.lists k)
 | 0=>fun c σ at_ deep R _ h0 h1=>by omega
 | k + 1=>by
  have IH:=look_ok V sm hfm ha ls k
  intro c σ at_ deep R C h0 h1 hd0 hd1 h
  refine calls89 rfl ?_
  rw [lookE] at h
  obtain ⟨j,rfl⟩ : ∃ j : Nat,at_ = (j : Int):=⟨at_.toNat,by omega⟩
  have hj : j < f.lists.length:=by omega
  have hjk : j < k + 1:=by omega
  rw [Int.toNat_natCast] at h
  have hrow : f.lists.getD j [] = f.lists[j]:=by rw [List.getD_eq_getElem?_getD,List.getElem?_eq_getElem hj]; rfl
  rw [hrow] at h
  have hahead:=ha j _ (List.getElem?_eq_getElem hj)
  have hrl:=sm.rows f hfm f.lists[j] (List.getElem_mem hj)
  have hnums:=sm.nums f hfm f.lists[j] (List.getElem_mem hj)
  have C0:=C
  obtain ⟨hc,fsv,pv,lv,tv,lsv,hco,hfs,hpv,hlv,htv,hls⟩:=C
  rcases htv with ⟨e,_⟩ | ⟨b,rows,rfl,hrows⟩
  ·rw [e] at hj; simp at hj
  obtain ⟨rv,hrv,hrep⟩:=hrows.get (List.getElem?_eq_getElem hj)
  generalize f.lists[j] = row at *
  have hlen:=hrep.len
  have hcx : c ≠ σ.no:=by omega
  simp [pc89,hco,hcx,hrv,hlen,splice]
  refine ⟨hrep.one.2.2,?_⟩
  generalize hσ1 : σ.newO [AV.ptr c 0,AV.nilsl,AV.bool false,AV.int IntKind.i64 deep] = σ1
  have hno1 : σ1.no = σ.no + 1:=by rw [← hσ1]; simp
  have ho1 : σ1.objs σ.no = some [.ptr c 0,.nilsl,.bool false,.int .i64 deep]:=by rw [← hσ1]; simp
  have L1 : LS σ1 σ.no c ⟨[],false⟩ deep:=⟨by omega,_,ho1,.inl ⟨rfl,rfl⟩⟩
  have A1 : Adds σ σ1:=by rw [← hσ1]; exact (Adds.refl σ).newO
  have C1:=C0.adds A1
  have made : ∀ {σ'},KeepL σ.no σ1 σ' → Adds σ σ':=fun K=>by
   rw [← hσ1] at K
   exact K.made rfl fun v f hv hf=>by simp at hv; subst hv; simp [famOf] at hf
  refine aloop (KI σ.no c deep rv row σ1 (instrsE m.funcs ls f.type deep (lookE m.funcs ls f.type f.lists k))) (MU 22 (row.length + 1)) ⟨0,⟨[],false⟩,by omega,by simp,by simp,by simp,by simp,by simp,L1,.refl _ _,by simp,by simp⟩ fun a τ hI=>?_
  obtain ⟨i,s,hi,a2,a6,a20,a21,a22,L,K,hsl,hrun⟩:=hI
  have C2:=C1.keep K hcx
  by_cases hlt : i < row.length
  ·obtain ⟨b2,hix2⟩:=hrep.at hlt
   have hlt' : (i : Int) < (row.length : Int):=by omega
   rw [List.drop_eq_getElem_cons hlt,instrsE] at hrun
   simp [pc89_l1,a6,a20,a21,a22,hlt,hix2,W.av,W.cs,splice]
   have hw3 : IntKind.wrap .i64 ((i : Int) + 1) = ((i + 1 : Nat) : Int):=by rw [wrap_i64] <;> omega
   have hmem:=List.getElem_mem hlt
   have A3 : Adds τ ((τ.newO [AV.int IntKind.i64 0,AV.int IntKind.i64 0,AV.int IntKind.i64 0,AV.int IntKind.i64 0,AV.int IntKind.i64 0,AV.str []]).setO τ.no row[i].cs):=((Adds.refl τ).newO).setO (Nat.le_refl _)
   refine w_instr_calls (w:=row[i]) V IH (L.adds A3) (C2.adds A3) hcx (by omega) hd0 (by omega) (hnums _ hmem) (fun g hg=>by have:=sm.params g hg; omega) (fun n hn=>?_) ?_
   ·have:=hahead n (List.mem_flatMap.2 ⟨_,hmem,hn⟩)
    exact ⟨this.1,by omega,by omega⟩
   ·have KA:=K.trans (A3.keepL L.1)
    cases hq : instrE m.funcs ls f.type deep (lookE m.funcs ls f.type f.lists k) row[i] s with
    | error e =>
     rw [hq] at hrun
     simp only at hrun
     rw [← hrun] at h
     intro σ' K'
     simp
     exact h σ' (made (KA.trans K'))
    | ok s' =>
     rw [hq] at hrun
     simp only at hrun
     have hle:=instrE_le hq
     intro σ' K' L'
     simp [a22,hw3]
     refine ⟨⟨i + 1,s',by omega,by simp [a2],by simp [a6],by simp [a20],by simp [a21],by simp,L',KA.trans K',by omega,hrun⟩,?_⟩
     simp only [MU,a22]
     simp; omega
  ·have he : i = row.length:=by omega
   subst he
   simp [instrsE] at hrun
   rw [← hrun] at h
   simp only at h
   have L':=L
   obtain ⟨hx,sv,ho,hs⟩:=L'
   unfold endE at h
   by_cases hdz : deep = 0
   ·rw [if_pos hdz] at h
    simp [pc89_l1,pc89_r1,a2,a6,a21,a22,hdz]
    refine returns_calls (by rw [hdz] at L; exact L) C2 (by omega) ?_
    cases hq : returnsE f.type s with
    | error e =>
     rw [hq] at h
     intro σ' K'
     simp
     exact h σ' (made (K.trans K'))
    | ok s3 =>
     rw [hq] at h
     intro σ' K' L3
     obtain ⟨hx3,sv3,ho3,hs3⟩:=L3
     have hsl3:=hs3.len
     by_cases hz : s3.stack.length = 0
     ·simp only [if_pos hz] at h
      have hz' : s3.stack = []:=List.length_eq_zero_iff.1 hz
      simp [a6,ho3,hsl3,hz']
      refine w_must_calls (fun _=>?_) (fun q=>by simp at q)
      simp
      exact h σ' (made (K.trans K'))
     ·simp only [if_neg hz] at h
      have hz' : ¬ s3.stack = []:=fun q=>hz (by rw [q]; rfl)
      simp [a6,ho3,hsl3,hz']
      refine w_must_calls (fun q=>by simp at q) (fun _=>?_)
      simp
      exact h σ' (made (K.trans K'))
   ·rw [if_neg hdz] at h
    have hsl3:=hs.len
    by_cases hz : s.stack.length = 0
    ·simp only [if_pos hz] at h
     have hz' : s.stack = []:=List.length_eq_zero_iff.1 hz
     simp [pc89_l1,pc89_r1,a2,a6,a21,a22,hdz,ho,hsl3,hz']
     refine w_must_calls (fun _=>?_) (fun q=>by simp at q)
     simp
     exact h τ (made K)
    ·simp only [if_neg hz] at h
     have hz' : ¬ s.stack = []:=fun q=>hz (by rw [q]; rfl)
     simp [pc89_l1,pc89_r1,a2,a6,a21,a22,hdz,ho,hsl3,hz']
     refine w_must_calls (fun q=>by simp at q) (fun _=>?_)
     simp
     exact h τ (made K)
end Go.Proofs.YthejpoplbllcbaaGreatDoor
set_option linter.unusedSimpArgs false
set_option linter.unusedVariables false
namespace Go.Proofs.YthejpoplbllcbaaGreatDoor
open Go Go.Abs
theorem names_calls {G : Env} {σ : AS} {R : Out → AS → Prop} {w : W} (h : ∀ v σ',IntsV v (namesL w) → Adds σ σ' → R (.ret v) σ') : ACalls Tryz.prog G 109 [w.av] σ R := by
 refine calls109 rfl ?_
 have A : Adds σ (σ.newO w.cs):=(Adds.refl σ).newO
 simp only [W.cs] at A
 unfold namesL at h
 by_cases h1 : w.op = 11
 ·rw [if_pos (.inl h1)] at h
  simp [pc109,W.av,W.cs,h1]
  exact h _ _ (.inr ⟨_,rfl⟩) (by simpa [h1] using A)
 by_cases h2 : w.op = 12
 ·rw [if_pos (.inr (.inl h2))] at h
  simp [pc109,W.av,W.cs,h2]
  exact h _ _ (.inr ⟨_,rfl⟩) (by simpa [h2] using A)
 by_cases h3 : w.op = 13
 ·by_cases ho : w.other < 0
  ·rw [if_pos (.inr (.inr ⟨h3,ho⟩))] at h
   simp [pc109,W.av,W.cs,h3,ho]
   exact h _ _ (.inr ⟨_,rfl⟩) (by simpa [h3] using A)
  ·rw [if_neg (by omega),if_pos h3] at h
   simp [pc109,W.av,W.cs,h3,ho]
   exact h _ _ (.inr ⟨_,rfl⟩) (by simpa [h3] using A)
 ·rw [if_neg (by omega),if_neg h3] at h
  simp [pc109,W.av,W.cs,h1,h2,h3]
  exact h _ _ (.inl ⟨rfl,rfl⟩) A
@[simp] theorem aeq_bool4 (x y : Bool) : aeq Tryz.prog 4 (.bool x) (.bool y) = some (x == y) := by simp [aeq,aeq1,show Tryz.prog.underlying 4 = some .bool from by kernel_rfl]
@[simp] theorem callable49 : callable Tryz.prog 86 = true := by kernel_rfl
def boolsA (l : List Bool) : List AV := l.map AV.bool
def CI (σ : AS) (o len : Nat) (named : List Bool) (a : Nat → AV) (τ : AS) : Prop := ∃ i : Nat,i ≤ len ∧ a 0 = .slm o 0 1 len ∧ a 1 = .bool false ∧ a 7 = .int .i64 (len : Int) ∧ a 8 = .int .i64 (i : Int) ∧ τ = σ ∧ ∀ j,j < i → named[j]? = some true
theorem contains_false {G : Env} {σ : AS} {R : Out → AS → Prop} {o len : Nat} {named : List Bool} (ho : σ.objs o = some (boolsA named)) (hl : len ≤ named.length) (hb : len ≤ 2 ^ 40) (h : R (.ret (.bool (!(named.take len).all (· == true)))) σ) : ACalls Tryz.prog G 110 [.slm o 0 1 len,.bool false] σ R := by
 refine calls110 rfl ?_
 simp [pc110]
 refine calls123 rfl ?_
 simp [pc123]
 refine aloop (CI σ o len named) (MU 8 (len + 1)) ⟨0,by omega,by simp,by simp,by simp,by simp,rfl,fun j hj=>by omega⟩ fun a τ hI=>?_
 obtain ⟨i,hi,a0,a1,a7,a8,rfl,hall⟩:=hI
 have hw3 : IntKind.wrap .i64 ((i : Int) + 1) = ((i + 1 : Nat) : Int):=by rw [wrap_i64] <;> omega
 by_cases hlt : i < len
 ·have hlt' : (i : Int) < (len : Int):=by omega
  have hin : i < named.length:=by omega
  have hget : (boolsA named)[i]? = some (.bool named[i]):=by simp [boolsA,hin]
  have hge : ∀ q : i < (boolsA named).length,(boolsA named)[i]'q = .bool named[i]:=fun q=>by rw [List.getElem?_eq_getElem q] at hget; exact Option.some.inj hget
  have hlb : i < (boolsA named).length:=by simp [boolsA]; exact hin
  cases hv : named[i] with
  | true =>
   rw [hv] at hget hge
   simp [pc123_l1,a0,a1,a7,a8,hlt,ho,hlb,hge,hw3]
   refine ⟨⟨i + 1,by omega,by simp [a0],by simp [a1],by simp [a7],by simp,rfl,fun j hj=>?_⟩,?_⟩
   ·by_cases e : j = i
    ·subst e; rw [List.getElem?_eq_getElem hin,hv]
    ·exact hall j (by omega)
   ·simp only [MU,a8]; simp; omega
  | false =>
   rw [hv] at hget hge
   have e : (!(named.take len).all (· == true)) = true:=by
    rw [Bool.not_eq_true',List.all_eq_false]
    exact ⟨false,List.mem_iff_getElem.2 ⟨i,by rw [List.length_take]; omega,by rw [List.getElem_take]; exact hv⟩,by simp⟩
   rw [e] at h
   simp [pc123_l1,a0,a1,a7,a8,hlt,ho,hlb,hge]
   exact h
 ·have he : i = len:=by omega
  subst he
  have e : (!(named.take i).all (· == true)) = false:=by
   rw [Bool.not_eq_false',List.all_eq_true]
   intro b hb
   obtain ⟨j,hj,rfl⟩:=List.mem_iff_getElem.1 hb
   rw [List.length_take] at hj
   have:=hall j (by omega)
   rw [List.getElem?_eq_getElem (by omega)] at this
   rw [List.getElem_take]
   simp [Option.some.inj this]
  rw [e] at h
  simp [pc123_l1,pc123_r1,a7,a8]
  exact h
def FI (σ : AS) (v : AV) (ls : List Int) (a : Nat → AV) (τ : AS) : Prop := ∃ i : Nat,i ≤ ls.length ∧ a 0 = v ∧ a 1 = .fn (.func 86) [] [] ∧ a 7 = .int .i64 (ls.length : Int) ∧ a 8 = .int .i64 (i : Int) ∧ τ = σ ∧ ∀ j,j < i → ∃ t,ls[j]? = some t ∧ numberB t = true
theorem containsFunc_calls {G : Env} {σ : AS} {R : Out → AS → Prop} {v : AV} {ls : List Int} (hv : IntsV v ls) (hb : ls.length ≤ 2 ^ 40) (h : R (.ret (.bool (!ls.all numberB))) σ) : ACalls Tryz.prog G 65 [v,.fn (.func 86) [] []] σ R := by
 refine calls65 rfl ?_
 simp [pc65]
 refine calls98 rfl ?_
 simp [pc98,hv.len]
 refine aloop (FI σ v ls) (MU 8 (ls.length + 1)) ⟨0,by omega,by simp,by simp,by simp,by simp,rfl,fun j hj=>by omega⟩ fun a τ hI=>?_
 obtain ⟨i,hi,a0,a1,a7,a8,rfl,hall⟩:=hI
 have hw3 : IntKind.wrap .i64 ((i : Int) + 1) = ((i + 1 : Nat) : Int):=by rw [wrap_i64] <;> omega
 by_cases hlt : i < ls.length
 ·rcases hv with ⟨rfl,_⟩ | ⟨b,rfl⟩
  ·simp at hlt
  simp [pc98_l1,a0,a1,a7,a8,hlt]
  refine calls86 rfl ?_
  simp [pc86]
  refine w_number_calls ?_
  cases hn : numberB ls[i] with
  | true =>
   simp [a8,hw3]
   refine ⟨⟨i + 1,by omega,by simp [a0],by simp [a1],by simp [a7],by simp,rfl,fun j hj=>?_⟩,?_⟩
   ·by_cases e : j = i
    ·subst e; exact ⟨_,List.getElem?_eq_getElem hlt,hn⟩
    ·exact hall j (by omega)
   ·simp only [MU,a8]; simp; omega
  | false =>
   have e : (!ls.all numberB) = true:=by
    rw [Bool.not_eq_true',List.all_eq_false]
    exact ⟨_,List.getElem_mem hlt,by simp [hn]⟩
   rw [e] at h
   simp [a8]
   exact h
 ·have he : i = ls.length:=by omega
  subst he
  have e : (!ls.all numberB) = false:=by
   rw [Bool.not_eq_false',List.all_eq_true]
   intro t ht
   obtain ⟨j,hj,rfl⟩:=List.mem_iff_getElem.1 ht
   obtain ⟨t,h1,h2⟩:=hall j hj
   rw [List.getElem?_eq_getElem hj] at h1
   cases h1
   exact h2
  rw [e] at h
  simp [pc98_l1,pc98_r1,a7,a8]
  exact h
theorem concat_calls {G : Env} {σ : AS} {R : Out → AS → Prop} {pv lv : AV} {p l : List Int} (hp : IntsV pv p) (hl : IntsV lv l) (hb : p.length + l.length ≤ 2 ^ 30) (h : ∀ v σ',IntsV v (p ++ l) → Adds σ σ' → R (.ret v) σ') : ACalls Tryz.prog G 85 [.sl (.stat true) 1 [pv,lv]] σ R := by
 refine freezing (calls85 rfl ?_)
 have p1:=hp.one
 have l1:=hl.one
 have hpl:=hp.len
 have hll:=hl.len
 have w1 : IntKind.wrap .i64 (p.length : Int) = (p.length : Int):=by rw [wrap_i64] <;> omega
 have w2 : IntKind.wrap .i64 ((p.length : Int) + (l.length : Int)) = (p.length : Int) + (l.length : Int):=by rw [wrap_i64] <;> omega
 have w3 : IntKind.wrap .i64 1 = 1:=rfl
 have w4 : IntKind.wrap .i64 2 = 2:=rfl
 have n1 : ¬ (p.length : Int) < 0:=by omega
 have n2 : ¬ (p.length : Int) + (l.length : Int) < 0:=by omega
 simp [pc85]
 refine aloop_rounds 3 ?_
 simp [pc85_l1,p1,l1,hpl,hll,w1,w2,w3,w4,n1,n2,pc85_r1,pc85_r2]
 have hgrow : ∀ {R' : Out → AS → Prop},(p.length + l.length = 0 → R' (.ret .nilsl) σ) → (0 < p.length + l.length → R' (.ret (.sl (.fam σ.nf false) 1 [])) σ.newF) → ACalls Tryz.prog G 108 [.nilsl,.int .i64 ((p.length : Int) + (l.length : Int))] σ R':=by
  intro R' g0 g1
  refine calls108 rfl ?_
  have w5 : IntKind.wrap .i64 0 = 0:=rfl
  by_cases hz : p.length + l.length = 0
  ·have hz' : ¬ (0 : Int) < (p.length : Int) + (l.length : Int):=by omega
   simp [pc108,n2,w5,w2,hz']
   exact g0 hz
  ·have hz' : (0 : Int) < (p.length : Int) + (l.length : Int):=by omega
   obtain ⟨n,hn⟩ : ∃ n,((p.length : Int) + (l.length : Int)).toNat = n + 1:=⟨((p.length : Int) + (l.length : Int)).toNat - 1,by omega⟩
   simp [pc108,n2,w5,w2,hz',hn,List.replicate_succ,bounds,optInt]
   exact ⟨by omega,by omega,by omega,by omega,g1 (by omega)⟩
 refine hgrow (fun hz=>?_) (fun hz=>?_)
 ·have e1 : p = []:=List.length_eq_zero_iff.1 (by omega)
  have e2 : l = []:=List.length_eq_zero_iff.1 (by omega)
  subst e1 e2
  have:=h .nilsl σ (.inl ⟨rfl,rfl⟩) (.refl _)
  have sta : ∀ K : AV → AS → Prop,∀ v,IntsV v [] → aappend Tryz.prog 38 38 .nilsl v σ K = K .nilsl σ:=by
   intro K v hv
   rcases hv with ⟨_,rfl⟩ | ⟨b,rfl⟩ <;> simp
  simp
  refine aloop_rounds 3 ?_
  rcases hp with ⟨_,rfl⟩ | ⟨b,rfl⟩ <;> rcases hl with ⟨_,rfl⟩ | ⟨b',rfl⟩ <;> simp [pc85_l2,pc85_r1,w3,w4] <;> exact .inl this
 ·simp
  refine aloop_rounds 3 ?_
  have fin : ∀ σ',Adds σ σ' → ∀ g,σ.nf ≤ g → σ'.F g = .alive → FrzOr R (.ret (.sl (.fam g false) 1 ((p ++ l).map (.int .i64)))) σ':=by
   intro σ' A' g hg ha
   refine .froze g (fun _=>false) ha ?_
   have:=h (.sl (.stat false) 1 ((p ++ l).map (.int .i64))) (σ'.frz g fun _=>false) (.inr ⟨_,rfl⟩) (A'.frz hg fun _ _=>rfl)
   simpa [Function.comp_def] using this
  have A3 : Adds σ ((σ.newF.setF σ.nf FSt.dead).newF.setF (σ.nf + 1) FSt.dead).newF:=((((Adds.refl σ).newF.setF (Nat.le_refl _)).newF).setF (by omega)).newF
  have key:=fin _ A3 (σ.nf + 1 + 1) (by omega) (by simp)
  rcases hp with ⟨rfl,rfl⟩ | ⟨b,rfl⟩ <;> rcases hl with ⟨rfl,rfl⟩ | ⟨b',rfl⟩ <;> simp [pc85_l2,pc85_r1,w3,w4]
  ·simp at hz
  ·exact ⟨by simp at hb; omega,by simpa using key⟩
  ·exact ⟨by simp at hb; omega,by simpa using key⟩
  ·exact ⟨by omega,by omega,by simpa using key⟩
end Go.Proofs.YthejpoplbllcbaaGreatDoor
set_option linter.unusedSimpArgs false
set_option linter.unusedVariables false
namespace Go.Proofs.YthejpoplbllcbaaGreatDoor
open Go Go.Abs
structure NS (σ1 : AS) (o : Nat) (named : List Bool) (L : Nat) (τ : AS) : Prop where
 obj : τ.objs o = some (boolsA named)
 len : named.length = L
 no : σ1.no ≤ τ.no
 nf : σ1.nf ≤ τ.nf
 oth : ∀ p,p < σ1.no → p ≠ o → τ.objs p = σ1.objs p
 fam : ∀ f,f < σ1.nf → τ.F f = σ1.F f
theorem NS.adds {σ1 o named L τ τ'} (h : NS σ1 o named L τ) (ho : o < σ1.no) (A : Adds τ τ') : NS σ1 o named L τ' where
 obj:=(A.obj o (Nat.lt_of_lt_of_le ho h.no)).trans h.obj
 len:=h.len
 no:=Nat.le_trans h.no A.no
 nf:=Nat.le_trans h.nf A.nf
 oth p hp hne:=(A.obj p (Nat.lt_of_lt_of_le hp h.no)).trans (h.oth p hp hne)
 fam f hf:=(A.fam f (Nat.lt_of_lt_of_le hf h.nf)).trans (h.fam f hf)
theorem NS.set {σ1 o named named' L τ} (h : NS σ1 o named L τ) (hl : named'.length = L) : NS σ1 o named' L (τ.setO o (boolsA named')) where
 obj:=by simp
 len:=hl
 no:=h.no
 nf:=h.nf
 oth p hp hne:=by simp [hne]; exact h.oth p hp hne
 fam f hf:=h.fam f hf
def thenE {α β : Type} (r : Res α) (k : α → Res β) : Res β := match r with
 | .error e=>.error e
 | .ok a=>k a
theorem namesE_then (a n : Int) (ns : List Int) (named : List Bool) : namesE a (n :: ns) named = thenE (nameE a named n) fun m => namesE a ns m := by
 rw [namesE]; unfold thenE; cases nameE a named n <;> rfl
theorem rowE_then (a : Int) (w : W) (ws : List W) (named : List Bool) : rowE a (w :: ws) named = thenE (namesE a (namesL w) named) fun m => rowE a ws m := by
 rw [rowE]; unfold thenE; cases namesE a (namesL w) named <;> rfl
theorem rowsE_then (k : Nat) (l : List W) (ls : To) (named : List Bool) : rowsE k (l :: ls) named = thenE (rowE (k : Int) l named) fun m => rowsE (k + 1) ls m := by
 rw [rowsE]; unfold thenE; cases rowE (k : Int) l named <;> rfl
def NI3 (σ1 : AS) (o L : Nat) (tv : AV) (ls : To) (goal : Res (List Bool)) (a : Nat → AV) (τ : AS) : Prop := ∃ (i : Nat) (named : List Bool),i ≤ ls.length ∧ a 2 = .slm o 0 1 L ∧ a 28 = tv ∧ a 29 = .int .i64 (ls.length : Int) ∧ a 30 = .int .i64 (i : Int) ∧ NS σ1 o named L τ ∧ rowsE i (ls.drop i) named = goal
def NI2 (σ1 : AS) (o L : Nat) (tv : AV) (ls : To) (k : Nat) (rv : AV) (row : List W) (goal : Res (List Bool)) (a : Nat → AV) (τ : AS) : Prop := ∃ (j : Nat) (named : List Bool),j ≤ row.length ∧ a 2 = .slm o 0 1 L ∧ a 28 = tv ∧ a 29 = .int .i64 (ls.length : Int) ∧ a 30 = .int .i64 (k : Int) ∧ a 3 = .int .i64 (k : Int) ∧ a 35 = rv ∧ a 36 = .int .i64 (row.length : Int) ∧ a 37 = .int .i64 (j : Int) ∧ NS σ1 o named L τ ∧
 thenE (rowE (k : Int) (row.drop j) named) (fun n=>rowsE (k + 1) (ls.drop (k + 1)) n) = goal
def NI1 (σ1 : AS) (o L : Nat) (tv : AV) (ls : To) (k : Nat) (rv : AV) (row : List W) (j : Nat) (nv : AV) (ns : List Int) (goal : Res (List Bool)) (a : Nat → AV) (τ : AS) : Prop := ∃ (q : Nat) (named : List Bool),q ≤ ns.length ∧ a 2 = .slm o 0 1 L ∧ a 28 = tv ∧ a 29 = .int .i64 (ls.length : Int) ∧ a 30 = .int .i64 (k : Int) ∧ a 3 = .int .i64 (k : Int) ∧ a 35 = rv ∧ a 36 = .int .i64 (row.length : Int) ∧ a 37 = .int .i64 (j : Int) ∧
 a 42 = nv ∧ a 43 = .int .i64 (ns.length : Int) ∧ a 44 = .int .i64 (q : Int) ∧ NS σ1 o named L τ ∧
 thenE (thenE (namesE (k : Int) (ns.drop q) named) fun n=>rowE (k : Int) (row.drop (j + 1)) n) (fun n=>rowsE (k + 1) (ls.drop (k + 1)) n) = goal
theorem splice_bool {named : List Bool} {n : Nat} (h : n < named.length) (b : Bool) : splice (boolsA named) n [.bool b] = boolsA (named.set n b) := by
 unfold splice boolsA
 rw [List.set_eq_take_append_cons_drop,if_pos h]
 simp
set_option maxRecDepth 20000 in
theorem clists_calls {G : Env} (V : Vars G) {σ : AS} {R : Out → AS → Prop} {c : Nat} {m : M} {f : F} {ls0 : List Int} (C : CkAt σ c m f ls0) (hb : f.lists.length ≤ 2 ^ 20) (hrows : ∀ l ∈ f.lists,l.length ≤ 2 ^ 20) (h : FinU R σ (listsE f.lists)) : ACalls Tryz.prog G 88 [.ptr c 0] σ R := by
 refine calls88 rfl ?_
 obtain ⟨hc,fsv,pv,lv,tv,lsv,hco,hfs,hpv,hlv,htv,hls⟩:=C
 have hlen:=htv.len
 unfold listsE at h
 by_cases hz : f.lists.length = 0
 ·rw [if_pos hz] at h
  have hz' : f.lists = []:=List.length_eq_zero_iff.1 hz
  simp [pc88,hco,hlen,hz']
  refine w_must_calls (fun q=>by simp at q) (fun _=>?_)
  simp
  exact h σ (.refl _)
 ·rw [if_neg hz] at h
  have hz' : ¬ f.lists = []:=fun q=>hz (by rw [q]; rfl)
  have hpos : 0 < f.lists.length:=by omega
  simp [pc88,hco,hlen,hz',hpos]
  refine w_must_calls (fun _=>?_) (fun q=>by simp at q)
  simp [hco,hlen]
  have hto : ((f.lists.length : Int)).toNat = f.lists.length:=by omega
  generalize hgoal : rowsE 0 f.lists (List.replicate f.lists.length false) = goal at h
  refine ⟨1,1,.bool false,by simp,by simp,by simp,rfl,rfl,rfl,by omega,by omega,by omega,?_⟩
  have hflat : flat (List.replicate f.lists.length (AV.bool false)) = boolsA (List.replicate f.lists.length false):=by
   unfold flat boolsA
   induction f.lists.length with
   | zero=>rfl
   | succ n ih=>rw [List.replicate_succ,List.replicate_succ,List.flatMap_cons,List.map_cons,ih]; rfl
  have hcn : c ≠ σ.no:=by omega
  simp [hflat,hcn,hco,hlen]
  generalize hσ1 : σ.newO (boolsA (List.replicate f.lists.length false)) = σ1
  have hno1 : σ1.no = σ.no + 1:=by rw [← hσ1]; simp
  have A1 : Adds σ σ1:=by rw [← hσ1]; exact (Adds.refl σ).newO
  have N1 : NS σ1 σ.no (List.replicate f.lists.length false) f.lists.length σ1:=⟨by rw [← hσ1]; simp,by simp,Nat.le_refl _,Nat.le_refl _,fun _ _ _=>rfl,fun _ _=>rfl⟩
  have toA : ∀ {named τ},NS σ1 σ.no named f.lists.length τ → Adds σ τ:=fun N=>⟨by have:=N.no; omega,Nat.le_trans A1.nf N.nf,fun o ho=>(N.oth o (by omega) (by omega)).trans (A1.obj o ho),fun g hg=>(N.fam g (Nat.lt_of_lt_of_le hg A1.nf)).trans (A1.fam g hg)⟩
  refine aloop (NI3 σ1 σ.no f.lists.length tv f.lists goal) (MU 30 (f.lists.length + 1)) ⟨0,_,by omega,by simp,by simp,by simp,by simp,N1,by simpa using hgoal⟩ fun a τ hI=>?_
  obtain ⟨i,named0,hi,a2,a28,a29,a30,N0,hg0⟩:=hI
  by_cases hlt : i < f.lists.length
  ·obtain ⟨b,rv,hrep,hix⟩:=htv.at hlt
   have hrl:=hrows _ (List.getElem_mem hlt)
   rw [List.drop_eq_getElem_cons hlt,rowsE_then] at hg0
   generalize f.lists[i] = row at *
   have hrlen:=hrep.len
   have hr1:=hrep.one
   have hlt' : (i : Int) < (f.lists.length : Int):=by omega
   simp [pc88_l3,a2,a28,a29,a30,hlt,hix,hr1,hrlen]
   refine aloop (NI2 σ1 σ.no f.lists.length tv f.lists i rv row goal) (MU 37 (row.length + 1)) ⟨0,named0,by omega,by simp [a2],by simp [a28],by simp [a29],by simp [a30],by simp,by simp,by simp,by simp,N0,by simpa using hg0⟩ fun b ρ hI=>?_
   obtain ⟨j,named1,hj,b2,b28,b29,b30,b3,b35,b36,b37,N2,hg1⟩:=hI
   by_cases hjl : j < row.length
   ·obtain ⟨q2,hix2⟩:=hrep.at hjl
    rw [List.drop_eq_getElem_cons hjl,rowE_then] at hg1
    simp [pc88_l2,b35,b36,b37,hjl,hix2,W.av,W.cs,splice]
    rw [show AV.agg [AV.int IntKind.i64 row[j].op,AV.int IntKind.i64 row[j].ty,AV.int IntKind.i64 row[j].n,AV.int IntKind.i64 row[j].body,AV.int IntKind.i64 row[j].other,AV.str row[j].name] = row[j].av from rfl]
    refine names_calls fun nv σ3 hnv A3=>?_
    have A3' : Adds ρ σ3:=(((Adds.refl ρ).newO).setO (Nat.le_refl _)).trans A3
    have N3:=N2.adds (by omega) A3'
    have hnl:=hnv.len
    simp [hnl]
    refine aloop (NI1 σ1 σ.no f.lists.length tv f.lists i rv row j nv (namesL row[j]) goal) (MU 44 ((namesL row[j]).length + 1)) ⟨0,named1,by omega,by simp [b2],by simp [b28],by simp [b29],by simp [b30],by simp [b3],by simp [b35],by simp [b36],by simp [b37],by simp,by simp,by simp,N3,by simpa using hg1⟩ fun d π hI=>?_
    obtain ⟨q,named,hq,d2,d28,d29,d30,d3,d35,d36,d37,d42,d43,d44,N,hg⟩:=hI
    have ho:=N.obj
    have hnlen:=N.len
    have hbl : (boolsA named).length = f.lists.length:=by simp [boolsA,hnlen]
    by_cases hql : q < (namesL row[j]).length
    ·obtain ⟨q3,hix3⟩:=hnv.at hql
     rw [List.drop_eq_getElem_cons hql,namesE_then] at hg
     have hw3 : IntKind.wrap .i64 ((q : Int) + 1) = ((q + 1 : Nat) : Int):=by
      have : (namesL row[j]).length ≤ 2:=by unfold namesL; split <;> (try split) <;> simp
      rw [wrap_i64] <;> omega
     generalize hn : (namesL row[j])[q] = n at *
     by_cases hok : 0 ≤ n ∧ n < (i : Int)
     ·have hnl2 : n.toNat < f.lists.length:=by omega
      have hnn : n.toNat < named.length:=by omega
      have hget : (boolsA named)[n.toNat]? = some (.bool named[n.toNat]):=by simp [boolsA,hnn]
      have hge : ∀ p : n.toNat < (boolsA named).length,(boolsA named)[n.toNat]'p = .bool named[n.toNat]:=fun p=>by rw [List.getElem?_eq_getElem p] at hget; exact Option.some.inj hget
      have hlb : n.toNat < (boolsA named).length:=by omega
      have hgd : named.getD n.toNat true = named[n.toNat]:=by rw [List.getD_eq_getElem?_getD,List.getElem?_eq_getElem hnn]; rfl
      have hnL : n < (f.lists.length : Int):=by omega
      cases hv : named[n.toNat] with
      | true =>
       have hE : nameE (i : Int) named n = .error 11:=by unfold nameE; rw [if_neg (by rw [hgd,hv]; simp)]
       rw [hE] at hg
       simp [thenE] at hg
       rw [← hg] at h
       rw [hv] at hget hge
       simp [pc88_l1,d2,d3,d42,d43,d44,hql,hix3,hok.1,hok.2,ho,hlb,hge,hnL]
       refine w_must_calls (fun q=>by simp at q) (fun _=>?_)
       simp
       exact h _ (toA N)
      | false =>
       have hE : nameE (i : Int) named n = .ok (named.set n.toNat true):=by unfold nameE; rw [if_pos ⟨hok.1,hok.2,by rw [hgd,hv]⟩]
       rw [hE] at hg
       simp only [thenE] at hg
       rw [hv] at hget hge
       simp [pc88_l1,d2,d3,d42,d43,d44,hql,hix3,hok.1,hok.2,ho,hlb,hge,hnL]
       refine w_must_calls (fun _=>?_) (fun q=>by simp at q)
       simp [d2,d44,hok.1,hnL,ho,hlb,hw3]
       rw [splice_bool hnn]
       refine ⟨hlb,⟨q + 1,named.set n.toNat true,by omega,by simp [d2],by simp [d28],by simp [d29],by simp [d30],by simp [d3],by simp [d35],by simp [d36],by simp [d37],by simp [d42],by simp [d43],by simp,N.set (by simp [hnlen]),hg⟩,?_⟩
       simp only [MU,d44]; simp; omega
     ·have hE : nameE (i : Int) named n = .error 11:=by unfold nameE; rw [if_neg (fun q=>hok ⟨q.1,q.2.1⟩)]
      rw [hE] at hg
      simp [thenE] at hg
      rw [← hg] at h
      by_cases h0 : 0 ≤ n
      ·have h1 : ¬ n < (i : Int):=fun q=>hok ⟨h0,q⟩
       simp [pc88_l1,d2,d3,d42,d43,d44,hql,hix3,h0,h1]
       refine w_must_calls (fun q=>by simp at q) (fun _=>?_)
       simp
       exact h _ (toA N)
      ·simp [pc88_l1,d2,d3,d42,d43,d44,hql,hix3,h0]
       refine w_must_calls (fun q=>by simp at q) (fun _=>?_)
       simp
       exact h _ (toA N)
    ·have he : q = (namesL row[j]).length:=by omega
     subst he
     have hnil : (namesL row[j]).drop (namesL row[j]).length = []:=by simp
     rw [hnil] at hg
     simp only [namesE,thenE] at hg
     have hw3 : IntKind.wrap .i64 ((j : Int) + 1) = ((j + 1 : Nat) : Int):=by rw [wrap_i64] <;> omega
     simp [pc88_l1,pc88_r1,d37,d43,d44,hw3]
     refine ⟨⟨j + 1,named,by omega,by simp [d2],by simp [d28],by simp [d29],by simp [d30],by simp [d3],by simp [d35],by simp [d36],by simp,N,hg⟩,?_⟩
     simp only [MU,b37]; simp; omega
   ·have he : j = row.length:=by omega
    subst he
    have hnil : row.drop row.length = []:=by simp
    rw [hnil] at hg1
    simp only [rowE,thenE] at hg1
    have hw3 : IntKind.wrap .i64 ((i : Int) + 1) = ((i + 1 : Nat) : Int):=by rw [wrap_i64] <;> omega
    simp [pc88_l2,pc88_r2,b30,b36,b37,hw3]
    refine ⟨⟨i + 1,named1,by omega,by simp [b2],by simp [b28],by simp [b29],by simp,N2,hg1⟩,?_⟩
    simp only [MU,a30]; simp; omega
  ·have he : i = f.lists.length:=by omega
   subst he
   have hnil : f.lists.drop f.lists.length = []:=by simp
   rw [hnil] at hg0
   simp only [rowsE] at hg0
   rw [← hg0] at h
   simp only at h
   have hw3 : IntKind.wrap .i64 ((f.lists.length : Int) - 1) = ((f.lists.length - 1 : Nat) : Int):=by rw [wrap_i64] <;> omega
   simp [pc88_l3,pc88_r3,a2,a29,a30,hw3]
   refine contains_false N0.obj (by rw [N0.len]; omega) (by omega) ?_
   cases hq : (named0.take (f.lists.length - 1)).all (· == true) with
   | true =>
    rw [if_pos hq] at h
    simp
    refine w_must_calls (fun _=>?_) (fun q=>by simp at q)
    simp
    exact h _ (toA N0)
   | false =>
    rw [if_neg (by rw [hq]; simp)] at h
    simp
    refine w_must_calls (fun q=>by simp at q) (fun _=>?_)
    simp
    exact h _ (toA N0)
end Go.Proofs.YthejpoplbllcbaaGreatDoor
set_option linter.unusedSimpArgs false
set_option linter.unusedVariables false
namespace Go.Proofs.YthejpoplbllcbaaGreatDoor
open Go Go.Abs
theorem w_function_calls {G : Env} (V : Vars G) {m : M} (sm : Small m) {f : F} (hfm : f ∈ m.funcs) {σ0 σ : AS} {R : Out → AS → Prop} {c : Nat} (A0 : Adds σ0 σ) (hc0 : σ0.no ≤ c) (C : CkAt σ c m f []) (h : FinU R σ0 (functionE m.funcs f)) : ACalls Tryz.prog G 49 [.ptr c 0] σ R := by
 refine calls49 rfl ?_
 have C0:=C
 obtain ⟨hc,fsv,pv,lv,tv,lsv,hco,hfs,hpv,hlv,htv,hls⟩:=C
 have p1:=hpv.one
 have l1:=hlv.one
 have hpb:=sm.params f hfm
 have hlb:=sm.locals f hfm
 simp [pc49,hco,p1,l1]
 refine concat_calls hpv hlv (by omega) fun v σ1 hv A1=>?_
 have v1:=hv.one
 have hco1:=(A1.obj c hc).trans hco
 simp [hco1,v1,splice]
 generalize hσ2 : σ1.setO c [fsv,AV.int IntKind.i64 m.memory,AV.int IntKind.i64 m.main,AV.str f.name,pv,lv,AV.int IntKind.i64 f.type,tv,v] = σ2
 have hc1 : c < σ1.no:=Nat.lt_of_lt_of_le hc A1.no
 have hco2 : σ2.objs c = some [fsv,.int .i64 m.memory,.int .i64 m.main,.str f.name,pv,lv,.int .i64 f.type,tv,v]:=by rw [← hσ2]; simp
 have A2 : Adds σ0 σ2:=by rw [← hσ2]; exact (A0.trans A1).setO hc0
 have C2 : CkAt σ2 c m f (f.params ++ f.locals):=⟨by rw [← hσ2]; simpa using hc1,_,_,_,_,_,hco2,hfs,hpv,hlv,htv,hv⟩
 unfold functionE at h
 have hll:=sm.lists f hfm
 refine containsFunc_calls hv (by simp; omega) ?_
 have fail : ((f.params ++ f.locals).all numberB && decide (0 ≤ f.type) && decide (f.type ≤ 2)) = false → ∀ σ',Adds σ0 σ' → R (.panic (stopV 6)) σ':=fun q=>by
  rw [if_pos q] at h; exact h
 cases hn : (f.params ++ f.locals).all numberB with
 | false =>
  simp
  refine w_must_calls (fun q=>by simp at q) (fun _=>?_)
  simp
  exact fail (by rw [hn]; rfl) _ A2
 | true =>
 by_cases k0 : 0 ≤ f.type
 ·by_cases k2 : f.type ≤ 2
  ·rw [if_neg (by rw [hn]; simp [k0,k2])] at h
   simp [hco2,k0,k2]
   refine w_must_calls (fun _=>?_) (fun q=>by simp at q)
   simp
   refine clists_calls V C2 hll (fun l hl=>sm.rows f hfm l hl) ?_
   cases hq : listsE f.lists with
   | error e =>
    rw [hq] at h
    intro σ3 A3
    simp
    exact h σ3 (A2.trans A3)
   | ok u =>
    rw [hq] at h
    simp only at h
    intro σ3 A3
    have C3:=C2.adds A3
    have C3':=C3
    obtain ⟨hc3,fsv3,pv3,lv3,tv3,lsv3,hco3,_,_,_,htv3,_⟩:=C3'
    obtain ⟨hpos,hah,_⟩:=listsE_ok hq
    have hlen3:=htv3.len
    have hw3 : IntKind.wrap .i64 ((f.lists.length : Int) - 1) = (f.lists.length : Int) - 1:=by rw [wrap_i64] <;> omega
    simp [hco3,hlen3,hw3]
    refine look_ok V sm hfm hah (f.params ++ f.locals) f.lists.length c σ3 ((f.lists.length : Int) - 1) 0 _ C3 (by omega) (by omega) (by omega) (by omega) ?_
    revert h
    cases lookE m.funcs (f.params ++ f.locals) f.type f.lists f.lists.length ((f.lists.length : Int) - 1) 0 with
    | ok u=>intro h σ4 A4; simp; exact h σ4 ((A2.trans A3).trans A4)
    | error e=>intro h σ4 A4; simp; exact h σ4 ((A2.trans A3).trans A4)
  ·simp [hco2,k0,k2]
   refine w_must_calls (fun q=>by simp at q) (fun _=>?_)
   simp
   exact fail (by simp [k2]) _ A2
 ·simp [hco2,k0]
  refine w_must_calls (fun q=>by simp at q) (fun _=>?_)
  simp
  exact fail (by simp [k0]) _ A2
@[simp] theorem aeq_if20 (t : Nat) (v : AV) : aeq Tryz.prog 20 (.iface t v) .nilif = some false := by simp [aeq,aeq1,show Tryz.prog.underlying 20 = some (.interface #[]) from by kernel_rfl]
@[simp] theorem aeq_nil20 : aeq Tryz.prog 20 .nilif .nilif = some true := by simp [aeq,aeq1,show Tryz.prog.underlying 20 = some (.interface #[]) from by kernel_rfl]
@[simp] theorem abin_if20 (t : Nat) (v : AV) (K : AV → Prop) : abin Tryz.prog .neq 20 (.iface t v) .nilif K = K (.bool true) := by simp [abin]
@[simp] theorem abin_nil20 (K : AV → Prop) : abin Tryz.prog .neq 20 .nilif .nilif K = K (.bool false) := by simp [abin]
@[simp] theorem aq_normal (H : Option AV → (Nat → AV) → AS → Prop) (a : Nat → AV) (σ : AS) : aq H .normal a σ = H none a σ := Eq.trans rfl rfl
@[simp] theorem aq_ret (H : Option AV → (Nat → AV) → AS → Prop) (a : Nat → AV) (σ : AS) : aq H .ret a σ = H none a σ := Eq.trans rfl rfl
@[simp] theorem aq_panic (H : Option AV → (Nat → AV) → AS → Prop) (v : AV) (a : Nat → AV) (σ : AS) : aq H (.panic v) a σ = H (some v) a σ := Eq.trans rfl rfl
def MI (σ1 : AS) (mb eb : Nat) (fsv : AV) (m : M) (goal : Res Unit) (a : Nat → AV) (τ : AS) : Prop := ∃ i : Nat,i ≤ m.funcs.length ∧ a 1 = .ptr mb 0 ∧ a 2 = .ptr eb 0 ∧ a 16 = fsv ∧ a 17 = .int .i64 (m.funcs.length : Int) ∧ a 18 = .int .i64 (i : Int) ∧ Adds σ1 τ ∧ functionsE m.funcs (m.funcs.drop i) = goal
set_option maxRecDepth 20000 in
theorem check_calls {G : Env} (V : Vars G) {m : M} (sm : Small m) {σ : AS} {R : Out → AS → Prop} {mv : AV} (hm : MV mv m) (h : ∀ σ',Adds σ σ' → R (.ret (.int .i64 (errOf (checkE m)))) σ') : ACalls Tryz.prog G 20 [mv] σ R := by
 refine acalls_recover (px:=pc20_x) (pz:=pc20_z) (k:=47) (py:=pc47_h) (n:=61) (nk:=8) (t:=5) (d0:=2) (d1:=1) (res:=[.cell 2 28]) mixed Tryz.func20 rfl rfl rfl rfl (by kernel_rfl) (by kernel_rfl) (by simp) rfl rfl rfl rfl rfl rfl (by decide) Tryz.func47 rfl (by kernel_rfl) rfl rfl rfl rfl rfl rfl rfl rfl rfl (by kernel_rfl) (by decide) (by decide) (by decide) ?_
 obtain ⟨fsv,rfl,hfs⟩:=hm
 have f1:=hfs.one
 have hfl:=hfs.len
 simp [pc20_x]
 have ecap : List.map (ev G (upd (upd (frame0 [AV.agg [fsv,AV.int IntKind.i64 m.memory,AV.int IntKind.i64 m.main]]) 1 (AV.ptr σ.no 0)) 2 (AV.ptr (σ.no + 1) 0))) #[Operand.tmp 2].toList = [.ptr (σ.no + 1) 0]:=rfl
 rw [ecap]
 generalize hfr : upd (upd (upd (frame0 [AV.agg [fsv,AV.int IntKind.i64 m.memory,AV.int IntKind.i64 m.main]]) 1 (AV.ptr σ.no 0)) 2 (AV.ptr (σ.no + 1) 0)) 5 (AV.fn (Fn.func 47) [] [AV.ptr (σ.no + 1) 0]) = fr
 have fr1 : fr 1 = .ptr σ.no 0:=by rw [← hfr]; simp
 have fr2 : fr 2 = .ptr (σ.no + 1) 0:=by rw [← hfr]; simp
 have hno1 : ((σ.newO [fsv,AV.int IntKind.i64 m.memory,AV.int IntKind.i64 m.main]).newO [AV.int IntKind.i64 0]).no = σ.no + 2:=by simp
 have A1 : Adds σ ((σ.newO [fsv,AV.int IntKind.i64 m.memory,AV.int IntKind.i64 m.main]).newO [AV.int IntKind.i64 0]):=(Adds.refl σ).newO.newO
 have hm1 : ((σ.newO [fsv,AV.int IntKind.i64 m.memory,AV.int IntKind.i64 m.main]).newO [AV.int IntKind.i64 0]).objs σ.no = some [fsv,.int .i64 m.memory,.int .i64 m.main]:=by simp
 have he1 : ((σ.newO [fsv,AV.int IntKind.i64 m.memory,AV.int IntKind.i64 m.main]).newO [AV.int IntKind.i64 0]).objs (σ.no + 1) = some [.int .i64 0]:=by simp
 generalize (σ.newO [fsv,AV.int IntKind.i64 m.memory,AV.int IntKind.i64 m.main]).newO [AV.int IntKind.i64 0] = σ1 at *
 -- what is recovered
 have hand : ∀ (e : Int) (a : Nat → AV) (τ : AS),a 2 = .ptr (σ.no + 1) 0 → Adds σ1 τ → (∀ σ',Adds σ σ' → R (.ret (.int .i64 e)) σ') → AHandle Tryz.prog G 8 pc47_h 2 1 [.ptr (σ.no + 1) 0] [.cell 2 28] R (some (stopV e)) a τ:=by
  intro e a τ a2 A hh
  have he:=(A.obj (σ.no + 1) (by omega)).trans he1
  simp [AHandle,pc47_h,stopV,he,splice,a2]
  exact hh _ ((A1.trans A).setO (by omega))
 have done : ∀ (a : Nat → AV) (τ : AS),a 2 = .ptr (σ.no + 1) 0 → Adds σ1 τ → (∀ σ',Adds σ σ' → R (.ret (.int .i64 0)) σ') → AHandle Tryz.prog G 8 pc47_h 2 1 [.ptr (σ.no + 1) 0] [.cell 2 28] R none a (τ.setO (σ.no + 1) [.int .i64 0]):=by
  intro a τ a2 A hh
  simp [AHandle,pc47_h,splice,a2]
  exact hh _ ((A1.trans A).setO (by omega))
 unfold checkE at h
 by_cases k0 : 0 ≤ m.memory
 ·by_cases k1 : m.memory ≤ 4096
  ·rw [if_neg (by simp [k0,k1])] at h
   simp [pc20_z,fr1,hm1,k0,k1]
   refine w_must_calls (fun _=>?_) (fun q=>by simp at q)
   simp [fr1,hm1,f1,hfl]
   generalize hgoal : functionsE m.funcs m.funcs = goal at h
   refine aloop (MI σ1 σ.no (σ.no + 1) fsv m goal) (MU 18 (m.funcs.length + 1)) ⟨0,by omega,by simp [fr1],by simp [fr2],by simp,by simp,by simp,.refl _,by simpa using hgoal⟩ fun a τ hI=>?_
   obtain ⟨i,hi,a1,a2,a16,a17,a18,A,hg⟩:=hI
   have hm2:=(A.obj σ.no (by omega)).trans hm1
   have he2:=(A.obj (σ.no + 1) (by omega)).trans he1
   by_cases hlt : i < m.funcs.length
   ·obtain ⟨b,fv,hfv,hix⟩:=hfs.at hlt
    have hmem:=List.getElem_mem hlt
    rw [List.drop_eq_getElem_cons hlt,functionsE] at hg
    generalize m.funcs[i] = f at *
    obtain ⟨pv,lv,tv,rfl,hp,hl,ht⟩:=hfv
    have p1:=hp.one
    have l1:=hl.one
    have t1:=ht.one
    have hmn : σ.no ≠ τ.no:=by have:=A.no; omega
    simp [pc20_z_l1,a1,a16,a17,a18,hlt,hix,p1,l1,t1,f1,splice,hm2,hmn]
    have A3 : Adds τ (((τ.newO [AV.str [],AV.nilsl,AV.nilsl,AV.int IntKind.i64 0,AV.nilsl]).setO τ.no [AV.str f.name,pv,lv,AV.int IntKind.i64 f.type,tv]).newO [fsv,AV.int IntKind.i64 m.memory,AV.int IntKind.i64 m.main,AV.str f.name,pv,lv,AV.int IntKind.i64 f.type,tv,AV.nilsl]):=(((Adds.refl τ).newO).setO (Nat.le_refl _)).newO
    refine w_function_calls V sm hmem A3 (by omega) ⟨by simp,_,_,_,_,_,by simp,hfs,hp,hl,ht,.inl ⟨rfl,rfl⟩⟩ ?_
    have hw3 : IntKind.wrap .i64 ((i : Int) + 1) = ((i + 1 : Nat) : Int):=by have:=sm.funcs; rw [wrap_i64] <;> omega
    cases hq : functionE m.funcs f with
    | error e =>
     rw [hq] at hg
     simp only at hg
     rw [← hg] at h
     intro σ4 A4
     simp
     exact hand e _ σ4 (by simp [hide,a2]) (A.trans A4) h
    | ok u =>
     rw [hq] at hg
     simp only at hg
     intro σ4 A4
     simp [a18,hw3]
     refine ⟨⟨i + 1,by omega,by simp [a1],by simp [a2],by simp [a16],by simp [a17],by simp,A.trans A4,hg⟩,?_⟩
     simp only [MU,a18]; simp; omega
   ·have he : i = m.funcs.length:=by omega
    subst he
    have hnil : m.funcs.drop m.funcs.length = []:=by simp
    rw [hnil] at hg
    simp only [functionsE] at hg
    rw [← hg] at h
    simp only at h
    have good : mainB m = true → ∀ σ',Adds σ σ' → R (.ret (.int .i64 0)) σ':=fun q=>by rw [if_pos q] at h; exact h
    have bad : mainB m = false → ∀ σ',Adds σ σ' → R (.ret (.int .i64 12)) σ':=fun q=>by rw [if_neg (by rw [q]; simp)] at h; exact h
    by_cases q0 : 0 ≤ m.main
    ·by_cases q1 : m.main < (m.funcs.length : Int)
     ·have hlt2 : m.main.toNat < m.funcs.length:=by omega
      obtain ⟨b,fv,hfv,hix⟩:=hfs.at hlt2
      have e1 : ((m.main.toNat : Nat) : Int) = m.main:=by omega
      rw [e1] at hix
      have hfn : m.funcs[m.main.toNat]? = some m.funcs[m.main.toNat]:=List.getElem?_eq_getElem hlt2
      have hmb : mainB m = (decide (m.funcs[m.main.toNat].type = 1) && decide (m.funcs[m.main.toNat].params.length = 0)):=by
       unfold mainB; rw [hfn]; simp [q0]
      generalize m.funcs[m.main.toNat] = f at *
      obtain ⟨pv,lv,tv,rfl,hp,hl,ht⟩:=hfv
      have hpl:=hp.len
      have p1:=hp.one
      by_cases q2 : f.type = 1
      ·by_cases q3 : f.params.length = 0
       ·have q3' : f.params = []:=List.length_eq_zero_iff.1 q3
        simp [pc20_z_l1,pc20_z_r1,a1,a2,a16,a17,a18,hm2,he2,hfl,f1,q0,q1,hix,q2,hpl,p1,q3',splice]
        refine w_must_calls (fun _=>?_) (fun q=>by simp at q)
        simp [a2,he2,splice]
        exact done _ τ (by simp [a2]) A (good (by rw [hmb]; simp [q2,q3']))
       ·have q3' : ¬ f.params = []:=fun q=>q3 (by rw [q]; rfl)
        simp [pc20_z_l1,pc20_z_r1,a1,a2,a16,a17,a18,hm2,he2,hfl,f1,q0,q1,hix,q2,hpl,p1,q3',splice]
        refine w_must_calls (fun q=>by simp at q) (fun _=>?_)
        simp
        exact hand 12 _ τ (by simp [hide,a2]) A (bad (by rw [hmb]; simp [q3']))
      ·simp [pc20_z_l1,pc20_z_r1,a1,a2,a16,a17,a18,hm2,he2,hfl,f1,q0,q1,hix,q2,splice]
       refine w_must_calls (fun q=>by simp at q) (fun _=>?_)
       simp
       exact hand 12 _ τ (by simp [hide,a2]) A (bad (by rw [hmb]; simp [q2]))
     ·simp [pc20_z_l1,pc20_z_r1,a1,a2,a16,a17,a18,hm2,he2,hfl,f1,q0,q1,splice]
      refine w_must_calls (fun q=>by simp at q) (fun _=>?_)
      simp
      refine hand 12 _ τ (by simp [hide,a2]) A (bad ?_)
      unfold mainB
      rw [List.getElem?_eq_none (by omega)]
      simp
    ·simp [pc20_z_l1,pc20_z_r1,a1,a2,a16,a17,a18,hm2,he2,hfl,f1,q0,splice]
     refine w_must_calls (fun q=>by simp at q) (fun _=>?_)
     simp
     exact hand 12 _ τ (by simp [hide,a2]) A (bad (by simp [mainB,q0]))
  ·rw [if_pos (by simp [k1])] at h
   simp [pc20_z,fr1,hm1,k0,k1]
   refine w_must_calls (fun q=>by simp at q) (fun _=>?_)
   simp
   exact hand 11 _ σ1 (by simp [hide,fr2]) (.refl _) h
 ·rw [if_pos (by simp [k0])] at h
  simp [pc20_z,fr1,hm1,k0]
  refine w_must_calls (fun q=>by simp at q) (fun _=>?_)
  simp
  exact hand 11 _ σ1 (by simp [hide,fr2]) (.refl _) h
end Go.Proofs.YthejpoplbllcbaaGreatDoor
set_option linter.unusedSimpArgs false
set_option linter.unusedVariables false
namespace Go.Proofs.YthejpoplbllcbaaGreatDoor
open Go Go.Abs
end Go.Proofs.YthejpoplbllcbaaGreatDoor
set_option linter.unusedSimpArgs false
set_option linter.unusedVariables false
namespace Go.Proofs.YthejpoplbllcbaaGreatDoor
open Go Go.Abs
structure Fits (m : M) : Prop where
 funcs : m.funcs.length ≤ 2 ^ 47
 params : ∀ f ∈ m.funcs,f.params.length ≤ 2 ^ 47
 locals : ∀ f ∈ m.funcs,f.locals.length ≤ 2 ^ 47
 lists : ∀ f ∈ m.funcs,f.lists.length ≤ 2 ^ 47
 rows : ∀ f ∈ m.funcs,∀ l ∈ f.lists,l.length ≤ 2 ^ 47
structure SmallF (f : F) : Prop where
 params : f.params.length ≤ 3000
 locals : f.locals.length ≤ 3000
 lists : f.lists.length ≤ 300
 rows : ∀ l ∈ f.lists,l.length ≤ 3000
def BO (fv : AV) (m : M) (mb : Nat) (σ1 : AS) (a : Nat → AV) (τ : AS) : Prop := ∃ (i z : Nat),i ≤ m.funcs.length ∧ z ≤ 3000 ∧ a 1 = .ptr mb 0 ∧ a 3 = .int .i64 (z : Int) ∧ a 4 = .int .i64 (i : Int) ∧ Adds σ1 τ ∧ ∀ j f,j < i → m.funcs[j]? = some f → SmallF f
def BN (m : M) (mb fb : Nat) (σ1 : AS) (i : Nat) (f : F) (base : Nat) (a : Nat → AV) (τ : AS) : Prop := ∃ (k : Nat) (z : Int),k ≤ f.lists.length ∧ a 1 = .ptr mb 0 ∧ a 4 = .int .i64 (i : Int) ∧ a 5 = .ptr fb 0 ∧ a 6 = .int .i64 (k : Int) ∧ a 3 = .int .i64 z ∧ Adds σ1 τ ∧ (f.lists.length ≤ 300 → z = ((base + sumC id (f.lists.take k) : Nat) : Int))
theorem sumC_take_succ {ls : To} {k : Nat} (h : k < ls.length) : sumC id (ls.take (k + 1)) = sumC id (ls.take k) + ls[k].length := by
 rw [List.take_succ_eq_append_getElem h,sumC_append]
 simp [sumC]
theorem sumC_bound {ls : To} {B : Nat} (h : ∀ l ∈ ls,l.length ≤ B) : sumC id ls ≤ ls.length * B := by
 induction ls with
 | nil=>simp [sumC]
 | cons l ls ih =>
  have h1:=h l (by simp)
  have h2:=ih fun x hx=>h x (by simp [hx])
  simp only [sumC,List.map_cons,List.sum_cons,List.length_cons,id] at h2 ⊢
  rw [Nat.add_mul]; omega
theorem sumC_mem {ls : To} {l : List W} (h : l ∈ ls) : l.length ≤ sumC id ls := by
 induction ls with
 | nil=>simp at h
 | cons x ls ih =>
  simp only [sumC,List.map_cons,List.sum_cons,id] at ih ⊢
  rcases List.mem_cons.1 h with rfl | h
  ·omega
  ·have:=ih h; omega
set_option maxRecDepth 20000 in
theorem big_calls {G : Env} {σ : AS} {R : Out → AS → Prop} {mv : AV} {m : M} (hm : MV mv m) (hf : Fits m) (h : ∀ b σ',(b = false → m.funcs.length ≤ 12 ∧ ∀ f ∈ m.funcs,SmallF f) → Adds σ σ' → R (.ret (.bool b)) σ') : ACalls Tryz.prog G 19 [mv] σ R := by
 refine calls19 rfl ?_
 obtain ⟨fv,rfl,hfs⟩:=hm
 have f1:=hfs.one
 have hfl:=hfs.len
 by_cases hb : (12 : Int) < (m.funcs.length : Int)
 ·simp [pc19,hfl,f1,hb]
  exact h true _ (by simp) (Adds.refl σ).newO
 ·simp [pc19,hfl,f1,hb]
  have A1 : Adds σ (σ.newO [fv,AV.int IntKind.i64 m.memory,AV.int IntKind.i64 m.main]):=(Adds.refl σ).newO
  have hm1 : (σ.newO [fv,AV.int IntKind.i64 m.memory,AV.int IntKind.i64 m.main]).objs σ.no = some [fv,.int .i64 m.memory,.int .i64 m.main]:=by simp
  have hno1 : (σ.newO [fv,AV.int IntKind.i64 m.memory,AV.int IntKind.i64 m.main]).no = σ.no + 1:=by simp
  generalize σ.newO [fv,AV.int IntKind.i64 m.memory,AV.int IntKind.i64 m.main] = σ1 at *
  refine aloop (BO fv m σ.no σ1) (MU 4 (m.funcs.length + 1)) ⟨0,0,by omega,by omega,by simp,by simp,by simp,.refl _,fun j f hj=>by omega⟩ fun a τ hI=>?_
  obtain ⟨i,z,hi,hz,a1,a3,a4,A,hall⟩:=hI
  have hm2:=(A.obj σ.no (by omega)).trans hm1
  by_cases hlt : i < m.funcs.length
  ·obtain ⟨b,rv,hfv,hix⟩:=hfs.at hlt
   have hmem:=List.getElem_mem hlt
   have hget : m.funcs[i]? = some m.funcs[i]:=List.getElem?_eq_getElem hlt
   have q1:=hf.params _ hmem
   have q2:=hf.locals _ hmem
   have q3:=hf.lists _ hmem
   have q4:=hf.rows _ hmem
   generalize m.funcs[i] = f at *
   obtain ⟨pv,lv,tv,rfl,hp,hl,ht⟩:=hfv
   have p1:=hp.one
   have l1:=hl.one
   have t1:=ht.one
   have hpl:=hp.len
   have hll:=hl.len
   have htl:=ht.len
   have w1 : IntKind.wrap .i64 ((z : Int) + (f.params.length : Int)) = (z : Int) + (f.params.length : Int):=by rw [wrap_i64] <;> omega
   have w2 : IntKind.wrap .i64 ((z : Int) + (f.params.length : Int) + (f.locals.length : Int)) = (z : Int) + (f.params.length : Int) + (f.locals.length : Int):=by rw [wrap_i64] <;> omega
   have w3 : IntKind.wrap .i64 ((z : Int) + (f.params.length : Int) + (f.locals.length : Int) + (f.lists.length : Int)) = (z : Int) + (f.params.length : Int) + (f.locals.length : Int) + (f.lists.length : Int):=by rw [wrap_i64] <;> omega
   have hlt' : (i : Int) < (m.funcs.length : Int):=by omega
   have hmn : σ.no ≠ τ.no:=by have:=A.no; omega
   simp [pc19_l2,a1,a3,a4,hm2,hfl,f1,hlt,hix,p1,l1,t1,hpl,hll,htl,w1,w2,w3,splice]
   have A3 : Adds τ ((τ.newO [AV.str [],AV.nilsl,AV.nilsl,AV.int IntKind.i64 0,AV.nilsl]).setO τ.no [AV.str f.name,pv,lv,AV.int IntKind.i64 f.type,tv]):=((Adds.refl τ).newO).setO (Nat.le_refl _)
   have hf3 : ((τ.newO [AV.str [],AV.nilsl,AV.nilsl,AV.int IntKind.i64 0,AV.nilsl]).setO τ.no [AV.str f.name,pv,lv,AV.int IntKind.i64 f.type,tv]).objs τ.no = some [.str f.name,pv,lv,.int .i64 f.type,tv]:=by simp
   have hn3 : ((τ.newO [AV.str [],AV.nilsl,AV.nilsl,AV.int IntKind.i64 0,AV.nilsl]).setO τ.no [AV.str f.name,pv,lv,AV.int IntKind.i64 f.type,tv]).no = τ.no + 1:=by simp
   generalize (τ.newO [AV.str [],AV.nilsl,AV.nilsl,AV.int IntKind.i64 0,AV.nilsl]).setO τ.no [AV.str f.name,pv,lv,AV.int IntKind.i64 f.type,tv] = σ3 at *
   have hbase : f.lists.length ≤ 300 → ((z : Int) + (f.params.length : Int) + (f.locals.length : Int) + (f.lists.length : Int)) = ((z + f.params.length + f.locals.length + f.lists.length + sumC id (f.lists.take 0) : Nat) : Int):=fun _=>by simp [sumC]
   refine aloop (BN m σ.no τ.no σ3 i f (z + f.params.length + f.locals.length + f.lists.length)) (MU 6 (f.lists.length + 1)) ⟨0,_,by omega,by simp [a1],by simp [a4],by simp,by simp,by simp,.refl _,hbase⟩ fun b ρ hJ=>?_
   obtain ⟨k,y,hk,b1,b4,b5,b6,b3,A4,hy⟩:=hJ
   have hf4:=(A4.obj τ.no (by omega)).trans hf3
   by_cases hkl : k < f.lists.length
   ·obtain ⟨b',rv,hrep,hix2⟩:=ht.at hkl
    have hrl:=q4 _ (List.getElem_mem hkl)
    have r1:=hrep.one
    have hrlen:=hrep.len
    have w5 : IntKind.wrap .i64 ((k : Int) + 1) = ((k + 1 : Nat) : Int):=by rw [wrap_i64] <;> omega
    simp [pc19_l1,b1,b4,b5,b6,b3,hf4,htl,hkl,hix2,r1,hrlen,w5]
    refine ⟨⟨k + 1,IntKind.wrap .i64 (y + (f.lists[k].length : Int)),by omega,by simp [b1],by simp [b4],by simp [b5],by simp,by simp,A4,fun h3=>?_⟩,?_⟩
    ·have e:=hy h3
     have hB:=sumC_bound (ls:=f.lists.take k) (B:=2 ^ 47) fun l hl=>q4 l (List.mem_of_mem_take hl)
     have hkk : (f.lists.take k).length ≤ 300:=by rw [List.length_take]; omega
     have hB2 : sumC id (f.lists.take k) ≤ 300 * 2 ^ 47:=Nat.le_trans hB (Nat.mul_le_mul_right _ hkk)
     rw [sumC_take_succ hkl,e,wrap_i64] <;> omega
    ·simp only [MU,b6]; simp; omega
   ·have he : k = f.lists.length:=by omega
    subst he
    rw [List.take_length] at hy
    have w5 : IntKind.wrap .i64 ((i : Int) + 1) = ((i + 1 : Nat) : Int):=by have:=hf.funcs; rw [wrap_i64] <;> omega
    by_cases hbig : (3000 : Int) < y
    ·simp [pc19_l1,pc19_r1,b5,b6,b3,hf4,htl,hbig]
     exact h true _ (by simp) (A1.trans (A.trans (A3.trans A4)))
    ·by_cases hbl : (300 : Int) < (f.lists.length : Int)
     ·simp [pc19_l1,pc19_r1,b5,b6,b3,hf4,htl,hbig,hbl]
      exact h true _ (by simp) (A1.trans (A.trans (A3.trans A4)))
     ·simp [pc19_l1,pc19_r1,pc19_r2,b4,b5,b6,b3,hf4,htl,hbig,hbl,w5]
      have e:=hy (by omega)
      refine ⟨⟨i + 1,y.toNat,by omega,by omega,by simp [b1],by simp [b3]; omega,by simp,A.trans (A3.trans A4),fun j g hj hg=>?_⟩,?_⟩
      ·by_cases ej : j = i
       ·subst ej
        rw [hget] at hg
        cases hg
        exact ⟨by omega,by omega,by omega,fun l hl=>by have:=sumC_mem hl; omega⟩
       ·exact hall j g (by omega) hg
      ·simp only [MU,a4]; simp; omega
  ·have he : i = m.funcs.length:=by omega
   subst he
   simp [pc19_l2,pc19_r3,a1,a4,hm2,hfl,f1]
   refine h false _ (fun _=>⟨by omega,fun f hf=>?_⟩) (A1.trans A)
   obtain ⟨j,hj,rfl⟩:=List.mem_iff_getElem.1 hf
   exact hall j _ hj (List.getElem?_eq_getElem hj)
end Go.Proofs.YthejpoplbllcbaaGreatDoor
set_option linter.unusedSimpArgs false
set_option linter.unusedVariables false
namespace Go.Proofs.YthejpoplbllcbaaGreatDoor
open Go Go.Abs
theorem signOf_mem : ∀ {l : List (List UInt8 × List UInt8)} {s : List UInt8},signOf l s ≠ [] → s ∈ l.map (·.1)
 | [],s,h=>by simp [signOf] at h
 | (x,y) :: r,s,h=>by
  rw [signOf] at h
  split at h
  ·rename_i e; simp [e]
  ·simp only [List.map_cons,List.mem_cons]; exact .inr (signOf_mem h)
theorem signs_ix : ∀ s ∈ signs.map (·.1),∃ i,signIx s = some i ∧ i < 16 := by decide
theorem codeS_some {w : W} (h : formB w = true) (hn : nestW w = false) : ∃ c,codeS w = some c := by
 by_cases h4 : w.op = 4
 ·rw [codeS,if_pos h4,codeL,if_pos h4]
  unfold formB at h
  rw [if_neg (by omega),if_pos h4] at h
  simp only [Bool.and_eq_true,Bool.not_eq_true',beq_eq_false_iff_ne,ne_eq,numberB,Bool.or_eq_true,decide_eq_true_eq] at h
  obtain ⟨i,hi,hl⟩:=signs_ix _ (signOf_mem h.2)
  rw [hi]
  simp only
  rcases h.1 with e | e
  ·rw [if_pos e,List.getElem?_eq_getElem (show i < ones.length from hl)]; exact ⟨_,rfl⟩
  ·rw [if_neg (by omega),if_pos e,List.getElem?_eq_getElem (show i < twos.length from hl)]; exact ⟨_,rfl⟩
 ·rw [codeS,if_neg h4]
  have key : ((plainT ++ numT).find? (hitsW w)).isSome = true:=by
   rw [List.find?_isSome]
   obtain ⟨op,ty,n,body,other,name⟩:=w
   simp only at h4
   unfold formB at h
   simp only at h
   simp only [nestW,Bool.or_eq_false_iff,decide_eq_false_iff_not] at hn
   by_cases h1 : op = 1 ∨ op = 5
   ·rw [if_pos h1] at h
    simp only [numberB,Bool.or_eq_true,decide_eq_true_eq] at h
    rcases h1 with rfl | rfl <;> rcases h with rfl | rfl
    ·exact ⟨(0x41,pw 1 1 0),by decide,by simp [hitsW,keyN,pw]⟩
    ·exact ⟨(0x42,pw 1 2 0),by decide,by simp [hitsW,keyN,pw]⟩
    ·exact ⟨(0x45,pw 5 1 0),by decide,by simp [hitsW,keyN,pw]⟩
    ·exact ⟨(0x50,pw 5 2 0),by decide,by simp [hitsW,keyN,pw]⟩
   ·rw [if_neg h1,if_neg h4] at h
    by_cases h8 : op = 8 ∨ op = 9
    ·rw [if_pos h8] at h
     simp only [bytesB,Bool.or_eq_true,Bool.and_eq_true,decide_eq_true_eq] at h
     rcases h8 with rfl | rfl
     ·rcases h with ⟨rfl,rfl | rfl⟩ | ⟨rfl,rfl⟩
      ·exact ⟨(0x2C,pw 8 1 1),by decide,by simp [hitsW,keyN,pw]⟩
      ·exact ⟨(0x28,pw 8 1 4),by decide,by simp [hitsW,keyN,pw]⟩
      ·exact ⟨(0x29,pw 8 2 8),by decide,by simp [hitsW,keyN,pw]⟩
     ·rcases h with ⟨rfl,rfl | rfl⟩ | ⟨rfl,rfl⟩
      ·exact ⟨(0x3A,pw 9 1 1),by decide,by simp [hitsW,keyN,pw]⟩
      ·exact ⟨(0x36,pw 9 1 4),by decide,by simp [hitsW,keyN,pw]⟩
      ·exact ⟨(0x37,pw 9 2 8),by decide,by simp [hitsW,keyN,pw]⟩
    ·rw [if_neg h8] at h
     simp only [Bool.and_eq_true,decide_eq_true_eq] at h
     rcases (show op = 2 ∨ op = 3 ∨ op = 6 ∨ op = 7 ∨ op = 10 ∨ op = 14 ∨ op = 15 ∨ op = 16 ∨ op = 17 ∨ op = 18 by omega) with rfl | rfl | rfl | rfl | rfl | rfl | rfl | rfl | rfl | rfl
     ·exact ⟨(0x20,pw 2 0 0),by decide,by simp [hitsW,keyN,pw]⟩
     ·exact ⟨(0x21,pw 3 0 0),by decide,by simp [hitsW,keyN,pw]⟩
     ·exact ⟨(0xA7,pw 6 0 0),by decide,by simp [hitsW,keyN,pw]⟩
     ·exact ⟨(0xAC,pw 7 0 0),by decide,by simp [hitsW,keyN,pw]⟩
     ·exact ⟨(0x10,pw 10 0 0),by decide,by simp [hitsW,keyN,pw]⟩
     ·exact ⟨(0x0C,pw 14 0 0),by decide,by simp [hitsW,keyN,pw]⟩
     ·exact ⟨(0x0D,pw 15 0 0),by decide,by simp [hitsW,keyN,pw]⟩
     ·exact ⟨(0x0F,pw 16 0 0),by decide,by simp [hitsW,keyN,pw]⟩
     ·exact ⟨(0x00,pw 17 0 0),by decide,by simp [hitsW,keyN,pw]⟩
     ·exact ⟨(0x1A,pw 18 0 0),by decide,by simp [hitsW,keyN,pw]⟩
  obtain ⟨x,hx⟩:=Option.isSome_iff_exists.1 key
  rw [hx]
  exact ⟨_,rfl⟩
def RecB (rec : Int → Option (List UInt8)) (T : Nat → Nat) (n : Int) : Prop := ∃ b,rec n = some b ∧ b.length ≤ T n.toNat
theorem tail_le (w : W) : (tailW w).length ≤ 10 := by
 have h1:=sI_len w.n
 have h2:=uI_len w.n
 unfold tailW
 split
 ·exact h1
 ·split
  ·exact h2
  ·split <;> simp
theorem validW_some {rec : Int → Option (List UInt8)} {T : Nat → Nat} {w : W} (h : formB w = true) (hr : ∀ n ∈ namesL w,RecB rec T n) : ∃ b,encW rec w = some b ∧ b.length ≤ 16 + sumL (namesL w) T := by
 cases hn : nestW w with
 | true =>
  unfold encW
  rw [if_pos hn]
  by_cases h13 : w.op = 13 ∧ 0 ≤ w.other
  ·have e : namesL w = [w.body,w.other]:=by unfold namesL; rw [if_neg (by omega),if_pos h13.1]
   rw [e] at hr ⊢
   obtain ⟨b,hb,hl⟩:=hr w.body (by simp)
   obtain ⟨o,ho,hl2⟩:=hr w.other (by simp)
   refine ⟨_,by rw [hb,Option.bind_some,if_pos h13,ho]; rfl,?_⟩
   simp [sumL]
   omega
  ·have e : namesL w = [w.body]:=by
    simp only [nestW,Bool.or_eq_true,decide_eq_true_eq] at hn
    unfold namesL; rw [if_pos (by omega)]
   rw [e] at hr ⊢
   obtain ⟨b,hb,hl⟩:=hr w.body (by simp)
   refine ⟨_,by rw [hb,Option.bind_some,if_neg h13],?_⟩
   simp [sumL]
   omega
 | false =>
  obtain ⟨c,hc⟩:=codeS_some h hn
  have:=tail_le w
  refine ⟨_,by unfold encW; rw [if_neg (by simp [hn]),hc]; rfl,?_⟩
  simp only [List.length_cons]
  omega
theorem validWs_some {rec : Int → Option (List UInt8)} {T : Nat → Nat} : ∀ {ws : List W},(∀ w ∈ ws,formB w = true) → (∀ n ∈ ws.flatMap namesL,RecB rec T n) → ∃ b,encWs rec ws = some b ∧ b.length ≤ 16 * ws.length + sumL (ws.flatMap namesL) T
 | [],_,_=>⟨[],rfl,by simp⟩
 | w :: ws,hf,hr=>by
  obtain ⟨a,ha,hl⟩:=validW_some (hf w (by simp)) (T:=T) (rec:=rec) fun n hn=>hr n (List.mem_flatMap.2 ⟨w,by simp,hn⟩)
  obtain ⟨b,hb,hl2⟩:=validWs_some (ws:=ws) (fun v hv=>hf v (by simp [hv])) (T:=T) (rec:=rec) fun n hn=>by
   obtain ⟨v,hv,h2⟩:=List.mem_flatMap.1 hn
   exact hr n (List.mem_flatMap.2 ⟨v,by simp [hv],h2⟩)
  refine ⟨a ++ b,by rw [encWs,ha,Option.bind_some,hb]; rfl,?_⟩
  rw [List.flatMap_cons,sumL_append,List.length_append,List.length_cons]
  omega
def gR (ls : To) (k : Nat) : Nat := 16 * (ls.getD k []).length
theorem validL_some {ls : To} (ha : Ahead ls) (hf : ∀ l ∈ ls,∀ w ∈ l,formB w = true) : ∀ (k : Nat) (n : Int),0 ≤ n → n < (k : Int) → n < (ls.length : Int) → RecB (encL ls k) (totF (gR ls) ls) n
 | 0,n,h0,h1,_=>by omega
 | k + 1,n,h0,h1,h2=>by
  have hlt : n.toNat < ls.length:=by omega
  have hr : ls[n.toNat]? = some ls[n.toNat]:=List.getElem?_eq_getElem hlt
  obtain ⟨b,hb,hl⟩:=validWs_some (ws:=ls[n.toNat]) (rec:=encL ls k) (T:=totF (gR ls) ls) (hf _ (List.getElem_mem hlt)) fun m hm=>by
   have:=ha n.toNat _ hr m hm
   exact validL_some ha hf k m this.1 (by omega) (by omega)
  refine ⟨b,?_,?_⟩
  ·rw [encL,if_neg (by omega),hr]
   exact hb
  ·rw [totF_eq (gR ls) ha hr]
   have e : gR ls n.toNat = 16 * ls[n.toNat].length:=by unfold gR; rw [List.getD_eq_getElem?_getD,hr]; rfl
   omega
theorem sumTo_le {g : Nat → Nat} {b : Nat} : ∀ k,(∀ i,i < k → g i ≤ b) → sumTo g k ≤ k * b
 | 0,_=>by simp [sumTo]
 | k + 1,h=>by
  have h1:=sumTo_le k fun i hi=>h i (by omega)
  have h2:=h k (by omega)
  rw [sumTo,Nat.succ_mul]
  omega
theorem codeF_some {fs : List F} {f : F} (h : functionE fs f = .ok ()) (hs : SmallF f) : ∃ c,codeF f = some c ∧ c.length ≤ 2 ^ 24 := by
 obtain ⟨h0,ha,ht⟩:=listsE_ok (functionE_lists h)
 obtain ⟨b,hb,hl⟩:=validL_some ha (Ck.forms_of h) f.lists.length ((f.lists.length : Int) - 1) (by omega) (by omega) (by omega)
 have e : ((f.lists.length : Int) - 1).toNat = f.lists.length - 1:=by omega
 rw [e,ht] at hl
 have h1 : sumTo (gR f.lists) f.lists.length ≤ f.lists.length * 48000:=sumTo_le _ fun i hi=>by
  unfold gR
  rw [List.getD_eq_getElem?_getD,List.getElem?_eq_getElem hi]
  have:=hs.rows _ (List.getElem_mem hi)
  simp only [Option.getD_some]
  omega
 have h2:=hs.lists
 have h3 : f.lists.length * 48000 ≤ 300 * 48000:=Nat.mul_le_mul_right _ h2
 have h4 : (localsL f.locals).length ≤ 10 + 11 * 3000:=by
  have h5:=(localsRows_len f.locals.length f.locals).2
  have h6:=uI_len (localsRows f.locals.length f.locals).length
  have h7:=hs.locals
  unfold localsL rowL
  rw [List.length_append,List.length_flatten]
  simp only [sumB] at h5
  omega
 refine ⟨_,by unfold codeF; rw [hb]; rfl,?_⟩
 have h5:=sized_len (localsL f.locals ++ b ++ [11])
 simp only [List.length_append,List.length_cons,List.length_nil] at h5
 show (sizedL (localsL f.locals ++ b ++ [11])).length ≤ 2 ^ 24
 omega
theorem codesF_some {gs : List F} : ∀ {fs : List F},(∀ f ∈ fs,functionE gs f = .ok () ∧ SmallF f) → ∃ cs,codesF fs = some cs ∧ ∀ c ∈ cs,c.length ≤ 2 ^ 24
 | [],_=>⟨[],rfl,by simp⟩
 | f :: fs,h=>by
  obtain ⟨c,hc,hl⟩:=codeF_some (h f (by simp)).1 (h f (by simp)).2
  obtain ⟨cs,hcs,hls⟩:=codesF_some (fs:=fs) fun g hg=>h g (by simp [hg])
  refine ⟨c :: cs,by rw [codesF,hc,Option.bind_some,hcs]; rfl,fun x hx=>?_⟩
  rcases List.mem_cons.1 hx with rfl | hx
  ·exact hl
  ·exact hls x hx
theorem flatten_le {α : Type} {b : Nat} : ∀ {l : List (List α)},(∀ x ∈ l,x.length ≤ b) → l.flatten.length ≤ l.length * b
 | [],_=>by simp
 | x :: l,h=>by
  have h1:=h x (by simp)
  have h2:=flatten_le (l:=l) fun y hy=>h y (by simp [hy])
  rw [List.flatten_cons,List.length_append,List.length_cons,Nat.succ_mul]
  omega
theorem nums_le : ∀ {fs : List F} {i : Int},∀ x ∈ numsF i fs,x.length ≤ 10
 | [],i,x,hx=>by simp [numsF] at hx
 | f :: fs,i,x,hx=>by
  rw [numsF] at hx
  rcases List.mem_cons.1 hx with rfl | hx
  ·exact uI_len i
  ·exact nums_le x hx
theorem names_le {b : Nat} : ∀ {fs : List F} {i : Int},(∀ f ∈ fs,f.name.length ≤ b) → ∀ x ∈ namesF i fs,x.length ≤ b + 20
 | [],i,_,x,hx=>by simp [namesF] at hx
 | f :: fs,i,h,x,hx=>by
  rw [namesF] at hx
  rcases List.mem_cons.1 hx with rfl | hx
  ·have h1:=uI_len i
   have h2:=sized_len f.name
   have h3:=h f (by simp)
   rw [List.length_append]
   omega
  ·exact names_le (fun g hg=>h g (by simp [hg])) x hx
theorem row_le {b : Nat} {l : List (List UInt8)} (h : ∀ x ∈ l,x.length ≤ b) : (rowL l).length ≤ 10 + l.length * b := by
 have h1:=uI_len (l.length : Int)
 have h2:=flatten_le h
 rw [rowL,List.length_append]
 omega
theorem encM_some {m : M} (h : checkE m = .ok ()) (hl : m.funcs.length ≤ 12) (hs : ∀ f ∈ m.funcs,SmallF f) (hn : ∀ f ∈ m.funcs,f.name.length ≤ 2 ^ 20) : ∃ bs,encM m = some bs ∧ bs.length ≤ 2 ^ 36 := by
 obtain ⟨cs,hc,hcl⟩:=codesF_some fun f hf=>⟨checkE_functions h f hf,hs f hf⟩
 have he : ∃ bs,encM m = some bs:=by unfold encM; rw [hc]; exact ⟨_,rfl⟩
 obtain ⟨bs,hb⟩:=he
 refine ⟨bs,hb,?_⟩
 obtain ⟨cs',hc',e⟩:=encM_parts hb
 obtain rfl : cs = cs':=Option.some.inj (hc.symm.trans hc')
 rw [e]
 have l0:=codesF_len hc
 have l1:=row_le hcl
 have l2:=row_le (nums_le (fs:=m.funcs) (i:=3))
 rw [numsF_len] at l2
 have l3:=row_le (names_le (fs:=m.funcs) (i:=3) hn)
 rw [namesF_len] at l3
 have hh : ∀ x ∈ headsL m.funcs,x.length ≤ 3100:=fun x hx=>by
  unfold headsL at hx
  rcases List.mem_append.1 hx with hx | hx
  ·have d : ∀ y ∈ [headL [] 2,headL [2] 0,headL [1] 0],y.length ≤ 3100:=by decide
   exact d x hx
  ·obtain ⟨f,hf,rfl⟩:=List.mem_map.1 hx
   have h1:=typesL_len f.params
   have h2:=resultsL_len f.type
   have h3:=(hs f hf).params
   simp only [headL,List.length_cons,List.length_append]
   omega
 have l4:=row_le hh
 rw [headsL_len] at l4
 have l5 : (rowL importsL).length ≤ 200:=by decide
 have m1 : m.funcs.length * (2 ^ 20 + 20) ≤ 12 * (2 ^ 20 + 20):=Nat.mul_le_mul_right _ hl
 have m2 : cs.length * 2 ^ 24 ≤ 12 * 2 ^ 24:=Nat.mul_le_mul_right _ (by omega)
 have a1:=sec_len 1 (rowL (headsL m.funcs))
 have a2:=sec_len 2 (rowL importsL)
 have a3:=sec_len 3 (rowL (numsF 3 m.funcs))
 have a5 : (sectionL 5 [1,0,1]).length ≤ 20:=by decide
 have a6:=sec_len 6 (memB m)
 have a6' : (memB m).length ≤ 15:=by
  have:=sI_len m.memory
  simp [memB]; omega
 have a7:=uI_len ((mainHd ++ uI (mainL m)).length : Int)
 have a8:=uI_len (mainL m)
 have a10:=sec_len 10 (rowL cs)
 have b1:=sized_len (rowL (namesF 3 m.funcs))
 have a0:=sec_len 0 ([4,110,97,109,101,1] ++ sizedL (rowL (namesF 3 m.funcs)))
 have c1 : magicL.length = 8:=rfl
 have c2 : mainHd.length ≤ 20:=by decide
 simp only [startL,endL,List.length_append,List.length_cons,List.length_nil] at *
 omega
theorem typed_ok {fs : List F} {f : F} (h : functionE fs f = .ok ()) : typedF f = true := by
 unfold functionE at h
 split at h
 ·cases h
 rename_i hb
 simp only [Bool.not_eq_false,Bool.and_eq_true,List.all_append,decide_eq_true_eq] at hb
 obtain ⟨⟨⟨h1,h2⟩,h3⟩,h4⟩:=hb
 have key : ∀ l : List Int,l.all numberB = true → l.any oddT = false:=fun l hl=>by
  rw [List.any_eq_false]
  intro x hx
  have:=List.all_eq_true.1 hl x hx
  simp only [numberB,Bool.or_eq_true,decide_eq_true_eq] at this
  simp only [oddT,Bool.and_eq_true,decide_eq_true_eq]
  omega
 have k3 : (decide (f.type ≠ 0) && oddT f.type) = false:=by
  by_cases e : f.type = 0
  ·simp [e]
  ·have : f.type = 1 ∨ f.type = 2:=by omega
   rcases this with e | e <;> simp [oddT,e]
 unfold typedF
 rw [key _ h1,key _ h2,k3]
 rfl
end Go.Proofs.YthejpoplbllcbaaGreatDoor
set_option linter.unusedSimpArgs false
set_option linter.unusedVariables false
namespace Go.Proofs.YthejpoplbllcbaaGreatDoor
open Go Go.Abs
def NZ {α : Type} (r : Res α) : Prop := ∀ e,r = .error e → e ≠ 0
theorem NZ.ok {α : Type} (a : α) : NZ (.ok a : Res α) := fun e h => by cases h
theorem NZ.err {α : Type} {k : Int} (h : k ≠ 0) : NZ (.error k : Res α) := fun e q => by cases q; exact h
theorem dropE_nz (s : St) : NZ (dropE s) := by
 unfold dropE
 split
 ·split
  ·exact .ok _
  ·exact .err (by omega)
 ·exact .ok _
theorem takeE_nz : ∀ (ts : List Int) (s : St),NZ (takeE ts s)
 | [],s=>.ok _
 | t :: ts,s=>by
  rw [takeE]
  split
  ·have:=dropE_nz s
   cases hd : dropE s with
   | ok s'=>exact takeE_nz ts s'
   | error e=>rw [hd] at this; exact .err (this e rfl)
  ·exact .err (by omega)
theorem gives_nz {r : Res St} {t : Int} (h : NZ r) : NZ (gives r t) := by
 cases r with
 | ok s=>exact .ok _
 | error e=>exact .err (h e rfl)
theorem returnsE_nz (ty : Int) (s : St) : NZ (returnsE ty s) := by unfold returnsE; split; exact .ok _; exact takeE_nz _ _
theorem plainE_nz (fs : List F) (ls : List Int) (w : W) (s : St) : NZ (plainE fs ls w s) := by
 unfold plainE
 repeat' split
 all_goals first
  | exact .ok _
  | exact gives_nz (takeE_nz _ _)
  | exact takeE_nz _ _
  | exact dropE_nz _
theorem instrE_nz {fs : List F} {ls : List Int} {ty deep : Int} {lk : Look} (hl : ∀ a d,NZ (lk a d)) (w : W) (s : St) : NZ (instrE fs ls ty deep lk w s) := by
 unfold instrE
 split
 ·exact .err (by omega)
 split
 ·exact .err (by omega)
 split
 ·have:=hl w.body (deep + 1)
  cases hq : lk w.body (deep + 1) with
  | ok u=>exact .ok _
  | error e=>rw [hq] at this; exact .err (this e rfl)
 split
 ·have ht:=takeE_nz [1] s
  cases hq : takeE [1] s with
  | error e=>rw [hq] at ht; exact .err (ht e rfl)
  | ok s1 =>
   have:=hl w.body (deep + 1)
   simp only
   cases hq : lk w.body (deep + 1) with
   | error e=>rw [hq] at this; exact .err (this e rfl)
   | ok u =>
    simp only
    split
    ·have:=hl w.other (deep + 1)
     cases hq : lk w.other (deep + 1) with
     | error e=>rw [hq] at this; exact .err (this e rfl)
     | ok u=>exact .ok _
    ·exact .ok _
 split
 ·have ht:=takeE_nz [1] s
  cases hq : takeE [1] s with
  | error e=>rw [hq] at ht; exact .err (ht e rfl)
  | ok s1 =>
   simp only
   split
   ·exact gives_nz (returnsE_nz _ _)
   ·exact .ok _
 split
 ·split
  ·have ht:=returnsE_nz ty s
   cases hq : returnsE ty s with
   | error e=>rw [hq] at ht; exact .err (ht e rfl)
   | ok s1=>exact .ok _
  ·exact .ok _
 split
 ·have ht:=returnsE_nz ty s
  cases hq : returnsE ty s with
  | error e=>rw [hq] at ht; exact .err (ht e rfl)
  | ok s1=>exact .ok _
 split
 ·exact .ok _
 ·exact plainE_nz _ _ _ _
theorem instrsE_nz {fs : List F} {ls : List Int} {ty deep : Int} {lk : Look} (hl : ∀ a d,NZ (lk a d)) : ∀ (ws : List W) (s : St),NZ (instrsE fs ls ty deep lk ws s)
 | [],s=>.ok _
 | w :: ws,s=>by
  rw [instrsE]
  have:=instrE_nz (fs:=fs) (ls:=ls) (ty:=ty) (deep:=deep) hl w s
  cases hq : instrE fs ls ty deep lk w s with
  | error e=>rw [hq] at this; exact .err (this e rfl)
  | ok s1=>exact instrsE_nz hl ws s1
theorem lookE_nz (fs : List F) (ls : List Int) (ty : Int) (lists : To) : ∀ (k : Nat) (a d : Int),NZ (lookE fs ls ty lists k a d)
 | 0,a,d=>.err (by omega)
 | k + 1,a,d=>by
  rw [lookE]
  have:=instrsE_nz (fs:=fs) (ls:=ls) (ty:=ty) (deep:=d) (lookE_nz fs ls ty lists k) (lists.getD a.toNat []) ⟨[],false⟩
  cases hq : instrsE fs ls ty d (lookE fs ls ty lists k) (lists.getD a.toNat []) ⟨[],false⟩ with
  | error e=>rw [hq] at this; exact .err (this e rfl)
  | ok s =>
   simp only
   unfold endE
   have : NZ (if d = 0 then returnsE ty s else .ok s):=by
    split
    ·exact returnsE_nz _ _
    ·exact .ok _
   cases hq : (if d = 0 then returnsE ty s else .ok s : Res St) with
   | error e=>rw [hq] at this; exact .err (this e rfl)
   | ok s' =>
    simp only
    split
    ·exact .ok _
    ·exact .err (by omega)
theorem namesE_nz (a : Int) : ∀ (ns : List Int) (named : List Bool),NZ (namesE a ns named)
 | [],named=>.ok _
 | n :: ns,named=>by
  rw [namesE]
  unfold nameE
  split
  ·rename_i e he
   split at he
   ·cases he
   ·cases he; exact .err (by omega)
  ·exact namesE_nz a ns _
theorem rowE_nz (a : Int) : ∀ (ws : List W) (named : List Bool),NZ (rowE a ws named)
 | [],named=>.ok _
 | w :: ws,named=>by
  rw [rowE]
  have:=namesE_nz a (namesL w) named
  cases hq : namesE a (namesL w) named with
  | error e=>rw [hq] at this; exact .err (this e rfl)
  | ok n=>exact rowE_nz a ws n
theorem rowsE_nz : ∀ (ls : To) (k : Nat) (named : List Bool),NZ (rowsE k ls named)
 | [],k,named=>.ok _
 | l :: ls,k,named=>by
  rw [rowsE]
  have:=rowE_nz (k : Int) l named
  cases hq : rowE (k : Int) l named with
  | error e=>rw [hq] at this; exact .err (this e rfl)
  | ok n=>exact rowsE_nz ls (k + 1) n
theorem listsE_nz (ls : To) : NZ (listsE ls) := by
 unfold listsE
 split
 ·exact .err (by omega)
 ·have:=rowsE_nz ls 0 (List.replicate ls.length false)
  cases hq : rowsE 0 ls (List.replicate ls.length false) with
  | error e=>rw [hq] at this; exact .err (this e rfl)
  | ok n =>
   simp only
   split
   ·exact .ok _
   ·exact .err (by omega)
theorem functionE_nz (fs : List F) (f : F) : NZ (functionE fs f) := by
 unfold functionE
 split
 ·exact .err (by omega)
 ·have:=listsE_nz f.lists
  cases hq : listsE f.lists with
  | error e=>rw [hq] at this; exact .err (this e rfl)
  | ok u=>exact lookE_nz _ _ _ _ _ _ _
theorem functionsE_nz (fs : List F) : ∀ r,NZ (functionsE fs r)
 | []=>.ok _
 | f :: r=>by
  rw [functionsE]
  have:=functionE_nz fs f
  cases hq : functionE fs f with
  | error e=>rw [hq] at this; exact .err (this e rfl)
  | ok u=>exact functionsE_nz fs r
theorem checkE_nz (m : M) : NZ (checkE m) := by
 unfold checkE
 split
 ·exact .err (by omega)
 ·have:=functionsE_nz m.funcs m.funcs
  cases hq : functionsE m.funcs m.funcs with
  | error e=>rw [hq] at this; exact .err (this e rfl)
  | ok u =>
   simp only
   split
   ·exact .ok _
   ·exact .err (by omega)
theorem check_ok {m : M} (h : errOf (checkE m) = 0) : checkE m = .ok () := by
 cases hq : checkE m with
 | ok u=>rfl
 | error e=>rw [hq] at h; exact absurd h (checkE_nz m e hq)
structure Less (f f' : F) : Prop where
 name : f'.name = f.name
 params : f'.params = f.params
 locals : f'.locals = f.locals
 type : f'.type = f.type
 lists : f'.lists.length ≤ f.lists.length
 size : sumC id f'.lists ≤ sumC id f.lists
 good : ∀ l ∈ f'.lists,Good l
end Go.Proofs.YthejpoplbllcbaaGreatDoor
set_option linter.unusedSimpArgs false
set_option linter.unusedVariables false
namespace Go.Proofs.YthejpoplbllcbaaGreatDoor
open Go Go.Abs
section
variable {G : Env} {σ : AS} {R : Out → AS → Prop}
theorem spoilB_calls {g : Nat} {bs : List UInt8} (hl : bs.length ≤ 2 ^ 40) (h0 : g < σ.nf ∧ σ.F g ≠ .dead) (h : ∀ σ',Al.Spo (· = g) σ σ' → R (.ret (.tuple [])) σ') : ACalls Tryz.prog G 24 [.sl (.fam g false) 1 (B bs)] σ R := by
 refine calls24 rfl ?_
 simp [pc24]
 have hB : (B bs).length = bs.length:=B_len bs
 have hc : ∀ (i : Nat) (h : i < (B bs).length),((B bs)[i]).cells.length = 1:=fun i h=>by simp [B]
 generalize B bs = xs at *
 refine aloop (Al.SpI (.sl (.fam g false) 1 xs) bs.length (· = g) σ) (MU 2 (bs.length + 1)) ⟨0,by omega,by simp,by simp,.refl _ _⟩ fun a τ hI=>?_
 obtain ⟨i,hi,a0,a2,hS⟩:=hI
 have w1 : IntKind.wrap .i64 ((i : Int) + 1) = ((i + 1 : Nat) : Int):=by rw [wrap_i64] <;> omega
 have w7 : IntKind.wrap .i64 ((i : Int) + 7) = (i : Int) + 7:=by rw [wrap_i64] <;> omega
 by_cases hlt : i < bs.length
 ·have hlt' : (i : Int) < (bs.length : Int):=by omega
  have hd:=hS.live g h0.1 h0.2
  simp [pc24_l1,a0,a2,hB,hlt',w7]
  rw [show (i : Int) + 7 = ((i + 7 : Nat) : Int) from by omega]
  refine markB_calls (by omega) ?_
  simp [a0,a2,hB,hlt,hd,w1]
  refine ⟨hc i (by omega),⟨i + 1,by omega,by simp [a0],by simp,hS.spoil rfl⟩,?_⟩
  simp only [MU,a2]; simp; omega
 ·have hlt' : ¬ (i : Int) < (bs.length : Int):=by omega
  simp [pc24_l1,a0,a2,hB,hlt']
  exact h _ hS
theorem spo_lit {S : Nat → Prop} {σ0 σ1 σ σ' : AS} (hs : Al.Spo S σ σ') {v : AV} {bs : List UInt8} (h : LitB σ0 σ1 v bs) (A : Adds σ1 σ) (hS : ∀ g,σ0.nf ≤ g → ¬ S g) : BytO σ' v bs :=
 spo_rd hs (h.byt.keep A) fun φ e g f e2=>by
  subst e2
  rcases h.1 with q | ⟨_,q⟩ | ⟨g',q,q1,_⟩
  ·rw [e] at q; cases q
  ·rw [e] at q; cases q
  ·rw [e] at q; cases q; exact hS _ q1
theorem makes_calls (V : VarsB G) (VW : Vars G) (hG : ∀ k,Still (G.g k)) (hy : ∀ l,¬ G.has l) (h00 : 0 < σ.nf ∧ σ.F 0 = .alive) {m : M} {mv : AV} {n : Int} (hn : -(2 ^ 63) ≤ n ∧ n < 2 ^ 63) (hm : MV mv m) (hf : Fits m) (hrg : ∀ f ∈ m.funcs,RgL f.lists) (hnm : ∀ f ∈ m.funcs,f.name.length ≤ 2 ^ 20)
  (h : ∀ σ',R (.ret (.bool true)) σ') : ACalls Tryz.prog G 5 [mv,.int .i64 n] σ R:=by
 refine calls5 rfl ?_
 obtain ⟨fv,rfl,hfs⟩:=hm
 have f1:=hfs.one
 have hm : MV (.agg [fv,.int .i64 m.memory,.int .i64 m.main]) m:=⟨fv,rfl,hfs⟩
 simp [pc5,f1]
 have hm1 : (σ.newO [fv,AV.int IntKind.i64 m.memory,AV.int IntKind.i64 m.main]).objs σ.no = some [fv,.int .i64 m.memory,.int .i64 m.main]:=by simp
 have hno1 : (σ.newO [fv,AV.int IntKind.i64 m.memory,AV.int IntKind.i64 m.main]).no = σ.no + 1:=by simp
 have A1 : Adds σ (σ.newO [fv,AV.int IntKind.i64 m.memory,AV.int IntKind.i64 m.main]):=(Adds.refl _).newO
 generalize σ.newO [fv,AV.int IntKind.i64 m.memory,AV.int IntKind.i64 m.main] = σ1 at *
 have hml : σ.no < σ1.no:=by omega
 refine big_calls hm hf fun b σ2 hb A2=>?_
 have hm2:=(A2.obj σ.no hml).trans hm1
 cases b with
 | true =>
  simp
  refine known_any V hG hy ?_
  simp
  exact h _
 | false =>
 obtain ⟨b1,b2⟩:=hb rfl
 have sm : Small m:=⟨by omega,fun f hf=>by have:=(b2 f hf).params; omega,fun f hf=>by have:=(b2 f hf).locals; omega,fun f hf=>by have:=(b2 f hf).lists; omega,fun f hf l hl=>by have:=(b2 f hf).rows l hl; omega,fun f hf l hl w hw=>by have:=(hrg f hf l hl w hw).2; omega⟩
 simp [hm2,f1]
 refine check_calls VW sm hm fun σ3 A3=>?_
 have hm3:=(A3.obj σ.no (Nat.lt_of_lt_of_le hml A2.no)).trans hm2
 have hl3 : σ.no < σ3.no:=Nat.lt_of_lt_of_le hml (A2.trans A3).no
 by_cases he : errOf (checkE m) = 0
 ·have hck:=check_ok he
  have hv:=checkE_functions hck
  obtain ⟨bs,hbs,hbl⟩:=encM_some hck b1 b2 hnm
  have hsz : ∀ f ∈ m.funcs,SzB f:=fun f hf=>⟨by have:=(b2 f hf).params; omega,by have:=(b2 f hf).locals; omega,by have:=hnm f hf; omega,fun ws hw=>by have:=(b2 f hf).rows ws hw; omega,by have:=(b2 f hf).lists; omega,hrg f hf⟩
  have hse : ∀ f ∈ m.funcs,Al.SzE f:=fun f hf=>⟨by have:=(b2 f hf).params; omega,by have:=(b2 f hf).locals; omega,by have:=(b2 f hf).lists; omega,fun r hr=>by have:=(b2 f hf).rows r hr; omega⟩
  have hty : ∀ f ∈ m.funcs,typedF f = true:=fun f hf=>typed_ok (hv f hf)
  have hmem : -(2 ^ 63) ≤ m.memory ∧ m.memory < 2 ^ 63:=by
   have:=hck
   unfold checkE at this
   split at this
   ·cases this
   ·rename_i q
    simp only [Bool.not_eq_false,Bool.and_eq_true,decide_eq_true_eq] at q
    omega
  have hne0 : bs ≠ []:=by
   rintro rfl
   obtain ⟨cs,_,e⟩:=encM_parts hbs
   simp [startL,magicL] at e
  simp [he,hm3,f1]
  refine copyM_calls hm (by omega) (fun f hf=>by have:=(b2 f hf).params; omega) (fun f hf=>by have:=(b2 f hf).locals; omega) (fun f hf=>by have:=(b2 f hf).lists; omega) (fun f hf r hr=>by have:=(b2 f hf).rows r hr; omega) fun cv σ4 hcv A4=>?_
  have hcv0:=hcv
  obtain ⟨cfv,rfl,hcfs⟩:=hcv
  have c1:=hcfs.one
  have hm4:=(A4.obj σ.no hl3).trans hm3
  have hn4:=A4.no
  have hne : σ.no ≠ σ4.no:=by omega
  simp [splice,c1]
  have hm5 : ((σ4.newO [AV.nilsl,AV.int IntKind.i64 0,AV.int IntKind.i64 0]).setO σ4.no [cfv,AV.int IntKind.i64 m.memory,AV.int IntKind.i64 m.main]).objs σ.no = some [fv,.int .i64 m.memory,.int .i64 m.main]:=by simp [hne,hm4]
  have hp5 : ((σ4.newO [AV.nilsl,AV.int IntKind.i64 0,AV.int IntKind.i64 0]).setO σ4.no [cfv,AV.int IntKind.i64 m.memory,AV.int IntKind.i64 m.main]).objs σ4.no = some [cfv,.int .i64 m.memory,.int .i64 m.main]:=by simp
  have hn5 : ((σ4.newO [AV.nilsl,AV.int IntKind.i64 0,AV.int IntKind.i64 0]).setO σ4.no [cfv,AV.int IntKind.i64 m.memory,AV.int IntKind.i64 m.main]).no = σ4.no + 1:=by simp
  generalize (σ4.newO [AV.nilsl,AV.int IntKind.i64 0,AV.int IntKind.i64 0]).setO σ4.no [cfv,AV.int IntKind.i64 m.memory,AV.int IntKind.i64 m.main] = σ5 at *
  have hlm : σ.no < σ5.no:=by omega
  have hlc : σ4.no < σ5.no:=by omega
  generalize σ.no = mb at *
  generalize σ4.no = cb at *
  simp [hp5,c1]
  refine encode_calls V (Al.m_o hcv0) hbs hbl (by omega) hsz hmem fun av σ6 ha=>?_
  have a1:=ha.byt.one
  have hp6:=(ha.2.obj cb hlc).trans hp5
  have hn6:=ha.2.no
  simp [a1,hp6,c1]
  refine encode_calls V (Al.m_o hcv0) hbs hbl (by omega) hsz hmem fun bv σ7 hb7=>?_
  have b7:=hb7.byt.one
  have hm7:=(hb7.2.obj mb (by omega)).trans ((ha.2.obj mb hlm).trans hm5)
  have hn7:=hb7.2.no
  simp [b7,hm7,f1]
  refine encodeE_calls (Al.m_o hm) hbs hbl (by omega) hsz hty hmem fun wv σ8 hw8=>?_
  have w8:=hw8.byt.one
  have hn8:=hw8.2.no
  have hm8:=(hw8.2.obj mb (by omega)).trans hm7
  have hp8:=(hw8.2.obj cb (by omega)).trans ((hb7.2.obj cb (by omega)).trans hp6)
  have ha8 : BytO σ8 av bs:=ha.byt.keep (hb7.2.trans hw8.2)
  simp [a1,w8]
  refine sameBytes_calls ha8 hw8.byt (by omega) ?_
  simp [hm8,hp8,f1,c1]
  refine Al.eqM_calls (Al.m_o hcv0) (Al.m_o hm) (by omega) hse fun σ9 A9=>?_
  simp
  refine s_calls hn fun v10 σ10 h10=>?_
  have q10:=h10.byt.one
  simp [q10]
  refine rs_calls hn fun v11 σ11 h11=>?_
  have q11:=h11.byt.one
  simp [q11]
  refine sameBytes_calls (h10.byt.keep h11.2) h11.byt (by have:=sI_len n; omega) ?_
  simp [a1]
  obtain ⟨g,rfl,g1,g2,g3⟩ : ∃ g,av = .sl (.fam g false) 1 (B bs) ∧ σ5.nf ≤ g ∧ g < σ6.nf ∧ σ6.F g = .alive:=by
   rcases ha.1 with ⟨q,_⟩ | q
   ·have:=congrArg List.length q
    rw [B_len] at this
    exact absurd (List.length_eq_zero_iff.1 this) hne0
   ·exact q
  have A11 : Adds σ8 σ11:=(A9.trans h10.2).trans h11.2
  have A6 : Adds σ6 σ11:=(hb7.2.trans hw8.2).trans A11
  refine spoilB_calls (by omega) ⟨Nat.lt_of_lt_of_le g2 A6.nf,by rw [A6.fam g g2,g3]; simp⟩ fun σ12 S12=>?_
  have hb12 : BytO σ12 bv bs:=spo_lit S12 (⟨.inr hb7.1,hb7.2⟩ : LitB σ6 σ7 bv bs) (hw8.2.trans A11) fun k hk e=>by subst e; omega
  have hw12 : BytO σ12 wv bs:=spo_lit S12 hw8 A11 fun k hk e=>by subst e; have:=hb7.2.nf; omega
  by_cases hneg : n < 0
  ·simp [hneg,b7,w8]
   refine sameBytes_calls hb12 hw12 (by omega) ?_
   simp
   refine known_any V hG hy ?_
   simp
   exact h _
  ·simp [hneg]
   refine u_calls (by omega) fun v13 σ13 h13=>?_
   have q13:=h13.byt.one
   simp [q13]
   refine ru_calls (by omega) fun v14 σ14 h14=>?_
   have q14:=h14.byt.one
   simp [q14]
   refine sameBytes_calls (h13.byt.keep h14.2) h14.byt (by have:=uI_len n; omega) ?_
   simp [b7,w8]
   refine sameBytes_calls (hb12.keep (h13.2.trans h14.2)) (hw12.keep (h13.2.trans h14.2)) (by omega) ?_
   simp
   refine known_any V hG hy ?_
   simp
   exact h _
 ·simp [he]
  refine known_any V hG hy ?_
  simp
  exact h _
end
end Go.Proofs.YthejpoplbllcbaaGreatDoor
set_option linter.unusedSimpArgs false
set_option linter.unusedVariables false
namespace Go.Proofs.YthejpoplbllcbaaGreatDoor
open Go Go.Abs Go.RowKit
def IntR (v : AV) (n : Int) : Prop := v = .int .i64 n ∧ -(2 ^ 63) ≤ n ∧ n ≤ 2 ^ 63 - 1
theorem int_rel {H : Type} {enc : TypeId × Value → H} {w : World} {n : Nat} {cs : List Value} {x : DataW H × List MemPlace} (h : DataW.trod enc Tryz.prog w 0 (fun _ => true) true n 3 cs = some x) : ∃ v o,IntR v o ∧ CellsV w v cs := by
 obtain ⟨k,rfl,_,hw⟩:=DataW.trod_int Tryz.underlying3 h
 simp [Lit.wf,IntKind.min,IntKind.max,IntKind.signed,IntKind.bits] at hw
 exact ⟨.int .i64 k,k,⟨rfl,by omega,by omega⟩,.one (.int ..) rfl⟩
theorem All2.ints {vs : List AV} {l : List Int} (h : All2 IntR vs l) : vs = l.map (.int .i64) := by
 induction h with
 | nil=>rfl
 | cons h r ih=>rw [h.1,ih]; rfl
def IntsR (v : AV) (l : List Int) : Prop := IntsV v l ∧ l.length ≤ 2 ^ 47
set_option maxRecDepth 20000 in
theorem ints_rel {H : Type} {enc : TypeId × Value → H} {w : World} {n : Nat} {cs : List Value} {x : DataW H × List MemPlace} (h : DataW.trod enc Tryz.prog w 0 (fun _ => true) true n 38 cs = some x) (hw : WtOk 38 x.1) : ∃ v o,IntsR v o ∧ CellsV w v cs := by
 obtain ⟨v,os,h1,h2,h3⟩:=slice_rel (sz:=1) IntR Tryz.underlying38 (by kernel_rfl) (by omega) (of_decide_eq_true (by kernel_rfl)) (fun n cs' d q h _=>int_rel h) h hw
 refine ⟨v,os,⟨?_,h3⟩,h1⟩
 rcases h2 with h2 | ⟨vs,rfl,h4⟩
 ·exact .inl h2
 ·exact .inr ⟨false,by rw [h4.ints]⟩
def WR (v : AV) (w : W) : Prop := v = w.av ∧ RgW w
theorem cell_of {H : Type} {enc : TypeId × Value → H} {w : World} {n : Nat} {c : Value} {x : DataW H × List MemPlace} (h : DataW.trod enc Tryz.prog w 0 (fun _ => true) true n 3 [c] = some x) : ∃ k : Int,c = .int .i64 k ∧ -(2 ^ 63) ≤ k ∧ k < 2 ^ 63 := by
 obtain ⟨k,h1,_,hw⟩:=DataW.trod_int Tryz.underlying3 h
 simp [Lit.wf,IntKind.min,IntKind.max,IntKind.signed,IntKind.bits] at hw
 exact ⟨k,by simpa using h1,by omega,by omega⟩
theorem str_of {H : Type} {enc : TypeId × Value → H} {w : World} {n : Nat} {c : Value} {x : DataW H × List MemPlace} (h : DataW.trod enc Tryz.prog w 0 (fun _ => true) true n 9 [c] = some x) : ∃ s : ByteArray,c = .string s ∧ x.1 = .lit (.string s.data.toList) := by
 obtain ⟨s,h1,h2,_⟩:=DataW.trod_string Tryz.underlying9 h
 exact ⟨s,by simpa using h1,by rw [h2]⟩
set_option maxRecDepth 20000 in
theorem w_rel {H : Type} {enc : TypeId × Value → H} {w : World} {n : Nat} {cs : List Value} {x : DataW H × List MemPlace} (h : DataW.trod enc Tryz.prog w 0 (fun _ => true) true n 73 cs = some x) : ∃ v o,WR v o ∧ CellsV w v cs := by
 obtain ⟨xs,n,rfl,hx,hlen,hxl,hf⟩:=DataW.trod_struct Tryz.underlying73 h
 have hxl' : xs.length = 6:=hxl
 have hlen' : cs.length = 6:=hlen.trans (by kernel_rfl)
 match cs,hlen' with
 | [a,b,c,d,e,f],_ =>
  have c9 : Tryz.prog.cellsOf 9 = 1:=by kernel_rfl
  have c3 : Tryz.prog.cellsOf 3 = 1:=by kernel_rfl
  have f0 : DataW.trod enc Tryz.prog w 0 (fun _=>true) true n 3 [a] = xs[0]?:=by
   have h : DataW.trod enc Tryz.prog w 0 (fun _=>true) true n 3 ((([a,b,c,d,e,f] : List Value).drop 0).take (Tryz.prog.cellsOf 3)) = xs[0]?:=hf 0 _ rfl
   rw [c3] at h; exact h
  have f1 : DataW.trod enc Tryz.prog w 0 (fun _=>true) true n 3 [b] = xs[1]?:=by
   have h : DataW.trod enc Tryz.prog w 0 (fun _=>true) true n 3 ((([a,b,c,d,e,f] : List Value).drop 1).take (Tryz.prog.cellsOf 3)) = xs[1]?:=hf 1 _ rfl
   rw [c3] at h; exact h
  have f2 : DataW.trod enc Tryz.prog w 0 (fun _=>true) true n 3 [c] = xs[2]?:=by
   have h : DataW.trod enc Tryz.prog w 0 (fun _=>true) true n 3 ((([a,b,c,d,e,f] : List Value).drop 2).take (Tryz.prog.cellsOf 3)) = xs[2]?:=hf 2 _ rfl
   rw [c3] at h; exact h
  have f3 : DataW.trod enc Tryz.prog w 0 (fun _=>true) true n 3 [d] = xs[3]?:=by
   have h : DataW.trod enc Tryz.prog w 0 (fun _=>true) true n 3 ((([a,b,c,d,e,f] : List Value).drop 3).take (Tryz.prog.cellsOf 3)) = xs[3]?:=hf 3 _ rfl
   rw [c3] at h; exact h
  have f4 : DataW.trod enc Tryz.prog w 0 (fun _=>true) true n 3 [e] = xs[4]?:=by
   have h : DataW.trod enc Tryz.prog w 0 (fun _=>true) true n 3 ((([a,b,c,d,e,f] : List Value).drop 4).take (Tryz.prog.cellsOf 3)) = xs[4]?:=hf 4 _ rfl
   rw [c3] at h; exact h
  have f5 : DataW.trod enc Tryz.prog w 0 (fun _=>true) true n 9 [f] = xs[5]?:=by
   have h : DataW.trod enc Tryz.prog w 0 (fun _=>true) true n 9 ((([a,b,c,d,e,f] : List Value).drop 5).take (Tryz.prog.cellsOf 9)) = xs[5]?:=hf 5 _ rfl
   rw [c9] at h; exact h
  rw [List.getElem?_eq_getElem (by omega)] at f0 f1 f2 f3 f4 f5
  obtain ⟨k0,rfl,_⟩:=cell_of f0
  obtain ⟨k1,rfl,_⟩:=cell_of f1
  obtain ⟨k2,rfl,hn⟩:=cell_of f2
  obtain ⟨k3,rfl,_⟩:=cell_of f3
  obtain ⟨k4,rfl,_⟩:=cell_of f4
  obtain ⟨s,rfl,_⟩:=str_of f5
  refine ⟨_,⟨k0,k1,k2,k3,k4,s.data.toList⟩,⟨rfl,hn⟩,rfl,fun j h1 h2=>?_⟩
  have : j < 6:=h2
  match j,this with
  | 0,_=>exact .int ..
  | 1,_=>exact .int ..
  | 2,_=>exact .int ..
  | 3,_=>exact .int ..
  | 4,_=>exact .int ..
  | 5,_=>exact .str s
theorem All2.ws {vs : List AV} {l : List W} (h : All2 WR vs l) : vs = l.map W.av ∧ ∀ w ∈ l,RgW w := by
 induction h with
 | nil=>simp
 | cons h r ih=>refine ⟨by rw [h.1,ih.1]; rfl,fun w hw=>?_⟩; rcases List.mem_cons.1 hw with rfl | hw; exact h.2; exact ih.2 w hw
theorem All2.mono {α β : Type} {R S : α → β → Prop} {xs ys} (h : All2 R xs ys) (hs : ∀ x y,R x y → S x y) : All2 S xs ys := by
 induction h with
 | nil=>exact .nil
 | cons h r ih=>exact .cons (hs _ _ h) ih
theorem All2.right {α β : Type} {R : α → β → Prop} {P : β → Prop} {xs ys} (h : All2 R xs ys) (hs : ∀ x y,R x y → P y) : ∀ y ∈ ys,P y := by
 induction h with
 | nil=>simp
 | cons h r ih=>intro y hy; rcases List.mem_cons.1 hy with rfl | hy; exact hs _ _ h; exact ih y hy
def RowR (v : AV) (l : List W) : Prop := RepL v l ∧ l.length ≤ 2 ^ 47 ∧ ∀ w ∈ l,RgW w
set_option maxRecDepth 20000 in
theorem row_rel {H : Type} {enc : TypeId × Value → H} {w : World} {n : Nat} {cs : List Value} {x : DataW H × List MemPlace} (h : DataW.trod enc Tryz.prog w 0 (fun _ => true) true n 61 cs = some x) (hw : WtOk 61 x.1) : ∃ v o,RowR v o ∧ CellsV w v cs := by
 obtain ⟨v,os,h1,h2,h3⟩:=slice_rel (sz:=6) WR Tryz.underlying61 (by kernel_rfl) (by omega) (of_decide_eq_true (by kernel_rfl)) (fun n cs' d q h _=>w_rel h) h hw
 rcases h2 with ⟨rfl,rfl⟩ | ⟨vs,rfl,h4⟩
 ·exact ⟨_,[],⟨.inl ⟨rfl,rfl⟩,h3,by simp⟩,h1⟩
 ·obtain ⟨e,hn⟩:=h4.ws
  exact ⟨_,os,⟨.inr ⟨false,by rw [e]⟩,h3,hn⟩,h1⟩
def ListsR (v : AV) (l : To) : Prop := ListsV v l ∧ l.length ≤ 2 ^ 47 ∧ (∀ r ∈ l,r.length ≤ 2 ^ 47) ∧ ∀ r ∈ l,∀ w ∈ r,RgW w
set_option maxRecDepth 20000 in
theorem lists_rel {H : Type} {enc : TypeId × Value → H} {w : World} {n : Nat} {cs : List Value} {x : DataW H × List MemPlace} (h : DataW.trod enc Tryz.prog w 0 (fun _ => true) true n 49 cs = some x) (hw : WtOk 49 x.1) : ∃ v o,ListsR v o ∧ CellsV w v cs := by
 obtain ⟨v,os,h1,h2,h3⟩:=slice_rel (sz:=1) RowR Tryz.underlying49 (by kernel_rfl) (by omega) (of_decide_eq_true (by kernel_rfl)) (fun n cs' d q h hw=>row_rel h hw) h hw
 rcases h2 with ⟨rfl,rfl⟩ | ⟨vs,rfl,h4⟩
 ·exact ⟨_,[],⟨.inl ⟨rfl,rfl⟩,h3,by simp,by simp⟩,h1⟩
 ·exact ⟨_,os,⟨.inr ⟨false,vs,rfl,h4.mono fun _ _ h=>h.1⟩,h3,h4.right fun _ _ h=>h.2.1,h4.right fun _ _ h=>h.2.2⟩,h1⟩
def Bk {H : Type} (d : DataW H) : Prop := Rows.uptoBulk d ≤ 1048576
theorem bulk_mem {H : Type} {d : DataW H} {l : List (DataW H)} (h : d ∈ l) : Rows.uptoBulk d ≤ Rows.uptoBulkAll l := by
 induction l with
 | nil=>cases h
 | cons x r ih =>
  simp only [Rows.uptoBulkAll]
  rcases List.mem_cons.1 h with rfl | e
  ·omega
  ·have:=ih e; omega
theorem Bk.slice {H : Type} {ds rs : List (DataW H)} (h : Bk (.slice ds rs)) : ∀ d ∈ ds,Bk d := fun d hd => by
 have:=bulk_mem hd
 unfold Bk at *
 simp only [Rows.uptoBulk] at h
 omega
theorem Bk.agg {H : Type} {ds : List (DataW H)} (h : Bk (.agg ds)) : ∀ d ∈ ds,Bk d := fun d hd => by
 have:=bulk_mem hd
 unfold Bk at *
 simp only [Rows.uptoBulk] at h
 omega
theorem Bk.str {H : Type} {s : List UInt8} (h : Bk (.lit (.string s) : DataW H)) : s.length ≤ 2 ^ 20 := by
 unfold Bk at h
 simp only [Rows.uptoBulk] at h
 omega
def FR (v : AV) (f : F) : Prop := FV v f ∧ f.params.length ≤ 2 ^ 47 ∧ f.locals.length ≤ 2 ^ 47 ∧ f.lists.length ≤ 2 ^ 47 ∧ (∀ r ∈ f.lists,r.length ≤ 2 ^ 47) ∧ (∀ r ∈ f.lists,∀ w ∈ r,RgW w) ∧ f.name.length ≤ 2 ^ 20
set_option maxRecDepth 20000 in
theorem f_rel {H : Type} {enc : TypeId × Value → H} {w : World} {n : Nat} {cs : List Value} {x : DataW H × List MemPlace} (h : DataW.trod enc Tryz.prog w 0 (fun _ => true) true n 59 cs = some x) (hw : WtOk 59 x.1) (hb : Bk x.1) : ∃ v o,FR v o ∧ CellsV w v cs := by
 obtain ⟨xs,n,rfl,hx,hlen,hxl,hf⟩:=DataW.trod_struct Tryz.underlying59 h
 have hxl' : xs.length = 5:=hxl
 have hlen' : cs.length = 5:=hlen.trans (by kernel_rfl)
 unfold WtOk at hw
 rw [hx] at hw hb
 unfold DataW.weights at hw
 rw [Tryz.underlying59] at hw
 simp only at hw
 have hwt:=wtEach hw
 match cs,hlen' with
 | [a,b,c,d,e],_ =>
  have c9 : Tryz.prog.cellsOf 9 = 1:=by kernel_rfl
  have c3 : Tryz.prog.cellsOf 3 = 1:=by kernel_rfl
  have c38 : Tryz.prog.cellsOf 38 = 1:=by kernel_rfl
  have c49 : Tryz.prog.cellsOf 49 = 1:=by kernel_rfl
  have f0 : DataW.trod enc Tryz.prog w 0 (fun _=>true) true n 9 [a] = xs[0]?:=by
   have h : DataW.trod enc Tryz.prog w 0 (fun _=>true) true n 9 ((([a,b,c,d,e] : List Value).drop 0).take (Tryz.prog.cellsOf 9)) = xs[0]?:=hf 0 _ rfl
   rw [c9] at h; exact h
  have f1 : DataW.trod enc Tryz.prog w 0 (fun _=>true) true n 38 [b] = xs[1]?:=by
   have h : DataW.trod enc Tryz.prog w 0 (fun _=>true) true n 38 ((([a,b,c,d,e] : List Value).drop 1).take (Tryz.prog.cellsOf 38)) = xs[1]?:=hf 1 _ rfl
   rw [c38] at h; exact h
  have f2 : DataW.trod enc Tryz.prog w 0 (fun _=>true) true n 38 [c] = xs[2]?:=by
   have h : DataW.trod enc Tryz.prog w 0 (fun _=>true) true n 38 ((([a,b,c,d,e] : List Value).drop 2).take (Tryz.prog.cellsOf 38)) = xs[2]?:=hf 2 _ rfl
   rw [c38] at h; exact h
  have f3 : DataW.trod enc Tryz.prog w 0 (fun _=>true) true n 3 [d] = xs[3]?:=by
   have h : DataW.trod enc Tryz.prog w 0 (fun _=>true) true n 3 ((([a,b,c,d,e] : List Value).drop 3).take (Tryz.prog.cellsOf 3)) = xs[3]?:=hf 3 _ rfl
   rw [c3] at h; exact h
  have f4 : DataW.trod enc Tryz.prog w 0 (fun _=>true) true n 49 [e] = xs[4]?:=by
   have h : DataW.trod enc Tryz.prog w 0 (fun _=>true) true n 49 ((([a,b,c,d,e] : List Value).drop 4).take (Tryz.prog.cellsOf 49)) = xs[4]?:=hf 4 _ rfl
   rw [c49] at h; exact h
  rw [List.getElem?_eq_getElem (by omega)] at f0 f1 f2 f3 f4
  obtain ⟨s,rfl,hs⟩:=str_of f0
  have hsl : s.data.toList.length ≤ 2 ^ 20:=Bk.str (H:=H) (hs ▸ hb.agg _ (List.mem_map_of_mem (List.getElem_mem (show 0 < xs.length by omega))))
  obtain ⟨k,rfl,_⟩:=cell_of f3
  obtain ⟨pv,ps,⟨hp,hpl⟩,hp'⟩:=ints_rel f1 (hwt 1 38 _ rfl (by simp [List.getElem?_eq_getElem (show 1 < xs.length by omega)]))
  obtain ⟨lv,ls,⟨hl,hll⟩,hl'⟩:=ints_rel f2 (hwt 2 38 _ rfl (by simp [List.getElem?_eq_getElem (show 2 < xs.length by omega)]))
  obtain ⟨tv,ts,⟨ht,htl,htr,htn⟩,ht'⟩:=lists_rel f4 (hwt 4 49 _ rfl (by simp [List.getElem?_eq_getElem (show 4 < xs.length by omega)]))
  refine ⟨_,⟨s.data.toList,ps,ls,k,ts⟩,⟨⟨pv,lv,tv,rfl,hp,hl,ht⟩,hpl,hll,htl,htr,htn,hsl⟩,rfl,fun j h1 h2=>?_⟩
  have : j < 5:=h2
  match j,this with
  | 0,_=>exact .str s
  | 1,_=>exact hp'.tO hp.one.2.2
  | 2,_=>exact hl'.tO hl.one.2.2
  | 3,_=>exact .int ..
  | 4,_=>exact ht'.tO ht.one.2.2
set_option maxRecDepth 20000 in
theorem m_rel {H : Type} {enc : TypeId × Value → H} {w : World} {n : Nat} {cs : List Value} {x : DataW H × List MemPlace} (h : DataW.trod enc Tryz.prog w 0 (fun _ => true) true n 27 cs = some x) (hw : WtOk 27 x.1) (hb : Bk x.1) : ∃ v m,MV v m ∧ Fits m ∧ (∀ f ∈ m.funcs,RgL f.lists) ∧ (∀ f ∈ m.funcs,f.name.length ≤ 2 ^ 20) ∧ CellsV w v cs := by
 obtain ⟨xs,n,rfl,hx,hlen,hxl,hf⟩:=DataW.trod_struct Tryz.underlying27 h
 have hxl' : xs.length = 3:=hxl
 have hlen' : cs.length = 3:=hlen.trans (by kernel_rfl)
 unfold WtOk at hw
 rw [hx] at hw hb
 unfold DataW.weights at hw
 rw [Tryz.underlying27] at hw
 simp only at hw
 have hwt:=wtEach hw
 match cs,hlen' with
 | [a,b,c],_ =>
  have c25 : Tryz.prog.cellsOf 25 = 1:=by kernel_rfl
  have c3 : Tryz.prog.cellsOf 3 = 1:=by kernel_rfl
  have f0 : DataW.trod enc Tryz.prog w 0 (fun _=>true) true n 25 [a] = xs[0]?:=by
   have h : DataW.trod enc Tryz.prog w 0 (fun _=>true) true n 25 ((([a,b,c] : List Value).drop 0).take (Tryz.prog.cellsOf 25)) = xs[0]?:=hf 0 _ rfl
   rw [c25] at h; exact h
  have f1 : DataW.trod enc Tryz.prog w 0 (fun _=>true) true n 3 [b] = xs[1]?:=by
   have h : DataW.trod enc Tryz.prog w 0 (fun _=>true) true n 3 ((([a,b,c] : List Value).drop 1).take (Tryz.prog.cellsOf 3)) = xs[1]?:=hf 1 _ rfl
   rw [c3] at h; exact h
  have f2 : DataW.trod enc Tryz.prog w 0 (fun _=>true) true n 3 [c] = xs[2]?:=by
   have h : DataW.trod enc Tryz.prog w 0 (fun _=>true) true n 3 ((([a,b,c] : List Value).drop 2).take (Tryz.prog.cellsOf 3)) = xs[2]?:=hf 2 _ rfl
   rw [c3] at h; exact h
  rw [List.getElem?_eq_getElem (by omega)] at f0 f1 f2
  obtain ⟨k1,rfl,_⟩:=cell_of f1
  obtain ⟨k2,rfl,_⟩:=cell_of f2
  obtain ⟨fv,fs,h1,h2,h3⟩:=slice_relP (sz:=5) FR Bk Tryz.underlying25 (by kernel_rfl) (by omega) (of_decide_eq_true (by kernel_rfl)) (fun n cs' d q h hw hb=>f_rel h hw hb) f0 (hwt 0 25 _ rfl (by simp [List.getElem?_eq_getElem (show 0 < xs.length by omega)])) fun ds rs e=>Bk.slice (e ▸ hb.agg _ (List.mem_map_of_mem (List.getElem_mem (show 0 < xs.length by omega))))
  have hfv : FsV fv fs ∧ ∀ f ∈ fs,∃ v,FR v f:=by
   rcases h2 with ⟨rfl,rfl⟩ | ⟨vs,rfl,h4⟩
   ·exact ⟨.inl ⟨rfl,rfl⟩,by simp⟩
   ·exact ⟨.inr ⟨false,vs,rfl,h4.mono fun _ _ h=>h.1⟩,h4.right fun v _ h=>⟨v,h⟩⟩
  obtain ⟨hfv,hall⟩:=hfv
  refine ⟨_,⟨fs,k1,k2⟩,⟨fv,rfl,hfv⟩,⟨h3,fun f hf=>?_,fun f hf=>?_,fun f hf=>?_,fun f hf=>?_⟩,fun f hf=>?_,fun f hf=>?_,rfl,fun j h4 h5=>?_⟩
  ·obtain ⟨v,h⟩:=hall f hf; exact h.2.1
  ·obtain ⟨v,h⟩:=hall f hf; exact h.2.2.1
  ·obtain ⟨v,h⟩:=hall f hf; exact h.2.2.2.1
  ·obtain ⟨v,h⟩:=hall f hf; exact h.2.2.2.2.1
  ·obtain ⟨v,h⟩:=hall f hf; exact h.2.2.2.2.2.1
  ·obtain ⟨v,h⟩:=hall f hf; exact h.2.2.2.2.2.2
  have : j < 3:=h5
  match j,this with
  | 0,_=>exact h1.tO hfv.one.2.2
  | 1,_=>exact .int ..
  | 2,_=>exact .int ..
end Go.Proofs.YthejpoplbllcbaaGreatDoor
set_option linter.unusedSimpArgs false
set_option linter.unusedVariables false
namespace Go
open Go.ChangeShapes Go.WideShapes Go.ChangeAt Go.RowKit
theorem cells_of_strs {H : Type} {enc : TypeId × Value → H} {P : Program} {w : World} {base : Nat} {sp : Nat → Bool} {held : Bool} {fuel : Nat} {t e : TypeId} {n : Nat} {cs : List Value} {ls : List (List UInt8)} {p : List MemPlace}
  (ht : P.underlying t = some (.array n e)) (he : P.underlying e = some .string) (hce : P.cellsOf e = 1) (hct : P.cellsOf t = n)
  (h : DataW.trod enc P w base sp held fuel t cs = some (.agg (ls.map fun l=>.lit (.string l)),p)) : cs = ls.map fun l=>Value.string ⟨l.toArray⟩:=by
 cases fuel with
 | zero=>simp [DataW.trod] at h
 | succ fuel =>
  simp only [DataW.trod,ht,hce,hct,Nat.mul_one] at h
  split at h
  ·rename_i hl
   obtain ⟨xs,hm,hx⟩:=Option.map_eq_some_iff.1 h
   have hxs : xs.map (·.1) = ls.map fun l=>(DataW.lit (.string l) : DataW H):=by
    have:=congrArg Prod.fst hx
    simpa using this
   have hxl : xs.length = n:=by simpa using Lib.mapM_length hm
   have hzl : ls.length = n:=by
    have:=congrArg List.length hxs
    simp at this
    omega
   apply List.ext_getElem?
   intro i
   by_cases hi : i < n
   ·obtain ⟨b,hb,hf⟩:=Lib.mapM_at hm i i (by simp [hi])
    obtain ⟨s,hc,rfl,_⟩:=DataW.trod_string he hf
    have h1 : cs[i]? = some (.string s):=by
     have:=congrArg (·[0]?) hc
     simpa [List.getElem?_take,List.getElem?_drop] using this
    have h2 : (xs.map (·.1))[i]? = some (DataW.lit (.string s.data.toList) : DataW H):=by simp [hb]
    rw [hxs] at h2
    simp only [List.getElem?_map,Option.map_eq_some_iff,DataW.lit.injEq,Lit.string.injEq] at h2
    obtain ⟨l,hl1,hl2⟩:=h2
    simp [h1,hl1,hl2]
   ·rw [List.getElem?_eq_none (by omega),List.getElem?_eq_none (by simp; omega)]
  ·cases h
theorem perm_image {α β : Type} {f : α → β} : ∀ {l : List β} {T : List α},l.Perm (T.map f) → ∃ l' : List α,l'.Perm T ∧ l = l'.map f
 | l,T,h=>by
  generalize hm : T.map f = m at h
  induction h generalizing T with
  | nil =>
   cases T with
   | nil=>exact ⟨[],.refl _,rfl⟩
   | cons a t=>cases hm
  | cons x h ih =>
   cases T with
   | nil=>cases hm
   | cons a t =>
    simp only [List.map_cons,List.cons.injEq] at hm
    obtain ⟨rfl,hm⟩:=hm
    obtain ⟨l',h1,rfl⟩:=ih t hm
    exact ⟨a :: l',.cons _ h1,rfl⟩
  | swap x y l =>
   match T,hm with
   | a :: b :: t,hm =>
    simp only [List.map_cons,List.cons.injEq] at hm
    obtain ⟨rfl,rfl,rfl⟩:=hm
    exact ⟨b :: a :: t,.swap ..,rfl⟩
  | trans h1 h2 ih1 ih2 =>
   obtain ⟨l2,p2,rfl⟩:=ih2 T hm
   obtain ⟨l1,p1,rfl⟩:=ih1 l2 rfl
   exact ⟨l1,p1.trans p2,rfl⟩
end Go
namespace Go.Proofs.YthejpoplbllcbaaGreatDoor
open Go Go.Abs Go.RowKit
theorem own : ownKnob Tryz.prog.godebug = none := by kernel_rfl
abbrev LAID : List (String × DataW Unit) := [("unicode.White_Space", Rows.laid_unicode_White_Space), ("strings.asciiSpace", Rows.laid_strings_asciiSpace), ("mortise/bin.bytesOf", Rows.laid_mortise_bin_bytesOf), ("mortise/bin.plain", Rows.laid_mortise_bin_plain), ("mortise/bin.numbered", Rows.laid_mortise_bin_numbered)]
def toD (p : UInt8 × W) : Lit × DataW Unit := (.int .u8 (p.1.toNat : Int),.agg [.lit (.int .i64 p.2.op),.lit (.int .i64 p.2.ty),.lit (.int .i64 p.2.n),.lit (.int .i64 p.2.body),.lit (.int .i64 p.2.other),.lit (.string p.2.name)])
def valW (w : W) : List Value := [.int .i64 w.op,.int .i64 w.ty,.int .i64 w.n,.int .i64 w.body,.int .i64 w.other,.string ⟨w.name.toArray⟩]
set_option maxRecDepth 20000 in
theorem wcells {w : World} {fuel : Nat} {cs : List Value} {o : W} {c : UInt8} {p : List MemPlace} (h : DataW.trod (fun _ => ()) Tryz.prog w 0 (fun _ => true) false fuel 73 cs = some ((toD (c,o)).2,p)) : cs = valW o := by
 obtain ⟨xs,n,rfl,hx,hlen,hxl,hf⟩:=DataW.trod_struct Tryz.underlying73 h
 have hxl' : xs.length = 6:=hxl
 have hlen' : cs.length = 6:=hlen.trans (by kernel_rfl)
 simp only [toD,Prod.mk.injEq,DataW.agg.injEq] at hx
 obtain ⟨hx,_⟩:=hx
 match cs,hlen' with
 | [a,b,c,d,e,f],_ =>
  have c9 : Tryz.prog.cellsOf 9 = 1:=by kernel_rfl
  have c3 : Tryz.prog.cellsOf 3 = 1:=by kernel_rfl
  have key : ∀ (k : Nat) (v : Value) (m : Int) (hk : k < xs.length),(xs.map (·.1))[k]? = some (DataW.lit (.int .i64 m)) → DataW.trod (fun _=>()) Tryz.prog w 0 (fun _=>true) false n 3 [v] = xs[k]? → v = .int .i64 m:=fun k v m hk h1 h2=>by
   rw [List.getElem?_eq_getElem hk] at h2
   rw [List.getElem?_map,List.getElem?_eq_getElem hk] at h1
   simp only [Option.map_some,Option.some.injEq] at h1
   obtain ⟨z,e1,e2,_⟩:=DataW.trod_int Tryz.underlying3 h2
   rw [e2] at h1
   simp only [DataW.lit.injEq,Lit.int.injEq,true_and] at h1
   simp only [List.cons.injEq,and_true] at e1
   rw [e1,h1]
  have f0 : DataW.trod (fun _=>()) Tryz.prog w 0 (fun _=>true) false n 3 [a] = xs[0]?:=by
   have h : DataW.trod (fun _=>()) Tryz.prog w 0 (fun _=>true) false n 3 ((([a,b,c,d,e,f] : List Value).drop 0).take (Tryz.prog.cellsOf 3)) = xs[0]?:=hf 0 _ rfl
   rw [c3] at h; exact h
  have f1 : DataW.trod (fun _=>()) Tryz.prog w 0 (fun _=>true) false n 3 [b] = xs[1]?:=by
   have h : DataW.trod (fun _=>()) Tryz.prog w 0 (fun _=>true) false n 3 ((([a,b,c,d,e,f] : List Value).drop 1).take (Tryz.prog.cellsOf 3)) = xs[1]?:=hf 1 _ rfl
   rw [c3] at h; exact h
  have f2 : DataW.trod (fun _=>()) Tryz.prog w 0 (fun _=>true) false n 3 [c] = xs[2]?:=by
   have h : DataW.trod (fun _=>()) Tryz.prog w 0 (fun _=>true) false n 3 ((([a,b,c,d,e,f] : List Value).drop 2).take (Tryz.prog.cellsOf 3)) = xs[2]?:=hf 2 _ rfl
   rw [c3] at h; exact h
  have f3 : DataW.trod (fun _=>()) Tryz.prog w 0 (fun _=>true) false n 3 [d] = xs[3]?:=by
   have h : DataW.trod (fun _=>()) Tryz.prog w 0 (fun _=>true) false n 3 ((([a,b,c,d,e,f] : List Value).drop 3).take (Tryz.prog.cellsOf 3)) = xs[3]?:=hf 3 _ rfl
   rw [c3] at h; exact h
  have f4 : DataW.trod (fun _=>()) Tryz.prog w 0 (fun _=>true) false n 3 [e] = xs[4]?:=by
   have h : DataW.trod (fun _=>()) Tryz.prog w 0 (fun _=>true) false n 3 ((([a,b,c,d,e,f] : List Value).drop 4).take (Tryz.prog.cellsOf 3)) = xs[4]?:=hf 4 _ rfl
   rw [c3] at h; exact h
  have f5 : DataW.trod (fun _=>()) Tryz.prog w 0 (fun _=>true) false n 9 [f] = xs[5]?:=by
   have h : DataW.trod (fun _=>()) Tryz.prog w 0 (fun _=>true) false n 9 ((([a,b,c,d,e,f] : List Value).drop 5).take (Tryz.prog.cellsOf 9)) = xs[5]?:=hf 5 _ rfl
   rw [c9] at h; exact h
  have e0:=key 0 a o.op (by omega) (by rw [← hx]; rfl) f0
  have e1:=key 1 b o.ty (by omega) (by rw [← hx]; rfl) f1
  have e2:=key 2 c o.n (by omega) (by rw [← hx]; rfl) f2
  have e3:=key 3 d o.body (by omega) (by rw [← hx]; rfl) f3
  have e4:=key 4 e o.other (by omega) (by rw [← hx]; rfl) f4
  have e5 : f = .string ⟨o.name.toArray⟩:=by
   rw [List.getElem?_eq_getElem (by omega)] at f5
   have h1 : (xs.map (·.1))[5]? = some (DataW.lit (.string o.name)):=by rw [← hx]; rfl
   rw [List.getElem?_map,List.getElem?_eq_getElem (by omega)] at h1
   simp only [Option.map_some,Option.some.injEq] at h1
   obtain ⟨z,e1,e2,_⟩:=DataW.trod_string Tryz.underlying9 f5
   rw [e2] at h1
   simp only [DataW.lit.injEq,Lit.string.injEq] at h1
   simp only [List.cons.injEq,and_true] at e1
   rw [e1,← h1]
  rw [e0,e1,e2,e3,e4,e5]
  rfl
theorem key_of {v : Value} {n : Int} (h : keyOf Tryz.prog 5 v = some (.int .u8 n)) : v = .int .u8 n := by
 simp only [keyOf,mapKey,Tryz.underlying5] at h
 cases v <;> simp at h
 obtain ⟨⟨rfl,_⟩,rfl⟩:=h
 rfl
theorem formed_of {v : Value} (h : v.formed Tryz.prog 73 = true) : ∃ A,v = .agg A := by
 cases v <;> simp [Value.formed,Tryz.underlying73] at h
 exact ⟨_,rfl⟩
set_option maxRecDepth 20000 in
theorem map_of {w : World} {fuel : Nat} {cs : List Value} {p : List MemPlace} {T : List (UInt8 × W)} {L : List (Lit × DataW Unit)} (hT : L.Perm (T.map toD)) (h : DataW.trod (fun _ => ()) Tryz.prog w 0 (fun _ => true) false fuel 125 cs = some (.map L,p)) :
  ∃ (l : List (UInt8 × W)) (b : Nat) (es : Array MapEntry) (clock : Nat),l.Perm T ∧ cs = [.map (some b)] ∧ w.heap[b]? = some (.map es clock) ∧ MapR (keysA l) (valsA l) es clock:=by
 cases fuel with
 | zero=>simp [DataW.trod] at h
 | succ n =>
  have h0:=h
  rw [DataW.trod_step] at h
  unfold DataW.trodStep at h
  rw [Tryz.underlying125] at h
  split at h <;> simp_all
  rename_i b _
  rw [DataW.trod_step] at h0
  unfold DataW.trodStep at h0
  cases hb : w.heap[b]? with
  | none=>simp [Tryz.underlying125,hb] at h0
  | some o =>
   cases o
   case map es clock =>
    simp only [Tryz.underlying125,hb] at h0
    split at h0
    ·rename_i hc
     simp only [Option.bind_eq_some_iff] at h0
     obtain ⟨entries,he,h3⟩:=h0
     split at h3
     ·simp only [Option.some.injEq,Prod.mk.injEq,DataW.map.injEq] at h3
      obtain ⟨h3,_⟩:=h3
      have hp : (entries.map (·.1)).Perm (T.map toD):=(WideShapes.sorted_perm _).symm.trans (by rw [h3]; exact hT)
      obtain ⟨l,hl,hle⟩:=perm_image hp
      have hlen : entries.length = es.size:=by rw [Lib.mapM_length he]; simp
      have hll : l.length = es.size:=by
       have:=congrArg List.length hle
       simp at this
       omega
      have ent : ∀ i (hi : i < es.size),es[i].key = .int .u8 ((l[i]'(by omega)).1.toNat : Int) ∧ ∃ A,es[i].val = .agg A ∧ A.toList = valW (l[i]'(by omega)).2:=fun i hi=>by
       obtain ⟨y,h1,h2⟩:=Lib.mapM_at he i es[i] (by simp [hi])
       have h3 : (entries.map (·.1))[i]? = some y.1:=by rw [List.getElem?_map,h1]; rfl
       rw [hle,List.getElem?_map,List.getElem?_eq_getElem (by omega)] at h3
       simp only [Option.map_some,Option.some.injEq] at h3
       rw [Option.bind_eq_some_iff] at h2
       obtain ⟨key,k1,k2⟩:=h2
       split at k2
       ·rename_i hfm
        rw [Option.map_eq_some_iff] at k2
        obtain ⟨z,z1,rfl⟩:=k2
        obtain ⟨A,hA⟩:=formed_of hfm
        simp only at h3
        have q1 : key = .int .u8 ((l[i]'(by omega)).1.toNat : Int):=(congrArg Prod.fst h3).symm
        have q2 : z.1 = (toD l[i]).2:=(congrArg Prod.snd h3).symm
        rw [q1] at k1
        refine ⟨key_of k1,A,hA,?_⟩
        rw [hA] at z1
        obtain ⟨z1a,z1b⟩:=z
        simp only at q2
        subst q2
        exact wcells (c:=l[i].1) z1
       ·cases k2
      refine ⟨l,hl,es,clock,rfl,⟨by simp [keysA,hll],by simp [keysA,valsA],fun i h1 h2=>?_,fun i h1 h2=>?_,fun i hi=>?_,fun i j hi hj e=>?_⟩⟩
      ·obtain ⟨e1,_⟩:=ent i h2
       rw [e1]
       simp only [keysA,List.getElem_map]
       exact .int ..
      ·obtain ⟨_,A,e1,e2⟩:=ent i h2
       rw [e1]
       simp only [valsA,List.getElem_map,W.av]
       have hs : A.size = 6:=by rw [← Array.length_toList,e2]; rfl
       refine .agg _ A (by rw [hs]; rfl) fun j g1 g2=>?_
       have g3 : A[j] = A.toList[j]'(by simpa using g2):=by simp
       rw [g3]
       simp only [e2]
       clear g3
       rcases j with _ | _ | _ | _ | _ | _ | j
       ·exact .int ..
       ·exact .int ..
       ·exact .int ..
       ·exact .int ..
       ·exact .int ..
       ·exact At.str ⟨(l[i]'(by omega)).2.name.toArray⟩
       ·exact absurd g1 (by simp [W.cs])
      ·have:=Array.all_eq_true.1 hc.2.2.1 i hi
       simpa using this
      ·have hnd:=ChangeMaps.nodup_of_eraseDups _ (by rw [hc.2.2.2]; simp)
       have:=List.getElem_inj (h₀:=by simpa using hi) (h₁:=by simpa using hj) hnd (i:=i) (j:=j)
       simp at this
       exact this.1 e
     ·cases h3
    ·cases h0
   all_goals (simp [Tryz.underlying125,hb] at h0; done)
end Go.Proofs.YthejpoplbllcbaaGreatDoor
set_option linter.unusedSimpArgs false
set_option linter.unusedVariables false
namespace Go.Proofs.YthejpoplbllcbaaGreatDoor
open Go Go.Abs Go.RowKit
def GD (lp ln : List (UInt8 × W)) : Env where
 g:=fun x=>match x with | 0=>.pv (.stat true) (.agg [.str ones,.str twos]) | 1=>.pv (.stat true) (.mp (keysA lp) (valsA lp)) | 2=>.pv (.stat true) (.mp (keysA ln) (valsA ln)) | 3=>.pv (.stat true) (.agg spTab) | _=>.undef
 has:=fun _=>False
 y:=fun _ _ _ _ _=>False
 fix:=fun _=>none
structure WOk (lp ln : List (UInt8 × W)) (w : World) : Prop where
 g : GOk Tryz.prog (GD lp ln) (Mp.all w) AS.zero.F w
 p : lp.Perm plainT
 n : ln.Perm numT
def spZ : List Int := (List.range 256).map fun c => if isSpB (UInt8.ofNat c) then 1 else 0
def plainS : List (UInt8 × W) := [(0x00,pw 17 0 0),(0x0F,pw 16 0 0),(0x1A,pw 18 0 0),(0x28,pw 8 1 4),(0x29,pw 8 2 8),(0x2C,pw 8 1 1),(0x36,pw 9 1 4),(0x37,pw 9 2 8),(0x3A,pw 9 1 1),(0x45,pw 5 1 0),(0x50,pw 5 2 0),(0xA7,pw 6 0 0),(0xAC,pw 7 0 0)]
def numS : List (UInt8 × W) := [(0x0C,pw 14 0 0),(0x0D,pw 15 0 0),(0x10,pw 10 0 0),(0x20,pw 2 0 0),(0x21,pw 3 0 0),(0x41,pw 1 1 0),(0x42,pw 1 2 0)]
set_option maxRecDepth 20000 in
theorem plain_perm : plainS.Perm plainT := by decide
set_option maxRecDepth 20000 in
theorem num_perm : numS.Perm numT := by decide
set_option maxRecDepth 100000 in
theorem wok_of_laid {W : World} (hl : laidMetH Tryz.prog LAID W) : ∃ lp ln,WOk lp ln W := by
 have hl0 : laidMet Tryz.prog LAID W:=hl
 obtain ⟨ps,⟨_,_,_,_,_,_,_,_,_,_,⟨g3,t3,cs3,fuel3,p3,q3,a1,a2,a3,a4,⟨g0,t0,cs0,fuel0,p0,q0,b1,b2,b3,b4,⟨g1,t1,cs1,fuel1,p1,q1,c1,c2,c3,c4,⟨g2,t2,cs2,fuel2,p2,q2,d1,d2,d3,d4,_⟩,_⟩,_⟩,_⟩,_⟩,_⟩:=hl0
 obtain rfl : 3 = g3 := Option.some.inj ((show Tryz.prog.globalNamed "strings.asciiSpace" = some 3 by kernel_rfl).symm.trans a1)
 obtain rfl : 0 = g0 := Option.some.inj ((show Tryz.prog.globalNamed "mortise/bin.bytesOf" = some 0 by kernel_rfl).symm.trans b1)
 obtain rfl : 1 = g1 := Option.some.inj ((show Tryz.prog.globalNamed "mortise/bin.plain" = some 1 by kernel_rfl).symm.trans c1)
 obtain rfl : 2 = g2 := Option.some.inj ((show Tryz.prog.globalNamed "mortise/bin.numbered" = some 2 by kernel_rfl).symm.trans d1)
 obtain rfl : 147 = t3:=Option.some.inj ((show (Tryz.prog.globals[3]?).map (·.type) = some 147 by kernel_rfl).symm.trans a2)
 obtain rfl : 122 = t0:=Option.some.inj ((show (Tryz.prog.globals[0]?).map (·.type) = some 122 by kernel_rfl).symm.trans b2)
 obtain rfl : 125 = t1:=Option.some.inj ((show (Tryz.prog.globals[1]?).map (·.type) = some 125 by kernel_rfl).symm.trans c2)
 obtain rfl : 125 = t2:=Option.some.inj ((show (Tryz.prog.globals[2]?).map (·.type) = some 125 by kernel_rfl).symm.trans d2)
 have e3 : cs3.toList = spZ.map fun z=>Value.int .u8 z:=Lib.cells_of_tab (n:=256) (e:=5) (k:=.u8) Tryz.underlying147 Tryz.underlying5 (by kernel_rfl) (by kernel_rfl) (zs:=spZ) (by have:=a4; exact this)
 have e0 : cs0.toList = [ones,twos].map fun l=>Value.string ⟨l.toArray⟩:=cells_of_strs (n:=2) (e:=9) Tryz.underlying122 Tryz.underlying9 (by kernel_rfl) (by kernel_rfl) (ls:=[ones,twos]) b4
 obtain ⟨lp,mb1,es1,k1,hp,hc1,hb1,hm1⟩:=map_of (T:=plainT) (L:=plainS.map toD) (plain_perm.map toD) c4
 obtain ⟨ln,mb2,es2,k2,hn,hc2,hb2,hm2⟩:=map_of (T:=numT) (L:=numS.map toD) (num_perm.map toD) d4
 have cell : ∀ (nm : String) (g : Nat) (cs : Array Value),Tryz.prog.globalNamed nm = some g → W.var? Tryz.prog nm = some cs → ∀ j,W.cell? ⟨g,j,none⟩ = cs.toList[j]?:=fun nm g cs h1 h2 j=>by
  have:=World.var?_cell h1 h2 j
  rw [Array.getElem?_toList]
  simpa using this
 have v3:=cell _ 3 cs3 a1 a3
 have v0:=cell _ 0 cs0 b1 b3
 have v1:=cell _ 1 cs1 c1 c3
 have v2:=cell _ 2 cs2 d1 d3
 rw [e3] at v3
 rw [e0] at v0
 rw [hc1] at v1
 rw [hc2] at v2
 have sz : ∀ {g : Nat} {l : List Value} {v : Value},(∀ j,W.cell? ⟨g,j,none⟩ = l[j]?) → l[0]? = some v → g < W.heap.size:=fun h1 h2=>World.block_lt_of_cell? W _ ((h1 0).trans h2)
 have z3:=sz v3 (v:=.int .u8 0) rfl
 have z0:=sz v0 (v:=.string ⟨ones.toArray⟩) rfl
 have z1:=sz v1 (v:=.map (some mb1)) rfl
 have z2:=sz v2 (v:=.map (some mb2)) rfl
 have y1 : mb1 < W.heap.size:=(Array.getElem?_eq_some_iff.1 hb1).1
 have y2 : mb2 < W.heap.size:=(Array.getElem?_eq_some_iff.1 hb2).1
 refine ⟨lp,ln,⟨⟨fun x=>?_,fun _ h=>h.elim,fun B c h=>by cases h⟩,hp,hn⟩⟩
 match x with
 | 0 =>
  refine .pv _ _ 0 0 (fun j=>([ones,twos].map fun l=>Value.string ⟨l.toArray⟩).getD j undef) (by simp [Mem,Mp.all,z0]) (fun _ j hj=>?_) (fun _ j hj=>?_)
  ·have hj' : j < 2:=hj
   rw [Nat.zero_add,v0 j]
   rcases j with _ | _ | j
   ·rfl
   ·rfl
   ·omega
  ·have hj' : j < 2:=hj
   rcases j with _ | _ | j
   ·exact .str ⟨ones.toArray⟩
   ·exact .str ⟨twos.toArray⟩
   ·omega
 | 1 =>
  refine .pv _ _ 1 0 (fun j=>.map (some mb1)) (by simp [Mem,Mp.all,z1]) (fun _ j hj=>?_) (fun _ j hj=>?_)
  ·have hj' : j = 0:=by simpa using hj
   subst hj'
   exact v1 0
  ·have hj' : j = 0:=by simpa using hj
   subst hj'
   exact .mp _ _ mb1 es1 k1 (by simp [Mp.all,y1]) hb1 hm1
 | 2 =>
  refine .pv _ _ 2 0 (fun j=>.map (some mb2)) (by simp [Mem,Mp.all,z2]) (fun _ j hj=>?_) (fun _ j hj=>?_)
  ·have hj' : j = 0:=by simpa using hj
   subst hj'
   exact v2 0
  ·have hj' : j = 0:=by simpa using hj
   subst hj'
   exact .mp _ _ mb2 es2 k2 (by simp [Mp.all,y2]) hb2 hm2
 | 3 =>
  have hl : spTab = spZ.map (AV.int .u8):=by simp [spTab,spZ]
  refine .pv _ _ 3 0 (fun j=>(spZ.map fun z=>Value.int .u8 z).getD j undef) (by simp [Mem,Mp.all,z3]) (fun _ j hj=>?_) (fun _ j hj=>?_)
  ·have hj' : j < (spZ.map fun z=>Value.int .u8 z).length:=by
    have : j < spTab.length:=hj
    rw [hl] at this
    simpa using this
   rw [Nat.zero_add,v3 j,List.getD_eq_getElem?_getD,List.getElem?_eq_getElem hj']
   rfl
  ·have hj' : j < spZ.length:=by
    have : j < spTab.length:=hj
    rw [hl] at this
    simpa using this
   have : ((AV.agg spTab).cells[j]'hj) = .int .u8 spZ[j]:=by simp [AV.cells,hl]
   rw [this,List.getD_eq_getElem?_getD,List.getElem?_map,List.getElem?_eq_getElem hj']
   exact .int ..
 | n + 4=>exact .undef _
noncomputable def laidWorld (os : Os) : World := World.doorLaid Tryz.prog 189 os
end Go.Proofs.YthejpoplbllcbaaGreatDoor
set_option linter.unusedSimpArgs false
set_option linter.unusedVariables false
namespace Go
open Go.ChangeShapes Go.WideShapes Go.ChangeAt Go.RowKit
theorem pairs_flat {g : List UInt8 × List UInt8 → List Value} : ∀ (ls : List (List UInt8 × List UInt8)) (cs : List Value),cs.length = ls.length * 2 → (∀ i (h : i < ls.length),(cs.drop (i * 2)).take 2 = g ls[i]) → cs = (ls.map g).flatten
 | [],cs,h,_=>by simpa using h
 | l :: ls,cs,h,hg=>by
  have h0:=hg 0 (by simp)
  have ih:=pairs_flat (g:=g) ls (cs.drop 2) (by rw [List.length_drop,h,List.length_cons]; omega) fun i hi=>by
   have:=hg (i + 1) (Nat.succ_lt_succ hi)
   rw [List.drop_drop]
   have e : 2 + i * 2 = (i + 1) * 2:=by omega
   rw [e]; exact this
  simp only [List.map_cons,List.flatten_cons,← ih]
  simp at h0
  rw [← h0,List.take_append_drop]
theorem cells_of_pairs {H : Type} {enc : TypeId × Value → H} {P : Program} {w : World} {base : Nat} {sp : Nat → Bool} {held : Bool} {fuel : Nat} {t e u : TypeId} {n : Nat} {cs : List Value} {ls : List (List UInt8 × List UInt8)} {p : List MemPlace}
  (ht : P.underlying t = some (.array n e)) (he : P.underlying e = some (.array 2 u)) (hu : P.underlying u = some .string) (hcu : P.cellsOf u = 1) (hce : P.cellsOf e = 2) (hct : P.cellsOf t = n * 2)
  (h : DataW.trod enc P w base sp held fuel t cs = some (.agg (ls.map fun l=>.agg [.lit (.string l.1),.lit (.string l.2)]),p)) : cs = (ls.map fun l=>[Value.string ⟨l.1.toArray⟩,Value.string ⟨l.2.toArray⟩]).flatten:=by
 cases fuel with
 | zero=>simp [DataW.trod] at h
 | succ fuel =>
  simp only [DataW.trod,ht,hce,hct] at h
  split at h
  ·rename_i hl
   obtain ⟨xs,hm,hx⟩:=Option.map_eq_some_iff.1 h
   have hxs : xs.map (·.1) = ls.map fun l=>(DataW.agg [.lit (.string l.1),.lit (.string l.2)] : DataW H):=by
    have:=congrArg Prod.fst hx
    simpa using this
   have hxl : xs.length = n:=by simpa using Lib.mapM_length hm
   have hzl : ls.length = n:=by
    have:=congrArg List.length hxs
    simp at this
    omega
   refine pairs_flat ls cs (by omega) fun i hi=>?_
   have hin : i < n:=by omega
   obtain ⟨b,hb,hf⟩:=Lib.mapM_at hm i i (by simp [hin])
   obtain ⟨b1,b2⟩:=b
   have hbe : b1 = (DataW.agg ([ls[i].1,ls[i].2].map fun l=>.lit (.string l)) : DataW H):=by
    have h2 : (xs.map (·.1))[i]? = some b1:=by simp [hb]
    rw [hxs] at h2
    have h3:=h2
    rw [List.getElem?_map,List.getElem?_eq_getElem hi] at h3
    exact (Option.some.inj h3).symm
   rw [hbe] at hf
   exact cells_of_strs he hu hcu hce hf
  ·cases h
theorem laidVars_split {P : Program} {w : World} {r : List (String × DataW Unit)} : ∀ {l : List (String × DataW Unit)} {ps : List MemPlace},DataW.LaidVars P w (l ++ r) ps → ∃ qs rs,DataW.LaidVars P w l qs ∧ DataW.LaidVars P w r rs ∧ ps = qs ++ rs
 | [],ps,h=>⟨[],ps,rfl,h,rfl⟩
 | (n,d) :: l,ps,h=>by
  obtain ⟨g,t,cs,fuel,p,q,h1,h2,h3,h4,h5,rfl⟩:=h
  obtain ⟨qs,rs,k1,k2,rfl⟩:=laidVars_split h5
  exact ⟨MemPlace.row ⟨g,0,none⟩ cs.size ++ p ++ qs,rs,⟨g,t,cs,fuel,p,qs,h1,h2,h3,h4,k1,rfl⟩,k2,by simp only [List.append_assoc]⟩
theorem laidMet_split {P : Program} {w : World} {l r : List (String × DataW Unit)} (h : laidMet P (l ++ r) w) : laidMet P l w ∧ laidMet P r w := by
 obtain ⟨ps,h1,h2,h3⟩:=h
 obtain ⟨qs,rs,k1,k2,rfl⟩:=laidVars_split h1
 rw [List.nodup_append] at h2
 exact ⟨⟨qs,k1,h2.1,fun b off hm=>h3 b off (List.mem_append.2 (.inl hm))⟩,⟨rs,k2,h2.2.1,fun b off hm=>h3 b off (List.mem_append.2 (.inr hm))⟩⟩
end Go
namespace Go.Proofs.YthejpoplbllcbaaGreatDoor
open Go Go.Abs Go.RowKit Go.ChangeShapes Go.WideShapes
def signVals : List Value := (signs.map fun p => [Value.string ⟨p.1.toArray⟩,Value.string ⟨p.2.toArray⟩]).flatten
theorem signs_rel {M F} {w : World} : ∀ (ls : List (List UInt8 × List UInt8)) (j : Nat) (h : j < ((ls.map fun p => [AV.str p.1,AV.str p.2]).flatten).length),
  ∃ c,((ls.map fun p=>[Value.string ⟨p.1.toArray⟩,Value.string ⟨p.2.toArray⟩]).flatten)[j]? = some c ∧ VR M F w ((ls.map fun p=>[AV.str p.1,AV.str p.2]).flatten)[j] c
 | [],j,h=>by simp at h
 | l :: ls,j,h=>by
  simp only [List.map_cons,List.flatten_cons,List.cons_append,List.nil_append] at h ⊢
  match j with
  | 0=>exact ⟨_,rfl,by simpa using VR.str (M:=M) (F:=F) (w:=w) ⟨l.1.toArray⟩⟩
  | 1=>exact ⟨_,rfl,by simpa using VR.str (M:=M) (F:=F) (w:=w) ⟨l.2.toArray⟩⟩
  | j + 2=>simpa using signs_rel ls j (by simpa using h)
abbrev LAIDS : List (String × DataW Unit) := [("mortise/wasm.signs", Rows.laid_mortise_wasm_signs)]
def GM (lp ln : List (UInt8 × W)) (m : Int) : Env where
 g:=fun x=>if x = 5 then .pv (.stat true) (.agg signCells) else if x = 6 then .pv (.stat true) (.int .i64 m) else (GD lp ln).g x
 has:=fun _=>False
 y:=fun _ _ _ _ _=>False
 fix:=fun _=>none
structure WOkM (lp ln : List (UInt8 × W)) (m : Int) (w : World) : Prop where
 g : GOk Tryz.prog (GM lp ln m) (Mp.all w) AS.zero.F w
 p : lp.Perm plainT
 n : ln.Perm numT
theorem WOkM.vars {lp ln m w} (h : WOkM lp ln m w) : VarsB (GM lp ln m) := ⟨rfl,⟨lp,h.p,rfl⟩,⟨ln,h.n,rfl⟩,rfl⟩
theorem GM_vars (lp ln m) : Vars (GM lp ln m) := ⟨rfl,m,rfl⟩
set_option maxRecDepth 100000 in
theorem wokM_of_laid {W : World} (hs : W.ShapedOpen Tryz.prog) (hl : laidMetH Tryz.prog (LAID ++ LAIDS) W) : ∃ lp ln m,WOkM lp ln m W := by
 have hl0 : laidMet Tryz.prog (LAID ++ LAIDS) W:=hl
 obtain ⟨hl1,hl2⟩:=laidMet_split hl0
 obtain ⟨lp,ln,hk⟩:=wok_of_laid (W:=W) hl1
 obtain ⟨m,hm⟩:=Tryz.laysM143.s1_3 W hs
 obtain ⟨ps,⟨g,t,cs,fuel,p,q,g1,g2,g3,g4,_,_⟩,_⟩:=hl2
 obtain rfl : 5 = g := Option.some.inj ((show Tryz.prog.globalNamed "mortise/wasm.signs" = some 5 by kernel_rfl).symm.trans g1)
 obtain rfl : 187 = t:=Option.some.inj ((show (Tryz.prog.globals[5]?).map (·.type) = some 187 by kernel_rfl).symm.trans g2)
 have hcs : cs.toList = signVals:=cells_of_pairs (n:=16) (e:=122) (u:=9) (ls:=signs) Tryz.underlying187 Tryz.underlying122 Tryz.underlying9 (by kernel_rfl) (by kernel_rfl) (by kernel_rfl) g4
 have hv0 : ∀ j,W.cell? ⟨5,j,none⟩ = cs[j]?:=fun j=>by
  have := World.var?_cell (show Tryz.prog.globalNamed "mortise/wasm.signs" = some 5 by kernel_rfl) g3 j
  simpa using this
 have hl6 : 6 < W.heap.size:=World.block_lt_of_cell? W _ hm
 have hl5 : 5 < W.heap.size:=by omega
 refine ⟨lp,ln,m,⟨⟨fun x=>?_,fun _ h=>h.elim,fun B c h=>by cases h⟩,hk.p,hk.n⟩⟩
 by_cases x5 : x = 5
 ·subst x5
  refine .pv _ _ 5 0 (fun j=>signVals.getD j undef) (by simp [Mem,Mp.all,hl5]) (fun _ j hj=>?_) (fun _ j hj=>?_)
  ·obtain ⟨c,h1,_⟩:=signs_rel (M:=Mp.all W) (F:=AS.zero.F) (w:=W) signs j hj
   rw [Nat.zero_add,hv0 j,← Array.getElem?_toList,hcs,List.getD_eq_getElem?_getD]
   show signVals[j]? = _
   have h1' : signVals[j]? = some c:=h1
   rw [h1']; rfl
  ·obtain ⟨c,h1,h2⟩:=signs_rel (M:=Mp.all W) (F:=AS.zero.F) (w:=W) signs j hj
   have h1' : signVals[j]? = some c:=h1
   rw [List.getD_eq_getElem?_getD,h1']
   exact h2
 ·by_cases x6 : x = 6
  ·subst x6
   refine .pv _ _ 6 0 (fun j=>.int .i64 m) (by simp [Mem,Mp.all,hl6]) (fun _ j hj=>?_) (fun _ j hj=>?_)
   ·have hj' : j = 0:=by simpa using hj
    subst hj'
    exact hm
   ·have hj' : j = 0:=by simpa using hj
    subst hj'
    exact VR.int ..
  ·have e : (GM lp ln m).g x = (GD lp ln).g x:=by simp [GM,x5,x6]
   rw [e]
   exact hk.g.vars x
set_option maxRecDepth 20000 in
theorem m_arg {H : Type} {enc : TypeId × Value → H} {W : World} {v : Value} {d : DataW H} {p : List MemPlace} {base : Nat} (hval : Value.okWide Tryz.prog W .any base 27 v) (h : DataW.Trod enc Tryz.prog W 0 (fun _ => true) true 27 v d p)
  (hw : WtOk 27 d) (hb : Bk d) : ∃ mv m,MV mv m ∧ Fits m ∧ (∀ f ∈ m.funcs,RgL f.lists) ∧ (∀ f ∈ m.funcs,f.name.length ≤ 2 ^ 20) ∧ VR (Mp.all W) AS.zero.F W mv v:=by
 obtain ⟨cs,rfl,hsz⟩:=okWide_struct Tryz.underlying27 hval
 obtain ⟨fuel,hf⟩:=h
 obtain ⟨mv,m,h1,h2,h3,h4,h5⟩:=m_rel hf hw hb
 obtain ⟨fv,rfl,hfs⟩:=h1
 refine ⟨_,m,⟨fv,rfl,hfs⟩,h2,h3,h4,.agg _ _ ?_ fun j h h'=>?_⟩
 ·have:=h5.1
  simp [AV.cells,Value.cells] at this ⊢
  omega
 ·exact h5.2 j h (by simpa [Value.cells] using h')
theorem laid_metM (os : Os) (args : Array Value) : laidMetH Tryz.prog (LAID ++ LAIDS) ((laidWorld os).forCall (fun _ _ => 0) ⟨#[],args,[]⟩).memory :=
 show laidMet Tryz.prog (LAID ++ LAIDS) _ from laidMet_of_run' 8 (by kernel_rfl) (by kernel_rfl)
end Go.Proofs.YthejpoplbllcbaaGreatDoor
set_option linter.unusedSimpArgs false
set_option linter.unusedVariables false
namespace Go.Proofs.YthejpoplbllcbaaGreatDoor
open Go Go.Abs Go.RowKit Go.ChangeShapes Go.WideShapes Go.ChangeAt
theorem laidOut : laidOutB Tryz.prog = true := by kernel_rfl
theorem gd_still (lp ln : List (UInt8 × W)) : ∀ k,Still ((GD lp ln).g k)
 | 0=>.pv _ _ fun c hc=>by
  simp only [AV.cells,List.mem_cons,List.not_mem_nil,or_false] at hc
  rcases hc with rfl | rfl <;> exact .str _
 | 1=>.pv _ _ fun c hc=>by
  simp only [AV.cells,List.mem_singleton] at hc
  subst hc
  exact .mp _ _
 | 2=>.pv _ _ fun c hc=>by
  simp only [AV.cells,List.mem_singleton] at hc
  subst hc
  exact .mp _ _
 | 3=>.pv _ _ fun c hc=>by
  simp only [AV.cells,spTab,List.mem_map] at hc
  obtain ⟨x,_,rfl⟩:=hc
  exact .int _ _
 | n + 4=>.undef
end Go.Proofs.YthejpoplbllcbaaGreatDoor
