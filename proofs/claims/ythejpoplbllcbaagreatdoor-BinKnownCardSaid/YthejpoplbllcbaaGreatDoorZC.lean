/- Parts of the proof of the row BinKnown: contracts of functions, each under the conditions that its theorem names. -/
import Derived.Test.YthejpoplbllcbaaGreatDoorZB
import Derived.Test.YthejpoplbllcbaaGreatDoorAbsB
set_option linter.unusedSimpArgs false
set_option linter.unusedVariables false
set_option linter.unusedSimpArgs false
set_option linter.unusedVariables false
namespace Go.Proofs.YthejpoplbllcbaaGreatDoor
open Go Go.Abs
def RSt (base : Nat) (β : Option Nat) (x : Nat) (b : List UInt8) (so : Option Rs) (σ : AS) : Prop := ∃ (at_ : Nat) (bad : Bool) (lv : AV) (many : Int) (ls : To),Rq base β x b at_ bad lv many σ ∧ ToR base σ lv ls ∧ match so with
 | none=>bad = true ∧ 0 ≤ many ∧ many ≤ 2 ^ 20
 | some s=>bad = false ∧ s.b = b.drop at_ ∧ many = (s.n : Int) ∧ s.n ≤ 2 ^ 20 ∧ s.ls = ls
def GotQ {α : Type} (so : Option Rs) (f : Rs → Option (α × Rs)) (a : α) (so' : Option Rs) : Prop := so.bind f = so'.map fun s => (a,s)
theorem RSt.hx {base β x b so σ} (h : RSt base β x b so σ) : x < σ.no := by obtain ⟨_,_,_,_,_,h,_⟩ := h; exact h.hx
theorem ToR.keepF {base σ σ' v ls} (h : ToR base σ v ls) (hn : σ.nf ≤ σ'.nf) (hF : ∀ f,f < σ.nf → σ'.F f = σ.F f) : ToR base σ' v ls := by
 rcases h with h | ⟨g,tos,h1,h2,h3,h4,h5⟩
 ·exact .inl h
 ·exact .inr ⟨g,tos,h1,h2,by omega,(hF g h3).trans h4,h5⟩
theorem RSt.adds {base β x b so σ σ'} (h : RSt base β x b so σ) (A : Adds σ σ') : RSt base β x b so σ' := by
 obtain ⟨at_,bad,lv,many,ls,h,ht,hm⟩:=h
 exact ⟨at_,bad,lv,many,ls,h.adds A,ht.keepF A.nf fun f hf=>A.fam f hf,hm⟩
theorem numP_b {st sg : Bool} {s : Rs} : numP st sg s = (numP st sg ⟨s.b,[],0⟩).map fun p => (p.1,{ s with b := p.2.b }) := by
 unfold numP
 cases numG sg 10 0 0 s.b with
 | none=>rfl
 | some p =>
  simp only [Option.bind_some]
  split <;> rfl
section
variable {G : Env} {σ : AS} {R : Out → AS → Prop}
theorem next_Z {base β x b so} (h : RSt base β x b so σ) (hs : ∀ (c : UInt8) so' σ',GotQ so byteP c so' → (so ≠ none → so' = none → c = 0) → RSt base β x b so' σ' → KeepP x σ σ' → R (.ret (.int .i64 (c.toNat : Int))) σ') : ACalls Tryz.prog G 73 [.ptr x 0] σ R := by
 obtain ⟨at_,bad,lv,many,ls,h,ht,hm⟩:=h
 refine next_calls h (fun c hc σ' hR hK=>?_) (fun hc σ' hR hK=>?_)
 ·cases so with
  | none=>exact hs c none σ' rfl (fun q=>absurd rfl q) ⟨_,_,_,_,ls,hR,ht.keepF hK.nf fun f hf=>hK.fam f hf,hm⟩ hK
  | some s =>
   obtain ⟨m1,m2,m3,m4,m5⟩:=hm
   obtain ⟨hlt,hc'⟩:=List.getElem?_eq_some_iff.1 hc
   have hd : s.b = c :: b.drop (at_ + 1):=by rw [m2,List.drop_eq_getElem_cons hlt,hc']
   refine hs c (some { s with b:=b.drop (at_ + 1) }) σ' ?_ (fun _ q=>by cases q) ⟨_,_,_,_,ls,hR,ht.keepF hK.nf fun f hf=>hK.fam f hf,m1,rfl,m3,m4,m5⟩ hK
   unfold GotQ
   simp only [Option.bind_some,Option.map_some]
   unfold byteP
   rw [hd]
 ·cases so with
  | none=>exact hs 0 none σ' rfl (fun _ _=>rfl) ⟨_,_,_,_,ls,hR,ht.keepF hK.nf fun f hf=>hK.fam f hf,rfl,hm.2⟩ hK
  | some s =>
   obtain ⟨m1,m2,m3,m4,m5⟩:=hm
   have hd : s.b = []:=by
    rw [m2]
    refine List.drop_eq_nil_of_le ?_
    by_cases q : at_ < b.length
    ·rw [List.getElem?_eq_getElem q] at hc; cases hc
    ·omega
   refine hs 0 none σ' ?_ (fun _ _=>rfl) ⟨_,_,_,_,ls,hR,ht.keepF hK.nf fun f hf=>hK.fam f hf,rfl,by omega,by omega⟩ hK
   unfold GotQ
   simp only [Option.bind_some,Option.map_none]
   unfold byteP
   rw [hd]
theorem next_S {base β x b so} (h : RSt base β x b so σ) (hs : ∀ (c : UInt8) so' σ',GotQ so byteP c so' → RSt base β x b so' σ' → KeepP x σ σ' → R (.ret (.int .i64 (c.toNat : Int))) σ') : ACalls Tryz.prog G 73 [.ptr x 0] σ R :=
 next_Z h fun c so' σ' a _ b d=>hs c so' σ' a b d
theorem number_S {base β x b so} {sg : Bool} (h : RSt base β x b so σ) (hs : ∀ (n : Int) so' σ',GotQ so (numP true sg) n so' → -(2 ^ 63) ≤ n → n < 2 ^ 63 → (sg = false → 0 ≤ n) → RSt base β x b so' σ' → KeepP x σ σ' → R (.ret (.int .i64 n)) σ') : ACalls Tryz.prog G 74 [.ptr x 0,.bool sg] σ R := by
 obtain ⟨at_,bad,lv,many,ls,h,ht,hm⟩:=h
 refine number_q h fun n at2 bad2 σ' hR hK h1 h2 h3 p1 p2 p3=>?_
 cases so with
 | none =>
  obtain ⟨rfl,hm⟩:=hm
  have e:=p1 rfl
  subst e
  exact hs n none σ' rfl h1 h2 h3 ⟨_,_,_,_,ls,hR,ht.keepF hK.nf fun f hf=>hK.fam f hf,rfl,hm⟩ hK
 | some s =>
  obtain ⟨rfl,m2,m3,m4,m5⟩:=hm
  have e:=numP_b (st:=true) (sg:=sg) (s:=s)
  rw [m2] at e
  cases bad2 with
  | true =>
   refine hs n none σ' ?_ h1 h2 h3 ⟨_,_,_,_,ls,hR,ht.keepF hK.nf fun f hf=>hK.fam f hf,rfl,by omega,by omega⟩ hK
   unfold GotQ
   simp only [Option.bind_some,Option.map_none]
   rw [e,p2 rfl rfl]
   rfl
  | false =>
   refine hs n (some { s with b:=b.drop at2 }) σ' ?_ h1 h2 h3 ⟨_,_,_,_,ls,hR,ht.keepF hK.nf fun f hf=>hK.fam f hf,rfl,rfl,m3,m4,m5⟩ hK
   unfold GotQ
   simp only [Option.bind_some,Option.map_some]
   rw [e,p3 rfl]
   rfl
end
end Go.Proofs.YthejpoplbllcbaaGreatDoor
set_option linter.unusedSimpArgs false
set_option linter.unusedVariables false
namespace Go.Proofs.YthejpoplbllcbaaGreatDoor
open Go Go.Abs
theorem RSt.cells {base β x b so σ} (h : RSt base β x b so σ) : ∃ (bv : AV) (at_ : Nat) (lv : AV) (many : Int),σ.objs x = some [bv,.int .i64 (at_ : Int),.bool so.isNone,lv,.int .i64 many] ∧ bv.one = true ∧ bv.known = true ∧ lv.one = true ∧ lv.known = true ∧
  RSt base β x b none (σ.setO x [bv,.int .i64 (at_ : Int),.bool true,lv,.int .i64 many]) ∧ KeepP x σ (σ.setO x [bv,.int .i64 (at_ : Int),.bool true,lv,.int .i64 many]):=by
 obtain ⟨at_,bad,lv,many,ls,h,ht,hm⟩:=h
 obtain ⟨bv,ho,hv⟩:=h.cells
 have e : bad = so.isNone:=by
  cases so with
  | none=>exact hm.1
  | some s=>exact hm.1
 subst e
 refine ⟨bv,at_,lv,many,ho,hv.one.2.1,hv.one.1,h.lo.2.1,h.lo.1,⟨_,_,_,_,ls,h.set hv h.le h.lo,ht.keepF (Nat.le_refl _) fun _ _=>rfl,rfl,?_⟩,.set ho rfl⟩
 cases so with
 | none=>exact hm.2
 | some s =>
  obtain ⟨m1,m2,m3,m4,m5⟩:=hm
  omega
section
variable {G : Env} {σ : AS} {R : Out → AS → Prop}
theorem kind_S {base β x b so} (h : RSt base β x b so σ) (hs : ∀ (n : Int) so' σ',GotQ so (typeP true) n so' → (n = 1 ∨ n = 2) → RSt base β x b so' σ' → KeepP x σ σ' → R (.ret (.int .i64 n)) σ') : ACalls Tryz.prog G 102 [.ptr x 0] σ R := by
 refine calls102 rfl ?_
 simp [pc102]
 refine next_S h fun c so' σ1 hg h1 hK=>?_
 have gN : so.bind (typeP true) = (so.bind byteP).bind fun p=>if p.1 ≠ 126 ∧ p.1 ≠ 127 then none else some (128 - (p.1.toNat : Int),p.2):=by
  cases so with
  | none=>rfl
  | some s =>
   simp only [Option.bind_some]
   unfold typeP
   simp
 rw [show so.bind byteP = _ from hg] at gN
 obtain ⟨bv,at_,lv,many,ho,b1,b2,b3,b4,hR,hK2⟩:=h1.cells
 by_cases c1 : c = 126
 ·subst c1
  simp
  refine hs 2 so' σ1 ?_ (.inr rfl) h1 hK
  unfold GotQ
  rw [gN]
  cases so' <;> rfl
 ·have c1' : ¬ (c.toNat : Int) = 126:=fun q=>c1 (UInt8.toNat_inj.1 (by show c.toNat = 126; omega))
  by_cases c2 : c = 127
  ·subst c2
   simp
   refine hs 1 so' σ1 ?_ (.inl rfl) h1 hK
   unfold GotQ
   rw [gN]
   cases so' <;> rfl
  ·have c2' : ¬ (c.toNat : Int) = 127:=fun q=>c2 (UInt8.toNat_inj.1 (by show c.toNat = 127; omega))
   simp [c1',c2',ho,splice]
   refine hs 1 none _ ?_ (.inl rfl) hR (hK.trans hK2)
   unfold GotQ
   rw [gN]
   cases so' with
   | none=>rfl
   | some s=>simp [c1,c2]
def SkQ (base : Nat) (β : Option Nat) (x : Nat) (b : List UInt8) (N : Int) (so : Option Rs) (σ : AS) (a : Nat → AV) (τ : AS) : Prop := ∃ (i : Nat) (so' : Option Rs),(i : Int) ≤ N ∧ so.bind (skipP N) = so'.bind (skipP (N - i)) ∧ a 0 = .ptr x 0 ∧ a 1 = .int .i64 N ∧ a 4 = .int .i64 (i : Int) ∧ RSt base β x b so' τ ∧ KeepP x σ τ
theorem skipP_step {n : Int} (h : 1 ≤ n) (s : Rs) : skipP n s = (byteP s).bind fun p => skipP (n - 1) p.2 := by
 unfold skipP takeP byteP
 cases hb : s.b with
 | nil =>
  simp
  omega
 | cons c r =>
  obtain ⟨k,rfl⟩ : ∃ k : Nat,n = (k : Int) + 1:=⟨(n - 1).toNat,by omega⟩
  have e1 : ((k : Int) + 1).toNat = k + 1:=by omega
  have e2 : ((k : Int) + 1 - 1) = (k : Int):=by omega
  simp only [Option.bind_some,e2,e1,List.length_cons,List.drop_succ_cons,Int.toNat_natCast]
  by_cases q : k ≤ r.length
  ·rw [if_pos ⟨by omega,by omega⟩,if_pos ⟨by omega,by omega⟩]
   rfl
  ·rw [if_neg (by omega),if_neg (by omega)]
theorem skip_S {base β x b so} {N : Int} (h0 : 0 ≤ N) (hN : N < 2 ^ 63) (h : RSt base β x b so σ) (hs : ∀ σ',RSt base β x b (so.bind (skipP N)) σ' → KeepP x σ σ' → R (.ret (.tuple [])) σ') : ACalls Tryz.prog G 71 [.ptr x 0,.int .i64 N] σ R := by
 refine calls71 rfl ?_
 obtain ⟨_,_,_,_,ho0,_⟩:=h.cells
 simp [pc71]
 refine aloop (SkQ base β x b N so σ) (MU 4 (N.toNat + 1)) ⟨0,so,by omega,by simp,by simp,by simp,by simp,h,.refl ho0⟩ fun a τ hI=>?_
 obtain ⟨i,so',hi,he,a0,a1,a4,hR,hK⟩:=hI
 obtain ⟨bv,at_,lv,many,ho,b1,b2,b3,b4,hR2,hK2⟩:=hR.cells
 by_cases hlt : (i : Int) < N
 ·cases so' with
  | none =>
   simp [pc71_l1,a0,a1,a4,hlt,ho]
   exact hs _ (by rw [he]; exact hR) hK
  | some s =>
   simp [pc71_l1,a0,a1,a4,hlt,ho]
   refine next_S hR fun c so2 σ1 hg hR1 hK1=>?_
   have w1 : IntKind.wrap .i64 ((i : Int) + 1) = ((i + 1 : Nat) : Int):=by rw [wrap_i64] <;> omega
   simp [a0,a1,a4,w1]
   refine ⟨⟨i + 1,so2,by omega,?_,by simp [a0],by simp [a1],by simp,hR1,hK.trans hK1⟩,?_⟩
   ·rw [he]
    simp only [Option.bind_some]
    rw [skipP_step (by omega)]
    have : byteP s = so2.map fun s=>(c,s):=hg
    rw [this]
    have e : N - (i : Int) - 1 = N - ((i + 1 : Nat) : Int):=by omega
    rw [e]
    cases so2 <;> rfl
   ·simp only [MU,a4]
    simp
    omega
 ·have e : (i : Int) = N:=by omega
  have hz : so.bind (skipP N) = so':=by
   rw [he,e]
   cases so' with
   | none=>rfl
   | some s =>
    simp [skipP,takeP]
  have hlt' : ¬ (i : Int) < N:=hlt
  simp [pc71_l1,a0,a1,a4,hlt']
  exact hs _ (by rw [hz]; exact hR) hK
end
end Go.Proofs.YthejpoplbllcbaaGreatDoor
set_option linter.unusedSimpArgs false
set_option linter.unusedVariables false
namespace Go.Proofs.YthejpoplbllcbaaGreatDoor
open Go Go.Abs
def GrowQ (σ0 : AS) (x sz : Nat) (τ : AS) (v : AV) (xs : List AV) : Prop := (xs = [] ∧ v = .nilsl) ∨ ∃ g,v = .sl (.fam g false) sz xs ∧ σ0.nf ≤ g ∧ g < τ.nf ∧ τ.F g = .alive ∧ ¬ UsesQ τ x g
theorem GrowQ.one {σ0 x sz τ v xs} (h : GrowQ σ0 x sz τ v xs) : v.known = true ∧ v.one = true ∧ v.cells = [v] := by rcases h with ⟨_,rfl⟩ | ⟨b,rfl,_⟩ <;> simp
theorem GrowQ.keep {σ0 x sz τ τ' v xs} (h : GrowQ σ0 x sz τ v xs) (K : KeepQ x τ τ') : GrowQ σ0 x sz τ' v xs := by
 rcases h with h | ⟨g,h1,h2,h3,h4,h5⟩
 ·exact .inl h
 ·exact .inr ⟨g,h1,h2,Nat.lt_of_lt_of_le h3 K.nf,(K.fam g h3 h5).trans h4,fun u=>h5 (K.use g h3 u)⟩
theorem GrowQ.at {σ0 x sz τ v xs} (h : GrowQ σ0 x sz τ v xs) : v = .nilsl ∧ xs = [] ∨ ∃ φ,v = .sl φ sz xs ∧ Al.Rd τ φ := by
 rcases h with ⟨h1,h2⟩ | ⟨g,h1,h2,h3,h4,h5⟩
 ·exact .inl ⟨h2,h1⟩
 ·exact .inr ⟨_,h1,h3,h4⟩
theorem KeepQ.endF {x σ τ} (K : KeepQ x σ τ) {g : Nat} (hg : σ.nf ≤ g) : KeepQ x σ (τ.setF g .dead) where
 no:=K.no
 nf:=K.nf
 obj:=K.obj
 fam f a b:=by
  have : ¬ f = g:=by omega
  simp [this]
  exact K.fam f a b
 use f a u:=K.use f a u
theorem KeepQ.newF {x σ τ} (K : KeepQ x σ τ) : KeepQ x σ τ.newF where
 no:=K.no
 nf:=Nat.le_succ_of_le K.nf
 obj:=K.obj
 fam f a b:=by
  have:=K.nf
  have : ¬ f = τ.nf:=by omega
  simp [this]
  exact K.fam f a b
 use f a u:=K.use f a u
theorem RSt.lt {base β x b so σ} (h : RSt base β x b so σ) {f : Nat} (u : UsesQ σ x f) : f < σ.nf ∧ base ≤ f := by
 obtain ⟨cs,v,h1,h2,h3⟩:=u
 obtain ⟨at_,bad,lv,many,ls,h,ht,hm⟩:=h
 obtain ⟨bv,ho,_⟩:=h.cells
 rw [ho] at h1
 cases h1
 simp at h2
 subst h2
 rcases ht with ⟨_,rfl⟩ | ⟨g,tos,rfl,hg,hg2,_⟩
 ·cases h3
 ·simp only [famOf,Option.some.injEq] at h3
  omega
theorem RSt.newF {base β x b so τ} (h : RSt base β x b so τ) : RSt base β x b so τ.newF := h.adds (Adds.refl τ).newF
theorem RSt.endF {base β x b so τ} (h : RSt base β x b so τ) {g : Nat} (hg : base ≤ g) (hu : ¬ UsesQ τ x g) : RSt base β x b so (τ.setF g .dead) := by
 obtain ⟨at_,bad,lv,many,ls,h,ht,hm⟩:=h
 obtain ⟨bv,ho,hv⟩:=h.cells
 have hb:=h.hb
 refine ⟨at_,bad,lv,many,ls,⟨h.hx,hb,?_,fun f hf=>?_,h.le,h.hl,h.lo,bv,ho,hv⟩,?_,hm⟩
 ·have : ¬ 0 = g:=by omega
  simp [this,h.h0]
 ·obtain ⟨h1,h2⟩:=h.hβ f hf
  have : ¬ f = g:=by omega
  exact ⟨h1,by simp [this,h2]⟩
 ·rcases ht with h1 | ⟨f,tos,h1,h2,h3,h4,h5⟩
  ·exact .inl h1
  ·have : ¬ f = g:=fun e=>hu ⟨_,_,ho,rfl,by rw [h1,← e]; rfl⟩
   exact .inr ⟨f,tos,h1,h2,h3,by simp [this,h4],h5⟩
theorem grow_Q {base β x b so} {σ0 τ : AS} {v row : AV} {xs : List AV} {bsz sz : Nat} {K : AV → AS → Prop} (hG : GrowQ σ0 x sz τ v xs) (hR : RSt base β x b so τ) (hK : KeepQ x σ0 τ) (hb : base ≤ σ0.nf) (hrow : row.cells.length = sz) (hl : (xs.length + 1) * bsz ≤ 2 ^ 47)
  (h : ∀ v' τ',GrowQ σ0 x sz τ' v' (xs ++ [row]) → RSt base β x b so τ' → KeepQ x σ0 τ' → τ'.objs = τ.objs → τ'.no = τ.no → (KeepP x σ0 τ → KeepP x σ0 τ') → K v' τ') : grown bsz sz v [row] τ K:=by
 have hn:=hK.nf
 rcases hG with ⟨rfl,rfl⟩ | ⟨g,rfl,h2,h3,h4,h5⟩
 ·have hnu : ¬ UsesQ τ.newF x τ.nf:=fun u=>by have:=(hR.lt (f:=τ.nf) u).1; omega
  have:=h (.sl (.fam τ.nf false) sz [row]) τ.newF (.inr ⟨τ.nf,rfl,hn,by simp,by simp,hnu⟩) hR.newF hK.newF (by simp) (by simp) (fun q=>q.newF)
  simp at hl
  simp
  first | exact this | exact ⟨by omega,this⟩
 ·have hR':=(hR.endF (by omega) h5).newF
  have hK':=(hK.endF h2).newF
  have hnu : ¬ UsesQ (τ.setF g .dead).newF x τ.nf:=fun u=>by have:=(hR.lt (f:=τ.nf) u).1; omega
  have:=h (.sl (.fam τ.nf false) sz (xs ++ [row])) (τ.setF g .dead).newF (.inr ⟨τ.nf,rfl,hn,by simp,by simp,hnu⟩) hR' hK' (by simp) (by simp) (fun q=>(q.endF h2).newF)
  simp [h4]
  exact ⟨hl,this⟩
def leftQ (so : Option Rs) (b : List UInt8) : Nat := match so with | none => 0 | some s => s.b.length + 1
def KiQ (base : Nat) (β : Option Nat) (x : Nat) (b : List UInt8) (N : Int) (so : Option Rs) (σ : AS) (a : Nat → AV) (τ : AS) : Prop := ∃ (i : Nat) (so' : Option Rs) (done : List Int),(i : Int) ≤ max N 0 ∧ so.bind (repP (typeP true) N.toNat) = so'.bind (fun s => (repP (typeP true) (N.toNat - i) s).map fun q => (done ++ q.1,q.2)) ∧ done.length + leftQ so' b ≤ 2 ^ 15 ∧ (∀ n ∈ done,n = 1 ∨ n = 2) ∧
 a 0 = .ptr x 0 ∧ a 4 = .int .i64 N ∧ a 5 = .int .i64 (i : Int) ∧ GrowQ σ x 1 τ (a 3) (done.map (.int .i64)) ∧ RSt base β x b so' τ ∧ KeepP x σ τ
section
variable {G : Env} {σ : AS} {R : Out → AS → Prop}
theorem RSt.left {base β x b so σ} (h : RSt base β x b so σ) : leftQ so b ≤ 2 ^ 14 + 1 := by
 obtain ⟨at_,bad,lv,many,ls,h,ht,hm⟩:=h
 have:=h.hl
 cases so with
 | none=>simp [leftQ]
 | some s =>
  simp only [leftQ,hm.2.1,List.length_drop]
  omega
theorem kinds_S {base β x b so} (hb0 : base ≤ σ.nf) (h : RSt base β x b so σ) (hs : ∀ (v : AV) (l : List Int) so' σ',GotQ so (typesP true) l so' → (∀ n ∈ l,n = 1 ∨ n = 2) → l.length ≤ 2 ^ 15 → GrowQ σ x 1 σ' v (l.map (.int .i64)) → RSt base β x b so' σ' → KeepP x σ σ' → R (.ret v) σ') : ACalls Tryz.prog G 101 [.ptr x 0] σ R := by
 refine calls101 rfl ?_
 obtain ⟨_,_,_,_,ho0,_⟩:=h.cells
 simp [pc101]
 refine number_S h fun N so1 σ1 hg hN1 hN2 hN3 hR1 hK1=>?_
 simp
 refine aloop (KiQ base β x b N so1 σ) (MU 5 (N.toNat + 1)) ⟨0,so1,[],by omega,?_,?_,by simp,by simp,by simp,by simp,.inl ⟨rfl,by simp⟩,hR1,hK1⟩ fun a τ hI=>?_
 ·cases so1 <;> simp
 ·have:=hR1.left
  simp
  omega
 obtain ⟨i,so',done,hi,he,hlen,hdn,a0,a4,a5,hG,hR,hK⟩:=hI
 obtain ⟨bv,at_,lv,many,ho,b1,b2,b3,b4,hR2,hK2⟩:=hR.cells
 have g1:=hG.one
 have gT : so.bind (typesP true) = so1.bind (repP (typeP true) N.toNat):=by
  unfold GotQ at hg
  have : so.bind (typesP true) = (so.bind (numP true false)).bind fun p=>repP (typeP true) p.1.toNat p.2:=by
   cases so <;> rfl
  rw [this,hg]
  cases so1 <;> rfl
 have h0:=hN3 rfl
 by_cases hlt : (i : Int) < N
 ·cases so' with
  | none =>
   simp [pc101_l1,a0,a4,a5,hlt,ho,pc101_r1,g1]
   refine hs _ done none _ ?_ hdn (by omega) hG hR hK
   unfold GotQ
   rw [gT,he]
   rfl
  | some s =>
   simp [pc101_l1,a0,a4,a5,hlt,ho,g1]
   refine kind_S hR fun n so2 σ2 hg2 hn hR3 hK3=>?_
   have w1 : IntKind.wrap .i64 ((i : Int) + 1) = ((i + 1 : Nat) : Int):=by rw [wrap_i64] <;> omega
   simp [a0,a4,a5]
   refine grow_Q (hG.keep hK3.r) hR3 (hK.trans hK3).r hb0 (by simp) (by simp; omega) fun v' τ' hG' hR' hK' eo en ek=>?_
   have hty : typeP true s = so2.map fun s=>(n,s):=hg2
   have hl2 : leftQ so2 b ≤ s.b.length:=by
    cases so2 with
    | none=>simp [leftQ]
    | some s2 =>
     unfold typeP at hty
     simp only [Option.map_some,Option.bind_eq_some_iff] at hty
     obtain ⟨⟨c,s3⟩,q1,q2⟩:=hty
     obtain ⟨q3,_⟩:=byteP_some q1
     split at q2
     ·cases q2
     ·cases q2
      simp only [leftQ]
      rw [q3]
      simp
   simp [a0,a4,a5,w1]
   refine ⟨⟨i + 1,so2,done ++ [n],by omega,?_,?_,?_,by simp [a0],by simp [a4],by simp,by simpa using hG',hR',ek (hK.trans hK3)⟩,?_⟩
   ·rw [he]
    have e1 : N.toNat - i = (N.toNat - (i + 1)) + 1:=by omega
    simp only [Option.bind_some]
    rw [e1,repP,hty]
    cases so2 with
    | none=>rfl
    | some s2 =>
     simp only [Option.map_some,Option.bind_some,Option.map_map]
     congr 1
     funext q
     simp
   ·simp only [leftQ] at hlen
    simp
    omega
   ·intro m hm
    rcases List.mem_append.1 hm with q | q
    ·exact hdn m q
    ·simp only [List.mem_singleton] at q
     subst q
     exact hn
   ·simp only [MU,a5]
    simp
    omega
 ·have e : N.toNat - i = 0:=by omega
  simp [pc101_l1,a0,a4,a5,hlt,pc101_r1,g1]
  refine hs _ done so' _ ?_ hdn (by omega) hG hR hK
  unfold GotQ
  rw [gT,he,e]
  cases so' with
  | none=>rfl
  | some s=>simp [repP]
end
end Go.Proofs.YthejpoplbllcbaaGreatDoor
set_option linter.unusedSimpArgs false
set_option linter.unusedVariables false
namespace Go.Proofs.YthejpoplbllcbaaGreatDoor
open Go Go.Abs
def rowsT : List (Int × W) := [(0x45,pw 5 1 0),(0x50,pw 5 2 0),(0xA7,pw 6 0 0),(0xAC,pw 7 0 0),(0x0F,pw 16 0 0),(0x00,pw 17 0 0),(0x1A,pw 18 0 0),
 (0x41,pw 1 1 0),(0x42,pw 1 2 0),(0x20,pw 2 0 0),(0x21,pw 3 0 0),(0x10,pw 10 0 0),(0x0C,pw 14 0 0),(0x0D,pw 15 0 0),
 (0x2C,pw 8 1 1),(0x28,pw 8 1 4),(0x29,pw 8 2 8),(0x3A,pw 9 1 1),(0x36,pw 9 1 4),(0x37,pw 9 2 8)]
def rowAV (p : Int × W) : AV := .agg (.int .i64 p.1 :: p.2.cs)
def onesZ : List Int := ones.map fun c => (c.toNat : Int)
def twosZ : List Int := twos.map fun c => (c.toNat : Int)
section
variable {G : Env} {σ : AS} {R : Out → AS → Prop}
theorem signs_calls (h : R (.ret (.tuple [.sl (.stat true) 1 (signNames.map AV.str),.sl (.stat true) 1 (onesZ.map (.int .i64)),.sl (.stat true) 1 (twosZ.map (.int .i64))])) σ) : ACalls Tryz.prog G 115 [] σ R := by
 refine calls115 rfl ?_
 simp [pc115]
 exact h
set_option maxRecDepth 20000 in
theorem rows_calls (h : R (.ret (.sl (.stat true) 7 (rowsT.map rowAV))) σ) : ACalls Tryz.prog G 116 [] σ R := by
 refine calls116 rfl ?_
 simp [pc116,splice]
 exact h
end
end Go.Proofs.YthejpoplbllcbaaGreatDoor
set_option linter.unusedSimpArgs false
set_option linter.unusedVariables false
namespace Go.Proofs.YthejpoplbllcbaaGreatDoor
open Go Go.Abs
set_option maxRecDepth 100000 in
theorem one_facts : ∀ i : Fin 16,findT numT (ones.getD i 0) = none ∧ findT plainT (ones.getD i 0) = none ∧ signP (ones.getD i 0) = some (signW 1 i) := by decide
set_option maxRecDepth 100000 in
theorem two_facts : ∀ i : Fin 16,findT numT (twos.getD i 0) = none ∧ findT plainT (twos.getD i 0) = none ∧ signP (twos.getD i 0) = some (signW 2 i) := by decide
theorem row_low : ∀ i : Fin 7,∃ c : UInt8,(rowsT.getD i (0,pw 0 0 0)).1 = (c.toNat : Int) ∧ findT numT c = none ∧ findT plainT c = some (rowsT.getD i (0,pw 0 0 0)).2 ∧ ¬ ((rowsT.getD i (0,pw 0 0 0)).2.op = 8 ∨ (rowsT.getD i (0,pw 0 0 0)).2.op = 9) := by
 intro i
 refine ⟨UInt8.ofNat (rowsT.getD i (0,pw 0 0 0)).1.toNat,?_⟩
 revert i
 decide
theorem row_mid : ∀ i : Fin 7,∃ c : UInt8,(rowsT.getD (i + 7) (0,pw 0 0 0)).1 = (c.toNat : Int) ∧ findT numT c = some (rowsT.getD (i + 7) (0,pw 0 0 0)).2 := by
 intro i
 refine ⟨UInt8.ofNat (rowsT.getD (i + 7) (0,pw 0 0 0)).1.toNat,?_⟩
 revert i
 decide
theorem row_high : ∀ i : Fin 6,∃ c : UInt8,(rowsT.getD (i + 14) (0,pw 0 0 0)).1 = (c.toNat : Int) ∧ findT numT c = none ∧ findT plainT c = some (rowsT.getD (i + 14) (0,pw 0 0 0)).2 ∧ ((rowsT.getD (i + 14) (0,pw 0 0 0)).2.op = 8 ∨ (rowsT.getD (i + 14) (0,pw 0 0 0)).2.op = 9) := by
 intro i
 refine ⟨UInt8.ofNat (rowsT.getD (i + 14) (0,pw 0 0 0)).1.toNat,?_⟩
 revert i
 decide
set_option maxRecDepth 100000 in
theorem row_none : ∀ k : Fin 256,(ones.contains (UInt8.ofNat k) || twos.contains (UInt8.ofNat k) || (rowsT.map (·.1)).contains (k.1 : Int)) = true ∨ findT numT (UInt8.ofNat k) = none ∧ findT plainT (UInt8.ofNat k) = none ∧ signP (UInt8.ofNat k) = none := by decide
end Go.Proofs.YthejpoplbllcbaaGreatDoor
set_option linter.unusedSimpArgs false
set_option linter.unusedVariables false
namespace Go.Proofs.YthejpoplbllcbaaGreatDoor
open Go Go.Abs
theorem lit_ones {i : Nat} (h : i < 16) : onesZ[i]? = some ((ones.getD i 0).toNat : Int) := by
 have : ∀ k : Fin 16,onesZ[k.1]? = some ((ones.getD k 0).toNat : Int):=by decide
 exact this ⟨i,h⟩
theorem lit_twos {i : Nat} (h : i < 16) : twosZ[i]? = some ((twos.getD i 0).toNat : Int) := by
 have : ∀ k : Fin 16,twosZ[k.1]? = some ((twos.getD k 0).toNat : Int):=by decide
 exact this ⟨i,h⟩
theorem lit_name {i : Nat} (h : i < 16) : signNames[i]? = some (signNames.getD i []) := by
 have : ∀ k : Fin 16,signNames[k.1]? = some (signNames.getD k []):=by decide
 exact this ⟨i,h⟩
theorem lit_row {i : Nat} (h : i < 20) : rowsT[i]? = some (rowsT.getD i (0,pw 0 0 0)) := by
 have : ∀ k : Fin 20,rowsT[k.1]? = some (rowsT.getD k (0,pw 0 0 0)):=by decide
 exact this ⟨i,h⟩
theorem leaf_one {c : UInt8} {i : Nat} (h : i < 16) (e : ones.getD i 0 = c) (s : Rs) : leafP true c s = some (signW 1 i,s) := by
 obtain ⟨h1,h2,h3⟩:=one_facts ⟨i,h⟩
 simp only [e] at h1 h2 h3
 unfold leafP
 rw [h1]
 simp only
 rw [h2]
 simp only
 rw [h3]
 rfl
theorem leaf_two {c : UInt8} {i : Nat} (h : i < 16) (e : twos.getD i 0 = c) (s : Rs) : leafP true c s = some (signW 2 i,s) := by
 obtain ⟨h1,h2,h3⟩:=two_facts ⟨i,h⟩
 simp only [e] at h1 h2 h3
 unfold leafP
 rw [h1]
 simp only
 rw [h2]
 simp only
 rw [h3]
 rfl
theorem row_rg {i : Nat} (h : i < 20) : RgW (rowsT.getD i (0,pw 0 0 0)).2 := by
 have : ∀ k : Fin 20,0 ≤ (rowsT.getD k (0,pw 0 0 0)).2.n ∧ (rowsT.getD k (0,pw 0 0 0)).2.n ≤ 8:=by decide
 have:=this ⟨i,h⟩
 exact ⟨by simp only at this; omega,by simp only at this; omega⟩
theorem RSt.other {base β x b so τ} (h : RSt base β x b so τ) {o : Nat} (hne : ¬ x = o) {cs : List AV} : RSt base β x b so (τ.setO o cs) := by
 obtain ⟨at_,bad,lv,many,ls,h,ht,hm⟩:=h
 obtain ⟨bv,ho,hv⟩:=h.cells
 exact ⟨at_,bad,lv,many,ls,⟨h.hx,h.hb,h.h0,h.hβ,h.le,h.hl,h.lo,bv,by simp [hne,ho],hv⟩,ht.keepF (Nat.le_refl _) fun _ _=>rfl,hm⟩
theorem KeepP.other {x σ τ} (K : KeepP x σ τ) {o : Nat} (ho : σ.no ≤ o) (hne : ¬ x = o) {cs : List AV} : KeepP x σ (τ.setO o cs) where
 no:=K.no
 nf:=K.nf
 obj p h1 h2:=by
  have : ¬ p = o:=by omega
  simp [this]
  exact K.obj p h1 h2
 fam:=K.fam
 lst cs' e:=by
  obtain ⟨c1,e1,e2⟩:=K.lst cs' e
  exact ⟨c1,by simp [hne,e1],e2⟩
 some:=K.some
theorem leaf_row {c : UInt8} {i : Nat} {w : W} (h : i < 20) (hp : rowsT.getD i (0,pw 0 0 0) = ((c.toNat : Int),w)) (s : Rs) :
  leafP true c s = if 14 ≤ i then (skipP 2 s).map fun s=>(w,s) else if 7 ≤ i then (numP true (decide (w.op = 1)) s).map fun p=>({ w with n:=p.1 },p.2) else some (w,s):=by
 have hinj : ∀ d : UInt8,(c.toNat : Int) = (d.toNat : Int) → c = d:=fun d q=>UInt8.toNat_inj.1 (by omega)
 by_cases q14 : 14 ≤ i
 ·rw [if_pos q14]
  obtain ⟨d,h1,h2,h3,h4⟩:=row_high ⟨i - 14,by omega⟩
  have e : i - 14 + 14 = i:=by omega
  simp only [e,hp] at h1 h3 h4
  have:=hinj d h1
  subst this
  unfold leafP skipP
  rw [h2]
  simp only
  rw [h3]
  simp only
  rw [if_pos h4]
  cases takeP 2 s <;> rfl
 ·rw [if_neg q14]
  by_cases q7 : 7 ≤ i
  ·rw [if_pos q7]
   obtain ⟨d,h1,h2⟩:=row_mid ⟨i - 7,by omega⟩
   have e : i - 7 + 7 = i:=by omega
   simp only [e,hp] at h1 h2
   have:=hinj d h1
   subst this
   unfold leafP
   rw [h2]
  ·rw [if_neg q7]
   obtain ⟨d,h1,h2,h3,h4⟩:=row_low ⟨i,by omega⟩
   simp only [hp] at h1 h3 h4
   have:=hinj d h1
   subst this
   unfold leafP
   rw [h2]
   simp only
   rw [h3]
   simp only
   rw [if_neg h4]
theorem leaf_none {c : UInt8} (h1 : ∀ j,j < 16 → ones.getD j 0 ≠ c ∧ twos.getD j 0 ≠ c) (h2 : ∀ j,j < 20 → (rowsT.getD j (0,pw 0 0 0)).1 ≠ (c.toNat : Int)) (s : Rs) : leafP true c s = none := by
 have hk:=row_none ⟨c.toNat,c.toNat_lt⟩
 simp only [UInt8.ofNat_toNat] at hk
 rcases hk with hk | ⟨k1,k2,k3⟩
 ·exfalso
  simp only [Bool.or_eq_true,List.contains_iff_mem] at hk
  rcases hk with (hk | hk) | hk
  ·obtain ⟨j,hj,e⟩:=List.getElem_of_mem hk
   have hj' : j < 16:=hj
   exact (h1 j hj').1 (by rw [List.getD_eq_getElem?_getD,List.getElem?_eq_getElem hj]; exact e)
  ·obtain ⟨j,hj,e⟩:=List.getElem_of_mem hk
   have hj' : j < 16:=hj
   exact (h1 j hj').2 (by rw [List.getD_eq_getElem?_getD,List.getElem?_eq_getElem hj]; exact e)
  ·obtain ⟨p,hp,e⟩:=List.mem_map.1 hk
   obtain ⟨j,hj,e2⟩:=List.getElem_of_mem hp
   have hj' : j < 20:=hj
   have e3 : rowsT.getD j (0,pw 0 0 0) = p:=by rw [List.getD_eq_getElem?_getD,List.getElem?_eq_getElem hj]; exact e2
   exact h2 j hj' (by rw [e3]; exact e)
 ·unfold leafP
  rw [k1]
  simp only
  rw [k2]
  simp only
  rw [k3]
  rfl
theorem got_const {so : Option Rs} {f : Rs → Option (W × Rs)} {w : W} (h : ∀ s,f s = some (w,s)) : GotQ so f w so := by
 unfold GotQ
 cases so with
 | none=>rfl
 | some s=>exact h s
def InA (c : UInt8) (x o : Nat) (τ0 : AS) (a : Nat → AV) (τ : AS) : Prop := ∃ i : Nat,i ≤ 16 ∧ τ = τ0 ∧ a 0 = .ptr x 0 ∧ a 1 = .int .i64 (c.toNat : Int) ∧ a 4 = .ptr o 0 ∧ a 5 = .sl (.stat true) 1 (signNames.map AV.str) ∧ a 6 = .sl (.stat true) 1 (onesZ.map (.int .i64)) ∧ a 7 = .sl (.stat true) 1 (twosZ.map (.int .i64)) ∧ a 8 = .int .i64 (i : Int) ∧ ∀ j,j < i → ones.getD j 0 ≠ c ∧ twos.getD j 0 ≠ c
def InB (c : UInt8) (x o : Nat) (τ0 : AS) (a : Nat → AV) (τ : AS) : Prop := ∃ i : Nat,i ≤ 20 ∧ τ = τ0 ∧ a 0 = .ptr x 0 ∧ a 1 = .int .i64 (c.toNat : Int) ∧ a 4 = .ptr o 0 ∧ a 9 = .sl (.stat true) 7 (rowsT.map rowAV) ∧ a 10 = .int .i64 (i : Int) ∧ ∀ j,j < i → (rowsT.getD j (0,pw 0 0 0)).1 ≠ (c.toNat : Int)
section
variable {G : Env} {σ : AS} {R : Out → AS → Prop}
set_option maxRecDepth 20000 in
theorem instr_S {base β x b so} {c : UInt8} (h : RSt base β x b so σ) (hs : ∀ (w : W) so' σ',GotQ so (leafP true c) w so' → RgW w → RSt base β x b so' σ' → KeepP x σ σ' → R (.ret w.av) σ') : ACalls Tryz.prog G 119 [.ptr x 0,.int .i64 (c.toNat : Int)] σ R := by
 refine calls119 rfl ?_
 obtain ⟨_,_,_,_,ho0,_⟩:=h.cells
 simp [pc119]
 refine signs_calls ?_
 have A0 : Adds σ (σ.newO [AV.int .i64 0,.int .i64 0,.int .i64 0,.int .i64 0,.int .i64 0,.str []]):=(Adds.refl σ).newO
 have hz : (σ.newO [AV.int .i64 0,.int .i64 0,.int .i64 0,.int .i64 0,.int .i64 0,.str []]).objs σ.no = some [AV.int .i64 0,.int .i64 0,.int .i64 0,.int .i64 0,.int .i64 0,.str []]:=by simp
 have hno : σ.no < (σ.newO [AV.int .i64 0,.int .i64 0,.int .i64 0,.int .i64 0,.int .i64 0,.str []]).no:=by simp
 simp
 generalize σ.newO [AV.int .i64 0,.int .i64 0,.int .i64 0,.int .i64 0,.int .i64 0,.str []] = σ1 at *
 have h1:=h.adds A0
 have hK1:=A0.keepP h.hx ho0
 have hxo : ¬ x = σ.no:=by have:=h.hx; omega
 refine aloop (InA c x σ.no σ1) (MU 8 17) ⟨0,by omega,rfl,by simp,by simp,by simp,by simp,by simp,by simp,by simp,by omega⟩ fun a τ hI=>?_
 obtain ⟨i,hi,rfl,a0,a1,a4,a5,a6,a7,a8,hne⟩:=hI
 have set : ∀ (cs : List AV),Adds σ (τ.setO σ.no cs):=fun cs=>A0.setO (Nat.le_refl _)
 by_cases hlt : i < 16
 ·have hlt' : (i : Int) < 16:=by omega
  have g1:=lit_ones hlt
  have g2:=lit_twos hlt
  have g3:=lit_name hlt
  have w1 : IntKind.wrap .i64 ((i : Int) + 1) = ((i + 1 : Nat) : Int):=by rw [wrap_i64] <;> omega
  have hsl : signNames.length = 16:=rfl
  have sw : ∀ ty,signW ty i = { op:=4,ty:=ty,n:=0,body:=0,other:=0,name:=signNames.getD i [] }:=fun _=>rfl
  generalize signNames.getD i [] = nm at *
  generalize hz2 : twos.getD i 0 = c2 at *
  by_cases e1 : ones.getD i 0 = c
  ·rw [e1] at g1
   simp [pc119_l1,a0,a1,a4,a5,a6,a7,a8,hlt',g1,g2,g3,hsl,hz,splice]
   have hA:=set [AV.int .i64 4,.int .i64 1,.int .i64 0,.int .i64 0,.int .i64 0,.str nm]
   have:=hs (signW 1 i) so _ (got_const (leaf_one hlt e1)) (by rw [sw]; exact ⟨by show (-(2 ^ 63) : Int) ≤ 0; decide,by show (0 : Int) < 2 ^ 63; decide⟩) (h.adds hA) (hA.keepP h.hx ho0)
   rw [sw] at this
   exact this
  ·have e1' : ¬ ((ones.getD i 0).toNat : Int) = (c.toNat : Int):=fun q=>e1 (UInt8.toNat_inj.1 (by omega))
   generalize hz1 : ones.getD i 0 = c1 at *
   by_cases e2 : c2 = c
   ·rw [e2] at g2
    simp [pc119_l1,a0,a1,a4,a5,a6,a7,a8,hlt',g1,e1',g2,g3,hsl,hz,splice]
    have hA:=set [AV.int .i64 4,.int .i64 2,.int .i64 0,.int .i64 0,.int .i64 0,.str nm]
    have:=hs (signW 2 i) so _ (got_const (leaf_two hlt (hz2.trans e2))) (by rw [sw]; exact ⟨by show (-(2 ^ 63) : Int) ≤ 0; decide,by show (0 : Int) < 2 ^ 63; decide⟩) (h.adds hA) (hA.keepP h.hx ho0)
    rw [sw] at this
    exact this
   ·have e2' : ¬ (c2.toNat : Int) = (c.toNat : Int):=fun q=>e2 (UInt8.toNat_inj.1 (by omega))
    simp [pc119_l1,a0,a1,a4,a5,a6,a7,a8,hlt',g1,e1',g2,e2',g3,hsl,hz,splice,w1]
    refine ⟨⟨i + 1,by omega,rfl,by simp [a0],by simp [a1],by simp [a4],by simp [a5],by simp [a6],by simp [a7],by simp,fun j hj=>?_⟩,?_⟩
    ·by_cases q : j < i
     ·exact hne j q
     ·have : j = i:=by omega
      subst this
      rw [hz1,hz2]
      exact ⟨e1,e2⟩
    ·simp only [MU,a8]
     simp
     omega
 ·have e : i = 16:=by omega
  subst e
  have hsl : signNames.length = 16:=rfl
  simp [pc119_l1,a5,a8,hsl,pc119_r2]
  refine rows_calls ?_
  simp
  refine aloop (InB c x σ.no τ) (MU 10 21) ⟨0,by omega,rfl,by simp [a0],by simp [a1],by simp [a4],by simp,by simp,by omega⟩ fun a τ hI=>?_
  obtain ⟨i,hi,rfl,b0,b1,b4,b9,b10,hne2⟩:=hI
  have hrl : rowsT.length = 20:=rfl
  by_cases hlt : i < 20
  ·have hlt' : (i : Int) < 20:=by omega
   have g:=lit_row hlt
   have w1 : IntKind.wrap .i64 ((i : Int) + 1) = ((i + 1 : Nat) : Int):=by rw [wrap_i64] <;> omega
   generalize hp : rowsT.getD i (0,pw 0 0 0) = p at *
   obtain ⟨bz,w⟩:=p
   by_cases e1 : bz = (c.toNat : Int)
   ·subst e1
    have hrg:=row_rg hlt
    rw [hp] at hrg
    have hn2:=A0.no
    have hox : ¬ x = τ.no:=by have:=h1.hx; omega
    have hoo : ¬ σ.no = τ.no:=by omega
    have A1 : Adds σ ((τ.newO [AV.int .i64 0,.int .i64 0,.int .i64 0,.int .i64 0,.int .i64 0,.str []]).setO τ.no w.cs):=(A0.newO).setO (by omega)
    have hzA : ((τ.newO [AV.int .i64 0,.int .i64 0,.int .i64 0,.int .i64 0,.int .i64 0,.str []]).setO τ.no w.cs).objs σ.no = some [AV.int .i64 0,.int .i64 0,.int .i64 0,.int .i64 0,.int .i64 0,.str []]:=by simp [hoo,hz]
    have hzB : ((τ.newO [AV.int .i64 0,.int .i64 0,.int .i64 0,.int .i64 0,.int .i64 0,.str []]).setO τ.no w.cs).objs τ.no = some w.cs:=by simp
    have hnoA : τ.no < ((τ.newO [AV.int .i64 0,.int .i64 0,.int .i64 0,.int .i64 0,.int .i64 0,.str []]).setO τ.no w.cs).no:=by simp
    have hRA:=h.adds A1
    have hKA:=A1.keepP h.hx ho0
    by_cases q14 : (14 : Int) ≤ (i : Int)
    ·simp [pc119_l2,b0,b1,b4,b9,b10,hlt',g,hrl,rowAV,W.cs,splice,q14]
     change ACalls Tryz.prog G 71 [.ptr x 0,.int .i64 2] ((τ.newO [AV.int .i64 0,.int .i64 0,.int .i64 0,.int .i64 0,.int .i64 0,.str []]).setO τ.no w.cs) _
     generalize (τ.newO [AV.int .i64 0,.int .i64 0,.int .i64 0,.int .i64 0,.int .i64 0,.str []]).setO τ.no w.cs = τ1 at *
     refine skip_S (by decide) (by decide) hRA fun σ2 hR2 hK2=>?_
     have hz2:=(hK2.obj σ.no (by omega) (by omega)).trans hzA
     have hz3:=(hK2.obj τ.no hnoA (by omega)).trans hzB
     have i14 : 14 ≤ i:=by omega
     simp [b4,hz2,hz3,W.cs,splice]
     refine hs w (so.bind (skipP 2)) _ ?_ hrg (hR2.other hxo) ((hKA.trans hK2).other (Nat.le_refl _) hxo)
     unfold GotQ
     cases so with
     | none=>rfl
     | some s =>
      simp only [Option.bind_some]
      rw [leaf_row hlt hp,if_pos i14]
    ·by_cases q7 : (7 : Int) ≤ (i : Int)
     ·simp [pc119_l2,b0,b1,b4,b9,b10,hlt',g,hrl,rowAV,W.cs,splice,q14,q7]
      change ACalls Tryz.prog G 74 [.ptr x 0,.bool (decide (w.op = 1))] ((τ.newO [AV.int .i64 0,.int .i64 0,.int .i64 0,.int .i64 0,.int .i64 0,.str []]).setO τ.no w.cs) _
      generalize (τ.newO [AV.int .i64 0,.int .i64 0,.int .i64 0,.int .i64 0,.int .i64 0,.str []]).setO τ.no w.cs = τ1 at *
      refine number_S hRA fun n so2 σ2 hg2 hn1 hn2' _ hR2 hK2=>?_
      have hz2:=(hK2.obj σ.no (by omega) (by omega)).trans hzA
      have hz3:=(hK2.obj τ.no hnoA (by omega)).trans hzB
      have i14 : ¬ 14 ≤ i:=by omega
      have i7 : 7 ≤ i:=by omega
      simp [b4,hz2,hz3,W.cs,splice,hoo]
      refine hs { w with n:=n } so2 _ ?_ ⟨hn1,hn2'⟩ ((hR2.other hox).other hxo) (((hKA.trans hK2).other (by omega) hox).other (Nat.le_refl _) hxo)
      unfold GotQ
      have hg3 : so.bind (leafP true c) = (so.bind (numP true (decide (w.op = 1)))).map fun p=>({ w with n:=p.1 },p.2):=by
       cases so with
       | none=>rfl
       | some s =>
        simp only [Option.bind_some]
        rw [leaf_row hlt hp,if_neg i14,if_pos i7]
      rw [hg3,hg2]
      cases so2 <;> rfl
     ·simp [pc119_l2,b0,b1,b4,b9,b10,hlt',g,hrl,rowAV,W.cs,splice,q14,q7,hoo,hz]
      have i14 : ¬ 14 ≤ i:=by omega
      have i7 : ¬ 7 ≤ i:=by omega
      refine hs w so _ (got_const fun s=>by rw [leaf_row hlt hp,if_neg i14,if_neg i7]) hrg (hRA.other hxo) (hKA.other (Nat.le_refl _) hxo)
   ·simp [pc119_l2,b0,b1,b4,b9,b10,hlt',g,hrl,rowAV,W.cs,e1,w1]
    refine ⟨⟨i + 1,by omega,rfl,by simp [b0],by simp [b1],by simp [b4],by simp [b9],by simp,fun j hj=>?_⟩,?_⟩
    ·by_cases q : j < i
     ·exact hne2 j q
     ·have : j = i:=by omega
      subst this
      rw [hp]
      exact e1
    ·simp only [MU,b10]
     simp
     omega
  ·have e : i = 20:=by omega
   subst e
   obtain ⟨bv,at_,lv,many,hob,_,_,_,_,hRb,hKb⟩:=h1.cells
   have hzx : ¬ σ.no = x:=fun q=>hxo q.symm
   simp [pc119_l2,b0,b1,b4,b9,b10,hrl,pc119_r1,hob,splice,hz,hzx,hxo]
   refine hs (pw 0 0 0) none _ ?_ ⟨by decide,by decide⟩ (hRb.other hxo) ((hK1.trans hKb).other (Nat.le_refl _) hxo)
   unfold GotQ
   cases so with
   | none=>rfl
   | some s=>exact leaf_none hne hne2 s
end
end Go.Proofs.YthejpoplbllcbaaGreatDoor
set_option linter.unusedSimpArgs false
set_option linter.unusedVariables false
namespace Go.Proofs.YthejpoplbllcbaaGreatDoor
open Go Go.Abs
theorem RSt.mrg {base β x b so τ} (h : RSt base β x b so τ) {g : Nat} (hg : base ≤ g) (hu : ¬ UsesQ τ x g) : RSt base β x b so (τ.mrg g fun _ => false) := by
 obtain ⟨at_,bad,lv,many,ls,h,ht,hm⟩:=h
 obtain ⟨bv,ho,hv⟩:=h.cells
 have hb:=h.hb
 refine ⟨at_,bad,lv,many,ls,⟨h.hx,hb,?_,fun f hf=>?_,h.le,h.hl,h.lo,bv,by simpa [AS.mrg] using ho,hv⟩,?_,hm⟩
 ·have : ¬ 0 = g:=by omega
  simp [AS.mrg,mrgF,this,h.h0]
 ·obtain ⟨h1,h2⟩:=h.hβ f hf
  have : ¬ f = g:=by omega
  exact ⟨h1,by simp [AS.mrg,mrgF,this,h2]⟩
 ·rcases ht with h1 | ⟨f,tos,h1,h2,h3,h4,h5⟩
  ·exact .inl h1
  ·have : ¬ f = g:=fun e=>hu ⟨_,_,ho,rfl,by rw [h1,← e]; rfl⟩
   exact .inr ⟨f,tos,h1,h2,h3,by simp [AS.mrg,mrgF,this,h4],h5⟩
section
variable {G : Env} {σ : AS} {R : Out → AS → Prop}
theorem kindsE_S {base β x b so} (hb0 : base ≤ σ.nf) (h : RSt base β x b so σ) (hs : ∀ (v : AV) (l : List Int) so' σ',GotQ so (typesP true) l so' → (∀ n ∈ l,n = 1 ∨ n = 2) → l.length ≤ 2 ^ 15 → Al.IntsE v l → RSt base β x b so' σ' → KeepP x σ σ' → R (.ret v) σ') : ACalls Tryz.prog G 101 [.ptr x 0] σ R := by
 refine Al.merging (kinds_S hb0 h fun v l so' σ' hg hl hlen hG hR hK=>?_)
 have hnb : 0 < base:=by obtain ⟨_,_,_,_,_,q,_⟩:=h; exact q.hb.1
 rcases hG with ⟨h1,rfl⟩ | ⟨g,rfl,h2,h3,h4,h5⟩
 ·have hl0 : l = []:=by simpa using h1
  exact .inl (hs _ l so' σ' hg hl hlen (.inl ⟨hl0,.inl rfl⟩) hR hK)
 ·have:=hs (.sl (.fam 0 false) 1 (l.map (.int .i64))) l so' (σ'.mrg g fun _=>false) hg hl hlen (.inr ⟨_,rfl⟩) (hR.mrg (by omega) h5) (hK.mrg (by omega))
  refine Al.MrgOr.merged g (fun _=>false) (by omega) h4 ?_
  simpa [Function.comp_def] using this
end
end Go.Proofs.YthejpoplbllcbaaGreatDoor
set_option linter.unusedSimpArgs false
set_option linter.unusedVariables false
namespace Go.Proofs.YthejpoplbllcbaaGreatDoor
open Go Go.Abs
section
variable {G : Env} {σ : AS} {R : Out → AS → Prop}
theorem RSt.push {base β x b s τ bv g tos lv lv0 l at_} (h0 : RSt base β x b (some s) τ) (h : Rq base β x b at_ false lv0 (s.n : Int) τ) (hsb : s.b = b.drop at_) (hsn : s.n ≤ 2 ^ 20) (hv : BV β bv b) (ht : All2 Al.RepE tos s.ls) (hG : GrowQ σ x 6 τ lv (l.map W.av)) (hσ : base ≤ σ.nf) {τ' : AS} (e1 : τ'.objs = upd τ.objs x (some [bv,.int .i64 (at_ : Int),.bool false,.sl (.fam τ.nf false) 1 (tos ++ [lv]),.int .i64 (s.n : Int)])) (e2 : τ'.no = τ.no) (e3 : τ'.nf = τ.nf + 1) (e4 : τ'.F τ.nf = .alive)
  (e5 : ∀ f,f < τ.nf → ¬ UsesQ τ x f → τ'.F f = τ.F f) (K : KeepQ x σ τ) (hg : ∀ f,UsesQ τ x f → f = g) {v : AV} (hmv : ∀ f,Go.Abs.mrg f v = v) (hR : ∀ σ',RSt base β x b (some { s with ls:=s.ls ++ [l] }) σ' → KeepQ x σ σ' → R (.ret v) σ') : Al.MrgOr R (.ret v) τ':=by
 have hb:=h.hb
 have hn:=K.nf
 have base0 : ∀ σ' : AS,σ'.no = τ.no → σ'.nf = τ.nf + 1 → (∀ o,o ≠ x → σ'.objs o = τ.objs o) → (∃ bv' tos',σ'.objs x = some [bv',.int .i64 (at_ : Int),.bool false,.sl (.fam τ.nf false) 1 tos',.int .i64 (s.n : Int)] ∧ BV β bv' b ∧ All2 Al.RepE tos' (s.ls ++ [l])) → σ'.F τ.nf = .alive →
   (∀ f,f < τ.nf → ¬ UsesQ τ x f → f < σ.nf ∨ f < base → σ'.F f = τ.F f) → R (.ret v) σ':=by
  intro σ' a1 a2 a3 ⟨bv',tos',a4,a5,a6⟩ a7 a8
  have nb : ∀ f,f < base → ¬ UsesQ τ x f:=fun f hf u=>by have:=(h0.lt u).2; omega
  refine hR σ' ⟨at_,false,_,_,_,⟨by rw [a1]; exact h.hx,⟨hb.1,by omega⟩,?_,fun f hf=>?_,h.le,h.hl,by simp,bv',a4,a5⟩,.inr ⟨τ.nf,tos',rfl,hb.2,by omega,a7,a6⟩,rfl,hsb,rfl,hsn,rfl⟩ ⟨by rw [a1]; exact K.no,by omega,fun o h1 h2=>(a3 o h2).trans (K.obj o h1 h2),fun f h1 h2=>?_,fun f h1 h2=>?_⟩
  ·rw [a8 0 (by omega) (nb 0 hb.1) (.inr hb.1)]; exact h.h0
  ·obtain ⟨h1,h2⟩:=h.hβ f hf
   exact ⟨h1,by rw [a8 f (by omega) (nb f h1) (.inr h1)]; exact h2⟩
  ·have hu : ¬ UsesQ τ x f:=fun u=>h2 (K.use f h1 u)
   rw [a8 f (by omega) hu (.inl h1)]
   exact K.fam f h1 h2
  ·obtain ⟨cs,v,q1,q2,q3⟩:=h2
   rw [a4] at q1
   cases q1
   simp at q2
   subst q2
   simp [famOf] at q3
   omega
 rcases hG with ⟨h1,rfl⟩ | ⟨f,rfl,h2,h3,h4,h5⟩
 ·have hl : l = []:=by simpa using h1
  subst hl
  exact .inl (base0 τ' e2 e3 (fun o ho=>by rw [e1]; simp [ho]) ⟨bv,tos ++ [.nilsl],by rw [e1]; simp,hv,ht.append (.cons (.inl ⟨rfl,rfl⟩) .nil)⟩ e4 (fun f q1 q2 _=>e5 f q1 q2))
 ·refine Al.MrgOr.merged f (fun o=>o == x) (by omega) (by rw [e5 f h3 h5]; exact h4) ?_
  rw [hmv]
  have hbf : Go.Abs.mrg f bv = bv:=by
   rcases hv with ⟨_,rfl⟩ | ⟨φ,hφ,rfl⟩
   ·simp
   ·cases φ with
    | stat b=>simp [B,Function.comp_def]
    | fam g' b =>
     obtain ⟨q1,_⟩:=h.hβ g' hφ.symm
     have : ¬ g' = f:=by omega
     simp [this,B,Function.comp_def]
  refine base0 _ e2 e3 (fun o ho=>by simp [AS.mrg,e1,ho]) ⟨bv,tos ++ [.sl (.fam 0 false) 6 (l.map W.av)],?_,hv,ht.append (.cons (.inr ⟨_,rfl⟩) .nil)⟩ ?_ (fun f' q1 q2 q3=>?_)
  ·have : ¬ τ.nf = f:=by omega
   simp [AS.mrg,e1,hbf,Al.mrg_rows ht,this,Function.comp_def,Al.mrg_W]
  ·have : ¬ τ.nf = f:=by omega
   simp [AS.mrg,mrgF,this,e4]
  ·have : ¬ f' = f:=by omega
   simp only [AS.mrg,mrgF,upd_at,this,if_false]
   exact e5 f' q1 q2
end
end Go.Proofs.YthejpoplbllcbaaGreatDoor
set_option linter.unusedSimpArgs false
set_option linter.unusedVariables false
namespace Go.Proofs.YthejpoplbllcbaaGreatDoor
open Go Go.Abs
def endC (e : Bool) : UInt8 := if e then 5 else 11
def ListQ (G : Env) (base : Nat) (β : Option Nat) (x : Nat) (b : List UInt8) (k : Nat) : Prop := ∀ (σ : AS) (R : Out → AS → Prop) (d : Nat) (so : Option Rs),d ≤ 401 → RSt base β x b so σ → (∀ s,so = some s → s.b.length < k ∧ s.ls.length + s.b.length ≤ 2 ^ 16) →
 (∀ (n : Int) (e : Bool) so' σ',(so.bind fun s=>if d ≤ 400 then listP true k d [] s else none) = so'.map (fun s'=>((n,endC e),s')) → -(2 ^ 63) ≤ n → n < 2 ^ 63 → RSt base β x b so' σ' → KeepQ x σ σ' → R (.ret (.tuple [.int .i64 n,.bool e])) σ') → ACalls Tryz.prog G 103 [.ptr x 0,.int .i64 (d : Int)] σ R
def MBq (x : Nat) (_ : Nat → AV) (τ : AS) : Nat := match τ.objs x with
 | some (_ :: .int _ n :: .bool false :: _)=>2 ^ 14 + 1 - n.toNat
 | _=>0
theorem MBq_some {base β x b s τ} (h : RSt base β x b (some s) τ) (a : Nat → AV) : MBq x a τ = 2 ^ 14 + 1 + s.b.length - b.length ∧ s.b.length ≤ b.length ∧ b.length ≤ 2 ^ 14 := by
 obtain ⟨at_,bad,lv,many,ls,h,ht,rfl,m2,m3,m4,m5⟩:=h
 obtain ⟨bv,ho,hv⟩:=h.cells
 have h1:=h.le
 have h2:=h.hl
 unfold MBq
 rw [ho]
 simp only [Int.toNat_natCast]
 have h3 : s.b.length = b.length - at_:=by rw [m2,List.length_drop]
 omega
theorem MBq_none {base β x b τ} (h : RSt base β x b none τ) (a : Nat → AV) : MBq x a τ = 0 := by
 obtain ⟨at_,bad,lv,many,ls,h,ht,rfl,_⟩:=h
 obtain ⟨bv,ho,hv⟩:=h.cells
 unfold MBq
 rw [ho]
def LsQ (base : Nat) (β : Option Nat) (x : Nat) (b : List UInt8) (d k0 : Nat) (so0 : Option Rs) (σ : AS) (a : Nat → AV) (τ : AS) : Prop := ∃ (k : Nat) (l : List W) (so : Option Rs),(so0.bind fun s => if d ≤ 400 then listP true k0 d [] s else none) = (so.bind fun s => listP true k d l s) ∧ k ≤ k0 ∧ (∀ s,so = some s → s.b.length < k ∧ s.ls.length + s.b.length ≤ 2 ^ 16) ∧ l.length + leftQ so b ≤ 2 ^ 15 ∧ a 0 = .ptr x 0 ∧ a 1 = .int .i64 (d : Int) ∧ GrowQ σ x 6 τ (a 6) (l.map W.av) ∧ RSt base β x b so τ ∧ KeepQ x σ τ ∧ (401 ≤ d → so = none)
end Go.Proofs.YthejpoplbllcbaaGreatDoor
set_option linter.unusedSimpArgs false
set_option linter.unusedVariables false
namespace Go.Proofs.YthejpoplbllcbaaGreatDoor
open Go Go.Abs
theorem KeepQ.other {x σ τ} (K : KeepQ x σ τ) {o : Nat} (ho : σ.no ≤ o) (hne : ¬ x = o) {cs : List AV} : KeepQ x σ (τ.setO o cs) where
 no:=K.no
 nf:=K.nf
 obj p h1 h2:=by
  have : ¬ p = o:=by omega
  simp [this]
  exact K.obj p h1 h2
 fam:=K.fam
 use f a u:=K.use f a (by
  obtain ⟨cs',v,h1,h2,h3⟩:=u
  exact ⟨cs',v,by simpa [hne] using h1,h2,h3⟩)
theorem GrowQ.other {σ0 x sz τ v xs} (h : GrowQ σ0 x sz τ v xs) {o : Nat} (hne : ¬ x = o) {cs : List AV} : GrowQ σ0 x sz (τ.setO o cs) v xs := by
 rcases h with h | ⟨g,h1,h2,h3,h4,h5⟩
 ·exact .inl h
 ·exact .inr ⟨g,h1,h2,h3,h4,fun ⟨cs',v,q1,q2,q3⟩=>h5 ⟨cs',v,by simpa [hne] using q1,q2,q3⟩⟩
section
variable {G : Env} {σ : AS} {R : Out → AS → Prop}
theorem list_round {base β x b so0} {k0 d : Nat} (hd : d ≤ 401) (hσ : base ≤ σ.nf) (IH : ∀ j,j < k0 → ListQ G base β x b j)
  (hs : ∀ (n : Int) (e : Bool) so' σ',(so0.bind fun s=>if d ≤ 400 then listP true k0 d [] s else none) = so'.map (fun s'=>((n,endC e),s')) → -(2 ^ 63) ≤ n → n < 2 ^ 63 → RSt base β x b so' σ' → KeepQ x σ σ' → R (.ret (.tuple [.int .i64 n,.bool e])) σ')
  {a : Nat → AV} {τ : AS} (hI : LsQ base β x b d k0 so0 σ a τ) : avc Tryz.prog G 92 pc103_l1 (athen (fun a' σ'=>LsQ base β x b d k0 so0 σ a' σ' ∧ MBq x a' σ' < MBq x a τ) (ablock 0 (athen (avc Tryz.prog G 92 pc103_r1 (afin Tryz.prog [.tmp 4,.tmp 5] (Al.MrgOr R))) (afin Tryz.prog [.tmp 4,.tmp 5] (Al.MrgOr R))))) a τ:=by
 obtain ⟨k,l,so,he,hk,hsb,hlb,a0,a1,hG,hR,hK,h401⟩:=hI
 obtain ⟨bvx,atx,lvx,manyx,ho,z1,z2,z3,z4,hRb,hKb⟩:=hR.cells
 cases so with
 | none =>
  simp [pc103_l1,a0,ho,pc103_r1]
  refine .inl (hs 0 false none _ (by rw [he]; rfl) (by decide) (by decide) hR hK)
 | some s =>
  have hd4 : d ≤ 400:=by
   by_cases q : 401 ≤ d
   ·cases h401 q
   ·omega
  obtain ⟨hsk,hsl⟩:=hsb s rfl
  obtain ⟨k,rfl⟩ : ∃ j,k = j + 1:=⟨k - 1,by omega⟩
  simp [pc103_l1,a0,ho]
  refine next_Z hR fun c so1 σ1 hg1 hz1 hR1 hK1=>?_
  have hby : byteP s = so1.map fun s=>(c,s):=hg1
  have he1 : (so0.bind fun s=>if d ≤ 400 then listP true k0 d [] s else none) = so1.bind fun s1=>if c = 11 ∨ c = 5 then some (((s1.ls.length : Int),c),{ s1 with ls:=s1.ls ++ [l] }) else (instrP true (fun d s=>listP true k d [] s) d c s1).bind fun q=>listP true k d (l ++ [q.1]) q.2:=by
   rw [he]
   simp only [Option.bind_some]
   rw [listP,hby]
   cases so1 <;> rfl
  have hKK:=hK.trans hK1.r
  have hG1:=hG.keep hK1.r
  have g1:=hG1.one
  by_cases hc : c = 11 ∨ c = 5
  ·have hs1 : ∃ s1,so1 = some s1:=by
    cases so1 with
    | none =>
     have:=hz1 (by simp) rfl
     subst this
     rcases hc with q | q <;> cases q
    | some s1=>exact ⟨s1,rfl⟩
   obtain ⟨s1,rfl⟩:=hs1
   simp only [Option.bind_some,if_pos hc] at he1
   have hR1':=hR1
   obtain ⟨at_,bad,lv,many,ls,hq,hlv,rfl,m2,rfl,m4,m5⟩:=hR1'
   obtain ⟨bv,ho1,hbv⟩:=hq.cells
   have l1:=hlv.one
   have b1:=hbv.one
   obtain ⟨q1,q2,q3⟩:=byteP_some hby
   have hlen : s1.ls.length ≤ 2 ^ 16:=by
    have : s1.ls.length = s.ls.length:=congrArg List.length q2
    omega
   subst m5
   have wl : IntKind.wrap .i64 (s1.ls.length : Int) = (s1.ls.length : Int):=by rw [wrap_i64] <;> omega
   obtain ⟨e,hce⟩ : ∃ e,endC e = c:=by
    rcases hc with rfl | rfl
    ·exact ⟨false,rfl⟩
    ·exact ⟨true,rfl⟩
   have fin : ∀ τ' : AS,∀ tos g,All2 Al.RepE tos s1.ls → (∀ f,UsesQ σ1 x f → f = g) → τ'.objs = upd σ1.objs x (some [bv,.int .i64 (at_ : Int),.bool false,.sl (.fam σ1.nf false) 1 (tos ++ [a 6]),.int .i64 (s1.n : Int)]) → τ'.no = σ1.no → τ'.nf = σ1.nf + 1 → τ'.F σ1.nf = .alive → (∀ f,f < σ1.nf → ¬ UsesQ σ1 x f → τ'.F f = σ1.F f) →
     Al.MrgOr R (.ret (.tuple [.int .i64 (s1.ls.length : Int),.bool e])) τ':=fun τ' tos g t1 t2 t3 t4 t5 t6 t7 =>
    RSt.push hR1 hq m2 m4 hbv t1 hG1 hσ t3 t4 t5 t6 t7 hKK t2 (by intro f; simp) fun σ' r1 r2=>hs _ e _ σ' (by rw [he1,hce]; rfl) (by omega) (by omega) r1 r2
   have hcc : (c.toNat : Int) = 11 ∧ e = false ∨ ¬ (c.toNat : Int) = 11 ∧ (c.toNat : Int) = 5 ∧ e = true:=by
    cases e with
    | false=>subst hce; exact .inl ⟨rfl,rfl⟩
    | true=>subst hce; exact .inr ⟨by decide,rfl,rfl⟩
   rcases hlv with ⟨hl0,rfl⟩ | ⟨g,tos,rfl,t1,t2,t3,t4⟩
   ·have wl' : IntKind.wrap .i64 0 = 0:=rfl
    have key:=fin ((σ1.newF).setO x [bv,.int .i64 (at_ : Int),.bool false,.sl (.fam σ1.nf false) 1 ([] ++ [a 6]),.int .i64 (s1.n : Int)]) [] 0 (by rw [hl0]; exact .nil) (fun f ⟨cs,v,u1,u2,u3⟩=>by rw [ho1] at u1; cases u1; simp at u2; subst u2; cases u3) (by simp) (by simp) (by simp) (by simp) (fun f h1 h2=>by
     have : ¬ f = σ1.nf:=by omega
     simp [this])
    rw [hl0] at key
    rcases hcc with ⟨h1,rfl⟩ | ⟨h1,h2,rfl⟩
    ·simp [a0,ho1,h1,g1,splice,wl']
     simpa using key
    ·simp [a0,ho1,h1,h2,g1,splice,wl']
     simpa using key
   ·have tl:=t4.length
    have key:=fin (((σ1.setF g .dead).newF).setO x [bv,.int .i64 (at_ : Int),.bool false,.sl (.fam σ1.nf false) 1 (tos ++ [a 6]),.int .i64 (s1.n : Int)]) tos g t4 (fun f ⟨cs,v,u1,u2,u3⟩=>by rw [ho1] at u1; cases u1; simp at u2; subst u2; simpa [famOf] using u3.symm) (by simp) (by simp) (by simp) (by simp) (fun f h1 h2=>by
     have : ¬ f = σ1.nf:=by omega
     have : ¬ f = g:=fun e=>h2 ⟨_,_,ho1,rfl,by rw [e]; rfl⟩
     simp [*])
    rcases hcc with ⟨h1,rfl⟩ | ⟨h1,h2,rfl⟩
    ·simp [a0,ho1,h1,g1,splice,t3,tl,wl]
     refine ⟨by omega,?_⟩
     simpa using key
    ·simp [a0,ho1,h1,h2,g1,splice,t3,tl,wl]
     refine ⟨by omega,?_⟩
     simpa using key
  ·have h11 : ¬ (c.toNat : Int) = 11:=fun e=>hc (.inl (UInt8.toNat_inj.1 (show c.toNat = (11 : UInt8).toNat by have : (11 : UInt8).toNat = 11:=rfl; omega)))
   have h5 : ¬ (c.toNat : Int) = 5:=fun e=>hc (.inr (UInt8.toNat_inj.1 (show c.toNat = (5 : UInt8).toNat by have : (5 : UInt8).toNat = 5:=rfl; omega)))
   simp only [if_neg hc] at he1
   have hlb1 : l.length + 1 + leftQ so1 b ≤ 2 ^ 15:=by
    have : leftQ so1 b + 1 ≤ leftQ (some s) b:=by
     cases so1 with
     | none=>simp [leftQ]
     | some s1 =>
      obtain ⟨q1,_⟩:=byteP_some hby
      simp [leftQ,q1]
    omega
   obtain ⟨m0,m1,m2⟩:=MBq_some hR a
   -- the instruction is read: it is laid behind the others
   have close : ∀ (w : W) (so2 : Option Rs) (σ2 : AS) (a' : Nat → AV) (v' : AV) (τ' : AS),(so1.bind (instrP true (fun d s=>listP true k d [] s) d c)) = so2.map (fun s=>(w,s)) → a' 0 = .ptr x 0 → a' 1 = .int .i64 (d : Int) → a' 6 = v' → GrowQ σ x 6 τ' v' ((l.map W.av) ++ [w.av]) → RSt base β x b so2 τ' → KeepQ x σ τ' → LsQ base β x b d k0 so0 σ a' τ' ∧ MBq x a' τ' < MBq x a τ:=fun w so2 σ2 a' v' τ' h1 b0 b1 b6 h2 h3 h4=>by
    have hin : ∀ s2,so2 = some s2 → ∃ s1,so1 = some s1 ∧ s2.ls.length + s2.b.length ≤ s1.ls.length + s1.b.length ∧ s2.b.length ≤ s1.b.length ∧ s1.b.length + 1 = s.b.length ∧ s1.ls.length = s.ls.length:=fun s2 e=>by
     subst e
     cases so1 with
     | none=>cases h1
     | some s1 =>
      have hx:=listP_one (show instrP true (fun d s=>listP true k d [] s) d c s1 = some (w,s2) from h1)
      obtain ⟨q1,q2,_⟩:=byteP_some hby
      exact ⟨s1,rfl,hx.1,hx.2,by rw [q1]; rfl,congrArg List.length q2⟩
    have hleft : leftQ so2 b ≤ leftQ so1 b:=by
     cases so2 with
     | none=>simp [leftQ]
     | some s2 =>
      obtain ⟨s1,rfl,y1,y2,y3,y4⟩:=hin s2 rfl
      simp only [leftQ]
      omega
    refine ⟨⟨k,l ++ [w],so2,?_,by omega,fun s2 e=>?_,by simp; omega,b0,b1,by rw [b6]; simpa using h2,h3,h4,fun q=>by omega⟩,?_⟩
    ·rw [he1]
     have : (so1.bind fun s1=>(instrP true (fun d s=>listP true k d [] s) d c s1).bind fun q=>listP true k d (l ++ [q.1]) q.2) = (so1.bind (instrP true (fun d s=>listP true k d [] s) d c)).bind fun q=>listP true k d (l ++ [q.1]) q.2:=by cases so1 <;> rfl
     rw [this,h1]
     cases so2 <;> rfl
    ·obtain ⟨s1,rfl,y1,y2,y3,y4⟩:=hin s2 e
     omega
    ·cases so2 with
     | none =>
      rw [MBq_none h3,m0]
      omega
     | some s2 =>
      obtain ⟨s1,rfl,y1,y2,y3,y4⟩:=hin s2 rfl
      obtain ⟨n0,n1,n2⟩:=MBq_some h3 a'
      rw [n0,m0]
      omega
   by_cases hleaf : c.toNat < 2 ∨ 4 < c.toNat
   ·have hl2 : (c.toNat : Int) < 2 ∨ ¬ (c.toNat : Int) < 2 ∧ 4 < (c.toNat : Int):=by omega
    have hins : so1.bind (instrP true (fun d s=>listP true k d [] s) d c) = so1.bind (leafP true c):=by
     cases so1 with
     | none=>rfl
     | some s1 =>
      simp only [Option.bind_some]
      unfold instrP
      rw [if_neg (by omega)]
    have go : ∀ (w : W) (so2 : Option Rs) (σ2 : AS),GotQ so1 (leafP true c) w so2 → RSt base β x b so2 σ2 → KeepP x σ1 σ2 → True:=fun _ _ _ _ _ _=>trivial
    rcases hl2 with y | ⟨y1,y2⟩
    ·simp [a0,a1,h11,h5,g1,y]
     refine instr_S hR1 fun w so2 σ2 hg2 hrw hR2 hK2=>?_
     have g2:=(hG1.keep hK2.r).one
     simp [W.av,W.cs,g2]
     refine grow_Q (row:=w.av) (hG1.keep hK2.r) hR2 (hKK.trans hK2.r) hσ (by simp [W.av,W.cs]) (by simp; omega) fun v' τ' e1 e2 e3 _ _ _=>?_
     simp
     exact close w so2 σ2 _ v' τ' (hins.trans hg2) (by simp [a0]) (by simp [a1]) (by simp) e1 e2 e3
    ·simp [a0,a1,h11,h5,g1,y1,y2]
     refine instr_S hR1 fun w so2 σ2 hg2 hrw hR2 hK2=>?_
     have g2:=(hG1.keep hK2.r).one
     simp [W.av,W.cs,g2]
     refine grow_Q (row:=w.av) (hG1.keep hK2.r) hR2 (hKK.trans hK2.r) hσ (by simp [W.av,W.cs]) (by simp; omega) fun v' τ' e1 e2 e3 _ _ _=>?_
     simp
     exact close w so2 σ2 _ v' τ' (hins.trans hg2) (by simp [a0]) (by simp [a1]) (by simp) e1 e2 e3
   ·have y1 : ¬ (c.toNat : Int) < 2:=by omega
    have y2 : ¬ 4 < (c.toNat : Int):=by omega
    have w9 : IntKind.wrap .i64 ((c.toNat : Int) + 9) = (c.toNat : Int) + 9:=by rw [wrap_i64] <;> omega
    have wd : IntKind.wrap .i64 ((d : Int) + 1) = ((d + 1 : Nat) : Int):=by rw [wrap_i64] <;> omega
    generalize hF : (fun s=>if d + 1 ≤ 400 then listP true k (d + 1) [] s else none) = F
    have hW : so1.bind (instrP true (fun d s=>listP true k d [] s) d c) = (so1.bind byteP).bind fun p=>(F p.2).bind fun q=>if c.toNat = 4 then (if q.1.2 = 5 then (F q.2).map fun r=>(nestP 13 q.1.1 r.1.1,r.2) else some (nestP 13 q.1.1 (-1),q.2)) else some (nestP ((c.toNat : Int) + 9) q.1.1 0,q.2):=by
     cases so1 with
     | none=>rfl
     | some s1 =>
      simp only [Option.bind_some]
      unfold instrP
      rw [if_pos (by omega),← hF]
      by_cases q : d < 400
      ·have q' : d + 1 ≤ 400:=q
       simp only [if_pos q,if_pos q']
       rfl
      ·have q' : ¬ d + 1 ≤ 400:=q
       simp only [if_neg q,if_neg q']
       cases byteP s1 <;> rfl
    simp [a0,a1,h11,h5,g1,y1,y2]
    refine next_S hR1 fun c1 so2 σ2 hg2 hR2 hK2=>?_
    rw [show so1.bind byteP = _ from hg2] at hW
    simp [a0,a1,w9,wd,splice]
    have A3 : Adds σ2 ((σ2.newO [AV.int .i64 0,.int .i64 0,.int .i64 0,.int .i64 0,.int .i64 0,.str []]).setO σ2.no [AV.int .i64 ((c.toNat : Int) + 9),.int .i64 0,.int .i64 0,.int .i64 0,.int .i64 0,.str []]):=(Adds.refl σ2).newO.setO (Nat.le_refl _)
    have hz3 : ((σ2.newO [AV.int .i64 0,.int .i64 0,.int .i64 0,.int .i64 0,.int .i64 0,.str []]).setO σ2.no [AV.int .i64 ((c.toNat : Int) + 9),.int .i64 0,.int .i64 0,.int .i64 0,.int .i64 0,.str []]).objs σ2.no = some [AV.int .i64 ((c.toNat : Int) + 9),.int .i64 0,.int .i64 0,.int .i64 0,.int .i64 0,.str []]:=by simp
    have hno3 : σ2.no < ((σ2.newO [AV.int .i64 0,.int .i64 0,.int .i64 0,.int .i64 0,.int .i64 0,.str []]).setO σ2.no [AV.int .i64 ((c.toNat : Int) + 9),.int .i64 0,.int .i64 0,.int .i64 0,.int .i64 0,.str []]).no:=by simp
    generalize (σ2.newO [AV.int .i64 0,.int .i64 0,.int .i64 0,.int .i64 0,.int .i64 0,.str []]).setO σ2.no [AV.int .i64 ((c.toNat : Int) + 9),.int .i64 0,.int .i64 0,.int .i64 0,.int .i64 0,.str []] = σ3 at *
    have hx2:=hR2.hx
    have hxo : ¬ x = σ2.no:=by omega
    have hox : ¬ σ2.no = x:=by omega
    obtain ⟨_,_,_,_,hob2,_⟩:=hR2.cells
    have hR3:=hR2.adds A3
    have hK3 : KeepQ x σ σ3:=(hKK.trans hK2.r).trans (A3.keepP hx2 hob2).r
    have hnoσ : σ.no ≤ σ2.no:=(hKK.trans hK2.r).no
    have b2 : ∀ s2,so2 = some s2 → s2.b.length < k ∧ s2.ls.length + s2.b.length ≤ 2 ^ 16:=fun s2 e=>by
     subst e
     cases so1 with
     | none=>cases hg2
     | some s1 =>
      obtain ⟨q1,q2,_⟩:=byteP_some hby
      obtain ⟨q4,q5,_⟩:=byteP_some (show byteP s1 = some (c1,s2) from hg2)
      have l1:=congrArg List.length q1
      have l2:=congrArg List.length q4
      have l3 : s1.ls.length = s.ls.length:=congrArg List.length q2
      have l4 : s2.ls.length = s1.ls.length:=congrArg List.length q5
      simp only [List.length_cons] at l1 l2
      omega
    refine IH k (by omega) σ3 _ (d + 1) so2 (by omega) hR3 b2 fun n e so3 σ4 hg4 hn1 hn2 hR4 hK4=>?_
    rw [hF] at hg4
    have hz4:=(hK4.obj σ2.no hno3 hox).trans hz3
    have hno4:=hK4.no
    have hK4':=hK3.trans hK4
    have hG4 : GrowQ σ x 6 σ4 (a 6) (l.map W.av):=((hG1.keep hK2.r).keep (A3.keepP hx2 hob2).r).keep hK4
    have g4:=hG4.one
    by_cases c4 : c.toNat = 4
    ·have c4' : (c.toNat : Int) = 4:=by omega
     have hW4 : ∀ p : UInt8 × Rs,((F p.2).bind fun q=>if c.toNat = 4 then (if q.1.2 = 5 then (F q.2).map fun r=>(nestP 13 q.1.1 r.1.1,r.2) else some (nestP 13 q.1.1 (-1),q.2)) else some (nestP ((c.toNat : Int) + 9) q.1.1 0,q.2)) = (F p.2).bind fun q=>(if q.1.2 = 5 then (F q.2).map fun r=>(nestP 13 q.1.1 r.1.1,r.2) else some (nestP 13 q.1.1 (-1),q.2)):=fun p=>by
      simp only [if_pos c4]
     simp only [hW4] at hW
     cases e with
     | false =>
      simp [a0,a1,c4',hz4,splice,g4]
      have hRo:=hR4.other hxo (cs:=[AV.int .i64 13,.int .i64 0,.int .i64 0,.int .i64 n,.int .i64 (-1),.str []])
      refine grow_Q (row:=(nestP 13 n (-1)).av) ((hG4.other hxo).other hxo) ((hR4.other hxo).other hxo) ((hK4'.other hnoσ hxo).other hnoσ hxo) hσ (by simp [W.av,W.cs]) (by simp; omega) fun v' τ' e1 e2 e3 _ _ _=>?_
      simp
      refine close (nestP 13 n (-1)) so3 σ4 _ v' τ' ?_ (by simp [a0]) (by simp [a1]) (by simp) e1 e2 e3
      rw [hW]
      cases so2 with
      | none =>
       cases so3 with
       | none=>rfl
       | some s3=>cases hg4
      | some s2 =>
       simp only [Option.bind_some,Option.map_some] at hg4 ⊢
       rw [hg4]
       cases so3 <;> rfl
     | true =>
      simp [a0,a1,c4',hz4,splice,wd,g4]
      have hR5:=(hR4.other hxo (cs:=[AV.int .i64 13,.int .i64 0,.int .i64 0,.int .i64 n,.int .i64 0,.str []])).other hxo (cs:=[AV.int .i64 13,.int .i64 0,.int .i64 0,.int .i64 n,.int .i64 (-1),.str []])
      have hK5:=(hK4'.other hnoσ hxo (cs:=[AV.int .i64 13,.int .i64 0,.int .i64 0,.int .i64 n,.int .i64 0,.str []])).other hnoσ hxo (cs:=[AV.int .i64 13,.int .i64 0,.int .i64 0,.int .i64 n,.int .i64 (-1),.str []])
      have hG5:=(hG4.other hxo (cs:=[AV.int .i64 13,.int .i64 0,.int .i64 0,.int .i64 n,.int .i64 0,.str []])).other hxo (cs:=[AV.int .i64 13,.int .i64 0,.int .i64 0,.int .i64 n,.int .i64 (-1),.str []])
      have hz5 : ((σ4.setO σ2.no [AV.int .i64 13,.int .i64 0,.int .i64 0,.int .i64 n,.int .i64 0,.str []]).setO σ2.no [AV.int .i64 13,.int .i64 0,.int .i64 0,.int .i64 n,.int .i64 (-1),.str []]).objs σ2.no = some [AV.int .i64 13,.int .i64 0,.int .i64 0,.int .i64 n,.int .i64 (-1),.str []]:=by simp
      have hno5 : σ2.no < ((σ4.setO σ2.no [AV.int .i64 13,.int .i64 0,.int .i64 0,.int .i64 n,.int .i64 0,.str []]).setO σ2.no [AV.int .i64 13,.int .i64 0,.int .i64 0,.int .i64 n,.int .i64 (-1),.str []]).no:=by simp; omega
      generalize (σ4.setO σ2.no [AV.int .i64 13,.int .i64 0,.int .i64 0,.int .i64 n,.int .i64 0,.str []]).setO σ2.no [AV.int .i64 13,.int .i64 0,.int .i64 0,.int .i64 n,.int .i64 (-1),.str []] = σ5 at *
      have b3 : ∀ s3,so3 = some s3 → s3.b.length < k ∧ s3.ls.length + s3.b.length ≤ 2 ^ 16:=fun s3 e=>by
       subst e
       cases so2 with
       | none=>cases hg4
       | some s2 =>
        obtain ⟨l1,l2⟩:=b2 s2 rfl
        rw [← hF] at hg4
        simp only [Option.bind_some,Option.map_some] at hg4
        split at hg4
        ·have z1:=(listP_size _ _ _ _ _ _ _ _ hg4).1
         obtain ⟨_,_,_,_,_,⟨xx,_,z3⟩,_⟩:=listP_ls _ _ _ _ _ _ _ _ hg4
         have z4:=sub_len z3
         try simp only at z1 z4
         omega
        ·cases hg4
      refine IH k (by omega) σ5 _ (d + 1) so3 (by omega) hR5 b3 fun n2 e2 so4 σ6 hg6 hn3 hn4 hR6 hK6=>?_
      rw [hF] at hg6
      have hz6:=(hK6.obj σ2.no hno5 hox).trans hz5
      have hK6':=hK5.trans hK6
      have hG6:=hG5.keep hK6
      have g6:=hG6.one
      simp [a0,a1,hz6,splice,g6]
      refine grow_Q (row:=(nestP 13 n n2).av) (hG6.other hxo) (hR6.other hxo) (hK6'.other hnoσ hxo) hσ (by simp [W.av,W.cs]) (by simp; omega) fun v' τ' e1 e2' e3 _ _ _=>?_
      simp
      refine close (nestP 13 n n2) so4 σ6 _ v' τ' ?_ (by simp [a0]) (by simp [a1]) (by simp) e1 e2' e3
      rw [hW]
      cases so2 with
      | none =>
       cases so3 with
       | none =>
        cases so4 with
        | none=>rfl
        | some s4=>cases hg6
       | some s3=>cases hg4
      | some s2 =>
       simp only [Option.bind_some,Option.map_some] at hg4 ⊢
       rw [hg4]
       cases so3 with
       | none =>
        cases so4 with
        | none=>rfl
        | some s4=>cases hg6
       | some s3 =>
        simp only [Option.bind_some,Option.map_some] at hg6 ⊢
        rw [if_pos (show endC true = 5 from rfl),hg6]
        cases so4 <;> rfl
    ·have c4' : ¬ (c.toNat : Int) = 4:=by omega
     simp [a0,a1,c4',hz4,splice,g4]
     have hRo:=hR4.other hxo (cs:=[AV.int .i64 ((c.toNat : Int) + 9),.int .i64 0,.int .i64 0,.int .i64 n,.int .i64 0,.str []])
     refine grow_Q (row:=(nestP ((c.toNat : Int) + 9) n 0).av) (hG4.other hxo) hRo (hK4'.other hnoσ hxo) hσ (by simp [W.av,W.cs]) (by simp; omega) fun v' τ' e1 e2 e3 _ _ _=>?_
     simp
     refine close (nestP ((c.toNat : Int) + 9) n 0) so3 σ4 _ v' τ' ?_ (by simp [a0]) (by simp [a1]) (by simp) e1 e2 e3
     rw [hW]
     have : ∀ p : UInt8 × Rs,((F p.2).bind fun q=>if c.toNat = 4 then (if q.1.2 = 5 then (F q.2).map fun r=>(nestP 13 q.1.1 r.1.1,r.2) else some (nestP 13 q.1.1 (-1),q.2)) else some (nestP ((c.toNat : Int) + 9) q.1.1 0,q.2)) = (F p.2).map fun q=>(nestP ((c.toNat : Int) + 9) q.1.1 0,q.2):=fun p=>by
      simp only [if_neg c4]
      cases F p.2 <;> rfl
     simp only [this]
     cases so2 with
     | none =>
      cases so3 with
      | none=>rfl
      | some s3=>cases hg4
     | some s2 =>
      simp only [Option.bind_some,Option.map_some] at hg4 ⊢
      rw [hg4]
      cases so3 <;> rfl
end
end Go.Proofs.YthejpoplbllcbaaGreatDoor
set_option linter.unusedSimpArgs false
set_option linter.unusedVariables false
namespace Go.Proofs.YthejpoplbllcbaaGreatDoor
open Go Go.Abs
theorem RSt.base_le {base β x b so σ} (h : RSt base β x b so σ) : base ≤ σ.nf := by obtain ⟨_,_,_,_,_,h,_⟩ := h; exact h.hb.2
theorem list_okQ {G : Env} {base β x b} : ∀ k j : Nat,j ≤ k → ListQ G base β x b j
 | k,j,hj=>by
  have IH : ∀ i,i < j → ListQ G base β x b i:=fun i hi=>list_okQ (k - 1) i (by omega)
  intro σ R d so hd h hb hs
  refine Al.merging (calls103 rfl ?_)
  have hl:=h.left
  by_cases h4 : 400 < d
  ·have h4' : (400 : Int) < (d : Int):=by omega
   obtain ⟨bv,at_,lv,many,ho,z1,z2,z3,z4,hR,hK⟩:=h.cells
   simp [pc103,h4',ho,splice]
   refine aloop (LsQ base β x b d j so σ) (MBq x) ⟨j,[],none,?_,Nat.le_refl _,(fun s q=>by cases q),by simp [leftQ],by simp,by simp,.inl ⟨rfl,by simp⟩,hR,hK.r,fun _=>rfl⟩ fun a τ hI=>?_
   ·cases so with
    | none=>rfl
    | some s=>simp; omega
   ·exact list_round hd h.base_le IH hs hI
  ·have h4' : ¬ (400 : Int) < (d : Int):=by omega
   simp [pc103,h4']
   refine aloop (LsQ base β x b d j so σ) (MBq x) ⟨j,[],so,?_,Nat.le_refl _,hb,by simp; omega,by simp,by simp,.inl ⟨rfl,by simp⟩,h,.refl ..,fun q=>by omega⟩ fun a τ hI=>?_
   ·cases so with
    | none=>rfl
    | some s=>simp; omega
   ·exact list_round hd h.base_le IH hs hI
termination_by k j => j
end Go.Proofs.YthejpoplbllcbaaGreatDoor
set_option linter.unusedSimpArgs false
set_option linter.unusedVariables false
namespace Go.Proofs.YthejpoplbllcbaaGreatDoor
open Go Go.Abs
structure KeepC (x : Nat) (σ σ' : AS) : Prop where
 no : σ.no ≤ σ'.no
 nf : σ.nf ≤ σ'.nf
 obj : ∀ o,o < σ.no → o ≠ x → σ'.objs o = σ.objs o
 fam : ∀ f,f < σ.nf → σ'.F f = σ.F f
theorem KeepC.trans {x σ σ1 σ2} (h : KeepC x σ σ1) (h' : KeepC x σ1 σ2) : KeepC x σ σ2 where
 no:=Nat.le_trans h.no h'.no
 nf:=Nat.le_trans h.nf h'.nf
 obj o a b:=by rw [h'.obj o (Nat.lt_of_lt_of_le a h.no) b,h.obj o a b]
 fam f a:=by rw [h'.fam f (Nat.lt_of_lt_of_le a h.nf),h.fam f a]
theorem KeepP.c {x σ σ'} (h : KeepP x σ σ') : KeepC x σ σ' := ⟨h.no,h.nf,h.obj,h.fam⟩
theorem Adds.keepC {x σ σ'} (h : Adds σ σ') : KeepC x σ σ' := ⟨h.no,h.nf,fun o a _ => h.obj o a,h.fam⟩
theorem KeepQ.c {x σ σ'} (h : KeepQ x σ σ') (hu : ∀ f,¬ UsesQ σ x f) : KeepC x σ σ' := ⟨h.no,h.nf,h.obj,fun f a => h.fam f a (hu f)⟩
theorem KeepC.setO {x σ τ o cs} (h : KeepC x σ τ) (ho : o = x ∨ σ.no ≤ o) : KeepC x σ (τ.setO o cs) where
 no:=h.no
 nf:=h.nf
 obj p a b:=by
  have : ¬ p = o:=by rcases ho with h | h <;> omega
  simp [this]
  exact h.obj p a b
 fam:=h.fam
theorem Rd.keepF {σ σ' : AS} {φ : Go.Abs.Own} (h : Al.Rd σ φ) (hn : σ.nf ≤ σ'.nf) (hF : ∀ f,f < σ.nf → σ'.F f = σ.F f) : Al.Rd σ' φ := by
 cases φ with
 | stat b=>exact trivial
 | fam f b =>
  obtain ⟨h1,h2⟩:=h
  exact ⟨by omega,(hF f h1).trans h2⟩
theorem IntsO.keepF {σ σ' : AS} {v l} (h : Al.IntsO σ v l) (hn : σ.nf ≤ σ'.nf) (hF : ∀ f,f < σ.nf → σ'.F f = σ.F f) : Al.IntsO σ' v l := by
 rcases h with h | ⟨φ,h1,h2⟩
 ·exact .inl h
 ·exact .inr ⟨φ,h1,Rd.keepF h2 hn hF⟩
theorem RepO.keepF {σ σ' : AS} {v l} (h : Al.RepO σ v l) (hn : σ.nf ≤ σ'.nf) (hF : ∀ f,f < σ.nf → σ'.F f = σ.F f) : Al.RepO σ' v l := by
 rcases h with h | ⟨φ,h1,h2⟩
 ·exact .inl h
 ·exact .inr ⟨φ,h1,Rd.keepF h2 hn hF⟩
theorem LstO.keepF {σ σ' : AS} {v l} (h : Al.LstO σ v l) (hn : σ.nf ≤ σ'.nf) (hF : ∀ f,f < σ.nf → σ'.F f = σ.F f) : Al.LstO σ' v l := by
 rcases h with h | ⟨φ,rows,h1,h2,h3⟩
 ·exact .inl h
 ·exact .inr ⟨φ,rows,h1,Rd.keepF h2 hn hF,Al.all2_mono h3 fun _ _ q=>RepO.keepF q hn hF⟩
theorem FVO.keepF {σ σ' : AS} {v f} (h : Al.FVO σ v f) (hn : σ.nf ≤ σ'.nf) (hF : ∀ f,f < σ.nf → σ'.F f = σ.F f) : Al.FVO σ' v f := by
 obtain ⟨pv,lv,tv,e,h1,h2,h3⟩:=h
 exact ⟨pv,lv,tv,e,IntsO.keepF h1 hn hF,IntsO.keepF h2 hn hF,LstO.keepF h3 hn hF⟩
theorem RSt.opn {base β x b so σ} (h : RSt base β x b so σ) : ∃ (bv : AV) (at_ : Nat) (lv : AV) (many : Int) (ls : To),σ.objs x = some [bv,.int .i64 (at_ : Int),.bool so.isNone,lv,.int .i64 many] ∧ (bv.known = true ∧ bv.one = true ∧ bv.cells = [bv]) ∧ (lv.known = true ∧ lv.one = true ∧ lv.cells = [lv]) ∧ ToR base σ lv ls ∧ 0 ≤ many ∧ many ≤ 2 ^ 20 ∧
  (∀ s,so = some s → many = (s.n : Int) ∧ s.ls = ls ∧ s.b = b.drop at_) ∧ BV β bv b ∧ at_ ≤ b.length ∧ b.length ≤ 2 ^ 14:=by
 obtain ⟨at_,bad,lv,many,ls,h,ht,hm⟩:=h
 obtain ⟨bv,ho,hv⟩:=h.cells
 have e : bad = so.isNone:=by
  cases so with
  | none=>exact hm.1
  | some s=>exact hm.1
 subst e
 refine ⟨bv,at_,lv,many,ls,ho,hv.one,h.lo,ht,?_,?_,?_,hv,h.le,h.hl⟩
 ·cases so with
  | none=>exact hm.2.1
  | some s=>obtain ⟨_,_,m3,_,_⟩:=hm; omega
 ·cases so with
  | none=>exact hm.2.2
  | some s=>obtain ⟨_,_,m3,m4,_⟩:=hm; omega
 ·rintro s rfl
  exact ⟨hm.2.2.1,hm.2.2.2.2,hm.2.1⟩
theorem RSt.put {base β x b so σ bv lv} {at_ : Nat} {many : Int} (h : RSt base β x b so σ) (ho : σ.objs x = some [bv,.int .i64 (at_ : Int),.bool so.isNone,lv,.int .i64 many]) (m' : Nat) (hm' : m' ≤ 2 ^ 20) :
  RSt base β x b (so.map fun s=>{ s with n:=m' }) (σ.setO x [bv,.int .i64 (at_ : Int),.bool so.isNone,lv,.int .i64 (m' : Int)]) ∧ KeepP x σ (σ.setO x [bv,.int .i64 (at_ : Int),.bool so.isNone,lv,.int .i64 (m' : Int)]):=by
 obtain ⟨at1,bad,lv1,many1,ls,h,ht,hm⟩:=h
 obtain ⟨bv1,ho1,hv⟩:=h.cells
 have e : bad = so.isNone:=by
  cases so with
  | none=>exact hm.1
  | some s=>exact hm.1
 subst e
 rw [ho1] at ho
 simp only [Option.some.injEq,List.cons.injEq,AV.int.injEq,true_and,and_true] at ho
 obtain ⟨rfl,e2,rfl,rfl⟩:=ho
 have e2 : at1 = at_:=by omega
 subst e2
 refine ⟨⟨at1,so.isNone,lv1,m',ls,h.set hv h.le h.lo,ht.keepF (Nat.le_refl _) fun _ _=>rfl,?_⟩,.set ho1 rfl⟩
 cases so with
 | none=>exact ⟨rfl,by omega,by omega⟩
 | some s=>exact ⟨rfl,hm.2.1,rfl,hm',hm.2.2.2.2⟩
theorem RSt.clear {base β x b so σ bv lv} {at_ : Nat} {many : Int} (h : RSt base β x b so σ) (ho : σ.objs x = some [bv,.int .i64 (at_ : Int),.bool so.isNone,lv,.int .i64 many]) :
  RSt base β x b (so.map fun s=>{ s with ls:=[] }) (σ.setO x [bv,.int .i64 (at_ : Int),.bool so.isNone,.nilsl,.int .i64 many]) ∧ (∀ f,¬ UsesQ (σ.setO x [bv,.int .i64 (at_ : Int),.bool so.isNone,.nilsl,.int .i64 many]) x f):=by
 obtain ⟨at1,bad,lv1,many1,ls,h,ht,hm⟩:=h
 obtain ⟨bv1,ho1,hv⟩:=h.cells
 have e : bad = so.isNone:=by
  cases so with
  | none=>exact hm.1
  | some s=>exact hm.1
 subst e
 rw [ho1] at ho
 simp only [Option.some.injEq,List.cons.injEq,AV.int.injEq,true_and,and_true] at ho
 obtain ⟨rfl,e2,rfl,rfl⟩:=ho
 have e2 : at1 = at_:=by omega
 subst e2
 refine ⟨⟨at1,so.isNone,.nilsl,many1,[],h.set hv h.le (by simp),.inl ⟨rfl,rfl⟩,?_⟩,fun f u=>?_⟩
 ·cases so with
  | none=>exact hm
  | some s=>exact ⟨rfl,hm.2.1,hm.2.2.1,hm.2.2.2.1,rfl⟩
 ·obtain ⟨cs,v,h1,h2,h3⟩:=u
  simp at h1
  subst h1
  simp at h2
  subst h2
  cases h3
theorem RSt.others {base β x b so σ} (h : RSt base β x b so σ) : (0 < σ.nf ∧ σ.F 0 = .alive) ∧ 0 < base ∧ base ≤ σ.nf := by
 obtain ⟨at1,bad,lv1,many1,ls,h,ht,hm⟩:=h
 exact ⟨⟨by have:=h.hb; omega,h.h0⟩,h.hb⟩
def ManyQ (σ : AS) (x : Nat) (m : Int) : Prop := ∃ cs,σ.objs x = some cs ∧ cs[4]? = some (.int .i64 m)
theorem ManyQ.uniq {σ x m m'} (h : ManyQ σ x m) (h' : ManyQ σ x m') : m = m' := by
 obtain ⟨cs,h1,h2⟩:=h
 obtain ⟨cs',h3,h4⟩:=h'
 rw [h1] at h3
 cases h3
 rw [h2] at h4
 simpa using h4
theorem ManyQ.set {σ : AS} {x m} {cs : List AV} (h : cs[4]? = some (.int .i64 m)) : ManyQ (σ.setO x cs) x m := ⟨cs,by simp,h⟩
theorem Rq.many {base β x b at_ bad lv many σ} (h : Rq base β x b at_ bad lv many σ) : ManyQ σ x many := by
 obtain ⟨bv,ho,_⟩:=h.cells
 exact ⟨_,ho,rfl⟩
section
variable {G : Env} {σ : AS} {R : Out → AS → Prop}
theorem next_M {base β x b so m} (h : RSt base β x b so σ) (hm0 : ManyQ σ x m) (hs : ∀ (c : UInt8) so' σ',GotQ so byteP c so' → RSt base β x b so' σ' → KeepP x σ σ' → ManyQ σ' x m → R (.ret (.int .i64 (c.toNat : Int))) σ') : ACalls Tryz.prog G 73 [.ptr x 0] σ R := by
 obtain ⟨at_,bad,lv,many,ls,h,ht,hm⟩:=h
 have e:=hm0.uniq h.many
 subst e
 refine next_calls h (fun c hc σ' hR hK=>?_) (fun hc σ' hR hK=>?_)
 ·cases so with
  | none=>exact hs c none σ' rfl ⟨_,_,_,_,ls,hR,ht.keepF hK.nf fun f hf=>hK.fam f hf,hm⟩ hK hR.many
  | some s =>
   obtain ⟨m1,m2,m3,m4,m5⟩:=hm
   obtain ⟨hlt,hc'⟩:=List.getElem?_eq_some_iff.1 hc
   have hd : s.b = c :: b.drop (at_ + 1):=by rw [m2,List.drop_eq_getElem_cons hlt,hc']
   refine hs c (some { s with b:=b.drop (at_ + 1) }) σ' ?_ ⟨_,_,_,_,ls,hR,ht.keepF hK.nf fun f hf=>hK.fam f hf,m1,rfl,m3,m4,m5⟩ hK hR.many
   unfold GotQ
   simp only [Option.bind_some,Option.map_some]
   unfold byteP
   rw [hd]
 ·cases so with
  | none=>exact hs 0 none σ' rfl ⟨_,_,_,_,ls,hR,ht.keepF hK.nf fun f hf=>hK.fam f hf,rfl,hm.2⟩ hK hR.many
  | some s =>
   obtain ⟨m1,m2,m3,m4,m5⟩:=hm
   have hd : s.b = []:=by
    rw [m2]
    refine List.drop_eq_nil_of_le ?_
    by_cases q : at_ < b.length
    ·rw [List.getElem?_eq_getElem q] at hc; cases hc
    ·omega
   refine hs 0 none σ' ?_ ⟨_,_,_,_,ls,hR,ht.keepF hK.nf fun f hf=>hK.fam f hf,rfl,by omega,by omega⟩ hK hR.many
   unfold GotQ
   simp only [Option.bind_some,Option.map_none]
   unfold byteP
   rw [hd]
theorem kind_M {base β x b so m} (h : RSt base β x b so σ) (hm0 : ManyQ σ x m) (hs : ∀ (n : Int) so' σ',GotQ so (typeP true) n so' → (n = 1 ∨ n = 2) → RSt base β x b so' σ' → KeepP x σ σ' → ManyQ σ' x m → R (.ret (.int .i64 n)) σ') : ACalls Tryz.prog G 102 [.ptr x 0] σ R := by
 refine calls102 rfl ?_
 simp [pc102]
 refine next_M h hm0 fun c so' σ1 hg h1 hK hm1=>?_
 have gN : so.bind (typeP true) = (so.bind byteP).bind fun p=>if p.1 ≠ 126 ∧ p.1 ≠ 127 then none else some (128 - (p.1.toNat : Int),p.2):=by
  cases so with
  | none=>rfl
  | some s =>
   simp only [Option.bind_some]
   unfold typeP
   simp
 rw [show so.bind byteP = _ from hg] at gN
 obtain ⟨bv,at_,lv,many,ho,b1,b2,b3,b4,hR,hK2⟩:=h1.cells
 have e : m = many:=hm1.uniq ⟨_,ho,rfl⟩
 subst e
 by_cases c1 : c = 126
 ·subst c1
  simp
  refine hs 2 so' σ1 ?_ (.inr rfl) h1 hK hm1
  unfold GotQ
  rw [gN]
  cases so' <;> rfl
 ·have c1' : ¬ (c.toNat : Int) = 126:=fun q=>c1 (UInt8.toNat_inj.1 (by show c.toNat = 126; omega))
  by_cases c2 : c = 127
  ·subst c2
   simp
   refine hs 1 so' σ1 ?_ (.inl rfl) h1 hK hm1
   unfold GotQ
   rw [gN]
   cases so' <;> rfl
  ·have c2' : ¬ (c.toNat : Int) = 127:=fun q=>c2 (UInt8.toNat_inj.1 (by show c.toNat = 127; omega))
   simp [c1',c2',ho,splice]
   refine hs 1 none _ ?_ (.inl rfl) hR (hK.trans hK2) (.set rfl)
   unfold GotQ
   rw [gN]
   cases so' with
   | none=>rfl
   | some s=>simp [c1,c2]
end
def manyM (k : Nat) (n : Int) : Nat := min (k + min n.toNat (2 ^ 20)) (2 ^ 20)
theorem typeP_n {st : Bool} {s s' : Rs} {t : Int} (h : typeP st s = some (t,s')) : s'.n = s.n ∧ s'.ls = s.ls := by
 unfold typeP at h
 simp only [Option.bind_eq_some_iff] at h
 obtain ⟨⟨c,s1⟩,h1,h2⟩:=h
 obtain ⟨_,a,b⟩:=byteP_some h1
 split at h2
 ·cases h2
 ·cases h2
  exact ⟨b,a⟩
theorem group_step {so so2 so3 : Option Rs} {n t : Int} (h1 : GotQ so (numP true false) n so2) (hn : 0 ≤ n) (h2 : GotQ (so2.map fun s => { s with n := manyM s.n n }) (typeP true) t so3) :
  (∀ s3,so3 = some s3 → 65536 < s3.n → so.bind (groupP true) = none) ∧ (so3 = none → so.bind (groupP true) = none) ∧ (∀ s3,so3 = some s3 → s3.n ≤ 65536 → (∃ s,so = some s ∧ s3.n = s.n + n.toNat ∧ n ≤ 65536) ∧ so.bind (groupP true) = some (List.replicate n.toNat t,s3)):=by
 cases so with
 | none =>
  cases so2 with
  | some s2=>cases h1
  | none =>
   cases so3 with
   | some s3=>cases h2
   | none=>exact ⟨fun _ q=>(by cases q),fun _=>rfl,fun _ q=>(by cases q)⟩
 | some s =>
  have h1' : numP true false s = so2.map fun s=>(n,s):=h1
  have hg : groupP true s = (so2.map fun s=>(n,s)).bind fun p=>if 0 ≤ p.1 ∧ p.1 ≤ 65536 - (p.2.n : Int) then (typeP true { p.2 with n:=p.2.n + p.1.toNat }).map fun q=>(List.replicate p.1.toNat q.1,q.2) else none:=by
   unfold groupP
   rw [h1']
  simp only [Option.bind_some]
  cases so2 with
  | none =>
   cases so3 with
   | some s3=>cases h2
   | none=>exact ⟨fun _ q=>(by cases q),fun _=>by rw [hg]; rfl,fun _ q=>(by cases q)⟩
  | some s2 =>
   have h2' : typeP true { s2 with n:=manyM s2.n n } = so3.map fun s=>(t,s):=h2
   have hsn : s2.n = s.n:=(numP_some h1').2.2.1
   simp only [Option.map_some,Option.bind_some] at hg
   by_cases hc : n ≤ 65536 - (s2.n : Int)
   ·have hm : manyM s2.n n = s2.n + n.toNat:=by unfold manyM; omega
    rw [if_pos ⟨hn,hc⟩,← hm,h2'] at hg
    rw [hg]
    refine ⟨fun s3 q q2=>?_,fun q=>by rw [q]; rfl,fun s3 q q2=>⟨⟨s,rfl,?_,by omega⟩,by rw [q]; rfl⟩⟩
    ·subst q
     have:=(typeP_n h2').1
     simp only at this
     omega
    ·subst q
     have:=(typeP_n h2').1
     simp only at this
     omega
   ·rw [if_neg (fun q=>hc q.2)] at hg
    rw [hg]
    refine ⟨fun _ _ _=>rfl,fun _=>rfl,fun s3 q q2=>?_⟩
    subst q
    have:=(typeP_n h2').1
    simp only at this
    unfold manyM at this
    omega
end Go.Proofs.YthejpoplbllcbaaGreatDoor
set_option linter.unusedSimpArgs false
set_option linter.unusedVariables false
namespace Go.Proofs.YthejpoplbllcbaaGreatDoor
open Go Go.Abs
theorem GrowQ.ints {σ0 x τ v l} (h : GrowQ σ0 x 1 τ v (l.map (.int .i64))) : Al.IntsO τ v l := by
 rcases h.at with ⟨h1,h2⟩ | ⟨φ,h1,h2⟩
 ·exact .inl ⟨by simpa using h2,h1⟩
 ·exact .inr ⟨φ,h1,h2⟩
theorem ToR.lst {base σ v l} (h0 : 0 < σ.nf ∧ σ.F 0 = .alive) (h : ToR base σ v l) : Al.LstO σ v l := by
 rcases h with h | ⟨g,tos,h1,h2,h3,h4,h5⟩
 ·exact .inl h
 ·exact .inr ⟨_,tos,h1,⟨h3,h4⟩,Al.all2_mono h5 fun _ _ q=>Al.rep_e h0 q⟩
structure CoQ (base : Nat) (β : Option Nat) (x : Nat) (b : List UInt8) (f : F) (pv : AV) (σ : AS) (lv : AV) (L : List Int) (so : Option Rs) (τ : AS) : Prop where
 ob : τ.objs σ.no = some [.str f.name,pv,lv,.int .i64 f.type,.nilsl]
 rb : τ.objs (σ.no + 1) = some [.str [],.nilsl,.nilsl,.int .i64 0,.nilsl]
 lt : σ.no + 2 ≤ τ.no
 gr : GrowQ σ x 1 τ lv (L.map (.int .i64))
 rs : RSt base β x b so τ
 kp : KeepP x σ τ
 hx : x < σ.no
 pv1 : pv.known = true ∧ pv.one = true ∧ pv.cells = [pv]
theorem CoQ.keep {base β x b f pv σ lv L so so' τ τ'} (h : CoQ base β x b f pv σ lv L so τ) (K : KeepP x τ τ') (h' : RSt base β x b so' τ') : CoQ base β x b f pv σ lv L so' τ' := by
 have hx:=h.hx
 have hl:=h.lt
 exact ⟨(K.obj _ (by omega) (by omega)).trans h.ob,(K.obj _ (by omega) (by omega)).trans h.rb,Nat.le_trans hl K.no,h.gr.keep K.r,h',h.kp.trans K,hx,h.pv1⟩
section
variable {G : Env} {σ : AS} {R : Out → AS → Prop}
theorem code_end {base β x b f pv lv L so τ} {a : Nat → AV} (a0 : a 0 = .ptr x 0) (a3 : a 3 = .ptr σ.no 0) (a4 : a 4 = .ptr (σ.no + 1) 0) (hC : CoQ base β x b f pv σ lv L so τ)
  (hs : ∀ (n : Int) (e : Bool) so2 σ' tv ls,(so.bind fun s=>listP true (s.b.length + 1) 0 [] { s with ls:=[] }) = so2.map (fun s'=>((n,endC e),s')) → Al.IntsO σ' lv L → Al.LstO σ' tv ls → (∀ s,so2 = some s → s.ls = ls) → RSt base β x b so2 σ' → KeepC x σ σ' → R (.ret (.agg [.str f.name,pv,lv,.int .i64 f.type,tv])) σ') :
  avc Tryz.prog G 72 pc75_r2 (afin Tryz.prog [.cell 4 59] R) a τ:=by
 obtain ⟨bv,at_,lsv,many,ls0,ho,b1,l1,hto,m1,m2,hm,hbv,hle,hbl⟩:=hC.rs.opn
 obtain ⟨hR1,hu⟩:=hC.rs.clear ho
 have hx:=hC.hx
 have hlt:=hC.lt
 have hxo : ¬ x = σ.no:=by omega
 have hox : ¬ σ.no = x:=by omega
 have hox1 : ¬ σ.no + 1 = x:=by omega
 have p1:=hC.pv1
 have g1:=hC.gr.one
 simp [pc75_r2,a0,ho,b1,splice]
 have hK1 : KeepC x σ (τ.setO x [bv,.int .i64 (at_ : Int),.bool so.isNone,.nilsl,.int .i64 many]):=hC.kp.c.setO (.inl rfl)
 have hG1 : GrowQ σ x 1 (τ.setO x [bv,.int .i64 (at_ : Int),.bool so.isNone,.nilsl,.int .i64 many]) lv (L.map (.int .i64)):=by
  rcases hC.gr with h | ⟨g,q1,q2,q3,q4,q5⟩
  ·exact .inl h
  ·exact .inr ⟨g,q1,q2,q3,q4,hu g⟩
 have hob1 : (τ.setO x [bv,.int .i64 (at_ : Int),.bool so.isNone,.nilsl,.int .i64 many]).objs σ.no = some [.str f.name,pv,lv,.int .i64 f.type,.nilsl]:=by simp [hox,hC.ob]
 have hrb1 : (τ.setO x [bv,.int .i64 (at_ : Int),.bool so.isNone,.nilsl,.int .i64 many]).objs (σ.no + 1) = some [.str [],.nilsl,.nilsl,.int .i64 0,.nilsl]:=by simp [hox1,hC.rb]
 have hn1 : (τ.setO x [bv,.int .i64 (at_ : Int),.bool so.isNone,.nilsl,.int .i64 many]).no = τ.no:=by simp
 generalize τ.setO x [bv,.int .i64 (at_ : Int),.bool so.isNone,.nilsl,.int .i64 many] = τ1 at *
 obtain ⟨j,hj⟩ : ∃ j,∀ s,so = some s → j = s.b.length + 1:=by
  cases so with
  | none=>exact ⟨0,fun s q=>by cases q⟩
  | some s=>exact ⟨s.b.length + 1,fun s' q=>by cases q; rfl⟩
 show ACalls Tryz.prog G 103 [.ptr x 0,.int .i64 ((0 : Nat) : Int)] _ _
 refine list_okQ j j (Nat.le_refl _) τ1 _ 0 (so.map fun s=>{ s with ls:=[] }) (by omega) hR1 (fun s q=>?_) fun n e so2 σ2 hg hn1' hn2 hR2 hK2=>?_
 ·rw [Option.map_eq_some_iff] at q
  obtain ⟨s0,rfl,rfl⟩:=q
  have:=hj s0 rfl
  have hbb:=(hm s0 rfl).2.2
  have : s0.b.length ≤ b.length:=by rw [hbb]; simp
  simp only [List.length_nil]
  omega
 ·have hKC:=hK2.c hu
  have hob2:=(hKC.obj σ.no (by omega) hox).trans hob1
  have hrb2:=(hKC.obj (σ.no + 1) (by omega) hox1).trans hrb1
  obtain ⟨bv2,at2,lsv2,many2,ls2,ho2,b2,l2,hto2,_,_,hm2,_⟩:=hR2.opn
  have hnn:=hKC.no
  have h00:=hR2.others.1
  have i2:=(hG1.keep hK2).ints
  have hne : ¬ σ.no = σ.no + 1:=by omega
  simp [a0,a3,a4,ho2,hob2,hrb2,l2,p1,g1,splice,hne]
  refine hs n e so2 _ lsv2 ls2 ?_ (IntsO.keepF (σ:=σ2) i2 (Nat.le_refl _) fun _ _=>rfl) (LstO.keepF (σ:=σ2) (ToR.lst h00 hto2) (Nat.le_refl _) fun _ _=>rfl) (fun s q=>(hm2 s q).2.1) (hR2.other hxo |>.other (by omega)) (((hK1.trans hKC).setO (.inr (by omega))).setO (.inr (by omega)))
  rw [← hg]
  cases so with
  | none=>rfl
  | some s =>
   have:=hj s rfl
   subst this
   simp
def GpQ (base : Nat) (β : Option Nat) (x : Nat) (b : List UInt8) (f : F) (pv : AV) (N : Int) (so1 : Option Rs) (σ : AS) (a : Nat → AV) (τ : AS) : Prop := ∃ (i : Nat) (so' : Option Rs) (done : List (List Int)) (lv : AV),(i : Int) ≤ N ∧ so1.bind (repP (groupP true) N.toNat) = so'.bind (fun s => (repP (groupP true) (N.toNat - i) s).map fun q => (done ++ q.1,q.2)) ∧ done.flatten.length ≤ 2 ^ 21 ∧ (∀ s,so' = some s → done.flatten.length ≤ s.n) ∧
 a 0 = .ptr x 0 ∧ a 3 = .ptr σ.no 0 ∧ a 4 = .ptr (σ.no + 1) 0 ∧ a 5 = .int .i64 N ∧ a 6 = .int .i64 (i : Int) ∧ CoQ base β x b f pv σ lv done.flatten so' τ
def GiQ (base : Nat) (β : Option Nat) (x : Nat) (b : List UInt8) (f : F) (pv : AV) (N n t : Int) (i : Nat) (L : List Int) (so : Option Rs) (σ : AS) (a : Nat → AV) (τ : AS) : Prop := ∃ (k : Nat) (lv : AV),(k : Int) ≤ n ∧
 a 0 = .ptr x 0 ∧ a 3 = .ptr σ.no 0 ∧ a 4 = .ptr (σ.no + 1) 0 ∧ a 5 = .int .i64 N ∧ a 6 = .int .i64 (i : Int) ∧ a 7 = .int .i64 n ∧ a 8 = .int .i64 t ∧ a 9 = .int .i64 (k : Int) ∧ CoQ base β x b f pv σ lv (L ++ List.replicate k t) so τ
theorem group_round {base β x b} {f : F} {pv : AV} {N : Int} {so1 : Option Rs} (hN : N < 2 ^ 63) (hb0 : base ≤ σ.nf)
  (fin : ∀ a τ lv done so',a 0 = .ptr x 0 → a 3 = .ptr σ.no 0 → a 4 = .ptr (σ.no + 1) 0 → CoQ base β x b f pv σ lv done.flatten so' τ → so1.bind (repP (groupP true) N.toNat) = so'.map (fun s=>(done,s)) → avc Tryz.prog G 72 pc75_r2 (afin Tryz.prog [.cell 4 59] R) a τ)
  (bad : ∀ σ' lv L,so1.bind (repP (groupP true) N.toNat) = none → Al.IntsO σ' lv L → RSt base β x b none σ' → KeepC x σ σ' → R (.ret (.agg [.str f.name,pv,lv,.int .i64 f.type,.nilsl])) σ')
  {a : Nat → AV} {τ : AS} (hI : GpQ base β x b f pv N so1 σ a τ) : avc Tryz.prog G 72 pc75_l2 (athen (fun a' σ'=>GpQ base β x b f pv N so1 σ a' σ' ∧ MU 6 (N.toNat + 1) a' σ' < MU 6 (N.toNat + 1) a τ) (ablock 0 (athen (avc Tryz.prog G 72 pc75_r2 (afin Tryz.prog [.cell 4 59] R)) (afin Tryz.prog [.cell 4 59] R)))) a τ:=by
 obtain ⟨i,so',done,lv,hi,he,hl,hln,a0,a3,a4,a5,a6,hC⟩:=hI
 obtain ⟨bv,at_,lsv,many,ls,ho,b1,l1,hto,m1,m2,hm,hbv,hle,hbl⟩:=hC.rs.opn
 have hx:=hC.hx
 have p1:=hC.pv1
 by_cases hlt : (i : Int) < N
 ·cases so' with
  | none =>
   simp [pc75_l2,a0,a5,a6,hlt,ho]
   exact fin _ _ lv done none (by simp [a0]) (by simp [a3]) (by simp [a4]) hC (by rw [he]; rfl)
  | some s =>
   simp [pc75_l2,a0,a5,a6,hlt,ho]
   refine number_S hC.rs fun n so2 τ2 hg2 hn1 hn2 hn3 hR2 hK2=>?_
   have hC2:=hC.keep hK2 hR2
   have hn0:=hn3 rfl
   obtain ⟨bv2,at2,lsv2,many2,ls2,ho2,b2,l2,hto2,m3,m4,hm2,hbv2,hle2,hbl2⟩:=hR2.opn
   have w1 : IntKind.wrap .i64 (many2 + min n 1048576) = many2 + min n 1048576:=by rw [wrap_i64] <;> omega
   have w2 : min (many2 + min n 1048576) 1048576 = ((manyM many2.toNat n : Nat) : Int):=by unfold manyM; omega
   obtain ⟨hR3,hK3⟩:=hR2.put ho2 (manyM many2.toNat n) (by unfold manyM; omega)
   simp [a0,ho2,b2,l2,w1,w2,splice]
   have hm4 : ManyQ (τ2.setO x [bv2,.int .i64 (at2 : Int),.bool so2.isNone,lsv2,.int .i64 (manyM many2.toNat n : Int)]) x (manyM many2.toNat n):=.set rfl
   generalize hMM : manyM many2.toNat n = mm at *
   generalize τ2.setO x [bv2,.int .i64 (at2 : Int),.bool so2.isNone,lsv2,.int .i64 (mm : Int)] = τ3 at *
   have hC3:=hC2.keep hK3 hR3
   refine kind_M hR3 hm4 fun t so3 τ4 hg4 ht hR4 hK4 hm4'=>?_
   have hC4:=hC3.keep hK4 hR4
   obtain ⟨bv4,at4,lsv4,many4,ho4,b41,b42,l41,l42,hRb,hKb⟩:=hR4.cells
   have e4 : many4 = (mm : Int):=ManyQ.uniq ⟨_,ho4,rfl⟩ hm4'
   subst e4
   have hq : GotQ (so2.map fun s=>{ s with n:=manyM s.n n }) (typeP true) t so3:=by
    have : (so2.map fun s=>{ s with n:=manyM s.n n }) = so2.map fun s=>{ s with n:=mm }:=by
     cases so2 with
     | none=>rfl
     | some s2=>simp [← hMM,(hm2 s2 rfl).1]
    rw [this]
    exact hg4
   obtain ⟨g1,g2,g3⟩:=group_step hg2 hn0 hq
   have hmn : ∀ s3,so3 = some s3 → s3.n = mm:=fun s3 e=>by
    obtain ⟨_,_,_,_,_,ho5,_,_,_,_,_,hm5,_⟩:=hR4.opn
    rw [ho4] at ho5
    have:=(hm5 s3 e).1
    simp at ho5
    omega
   have hob4:=hC4.ob
   have hrb4:=hC4.rb
   have hgr4:=hC4.gr.one
   have hlt4:=hC4.lt
   have hox : ¬ σ.no = x:=by omega
   have hox1 : ¬ σ.no + 1 = x:=by omega
   have hxo : ¬ x = σ.no + 1:=by omega
   by_cases hbig : 65536 < mm
   ·have hbig' : (65536 : Int) < (mm : Int):=by omega
    simp [a0,a3,a4,ho4,hbig',b41,b42,l41,l42,splice,hob4,hrb4,hgr4,p1,hox,hox1]
    have hnone : (some s).bind (groupP true) = none:=by
     cases so3 with
     | none=>exact g2 rfl
     | some s3=>exact g1 s3 rfl (by rw [hmn s3 rfl]; exact hbig)
    refine bad _ lv done.flatten ?_ (IntsO.keepF (σ:=τ4) hC4.gr.ints (Nat.le_refl _) fun _ _=>rfl) (hRb.other hxo) ((hC4.kp.c.trans hKb.c).setO (.inr (by omega)))
    rw [he]
    simp only [Option.bind_some] at hnone ⊢
    rw [repP_none (by omega) hnone]
    rfl
   ·have hbig' : ¬ (65536 : Int) < (mm : Int):=by omega
    have hnle : n ≤ 65536:=by unfold manyM at hMM; omega
    simp [a0,ho4,hbig']
    refine aloop (GiQ base β x b f pv N n t i done.flatten so3 σ) (MU 9 (n.toNat + 1)) ⟨0,lv,by omega,by simp [a0],by simp [a3],by simp [a4],by simp [a5],by simp [a6],by simp,by simp,by simp,by simpa using hC4⟩ fun a' τ' hJ=>?_
    obtain ⟨k,lv',hk,c0,c3,c4,c5,c6,c7,c8,c9,hC'⟩:=hJ
    have hob':=hC'.ob
    have hgr':=hC'.gr.one
    by_cases hkn : (k : Int) < n
    ·have w9 : IntKind.wrap .i64 ((k : Int) + 1) = ((k + 1 : Nat) : Int):=by rw [wrap_i64] <;> omega
     simp [pc75_l1,c0,c3,c4,c5,c6,c7,c8,c9,hkn,hob',hgr']
     refine grow_Q (row:=.int .i64 t) hC'.gr hC'.rs hC'.kp.r hb0 (by simp) (by rw [List.length_map,List.length_append,List.length_replicate]; omega) fun v' τ6 e1 e2 e3 e4 e5 e6=>?_
     have v1:=e1.one
     have hob6:=(congrFun e4 σ.no).trans hob'
     simp [c3,c9,hob6,v1,splice,w9]
     refine ⟨⟨k + 1,v',by omega,by simp [c0],by simp [c3],by simp [c4],by simp [c5],by simp [c6],by simp [c7],by simp [c8],by simp,?_⟩,?_⟩
     ·have hne : ¬ σ.no + 1 = σ.no:=by omega
      have hxo' : ¬ x = σ.no:=by omega
      refine ⟨by simp,by simp [hne]; exact (congrFun e4 _).trans hC'.rb,by have:=hC'.lt; simp; omega,?_,e2.other hxo',(e6 hC'.kp).other (Nat.le_refl _) hxo',hx,p1⟩
      have:=e1.other hxo' (cs:=[.str f.name,pv,v',.int .i64 f.type,.nilsl])
      simpa [List.replicate_succ'] using this
     ·simp only [MU,c9]
      simp
      omega
    ·have hkn' : (k : Int) = n:=by omega
     have w6 : IntKind.wrap .i64 ((i : Int) + 1) = ((i + 1 : Nat) : Int):=by rw [wrap_i64] <;> omega
     simp [pc75_l1,pc75_r1,c6,c7,c9,hkn,w6]
     have hkn2 : k = n.toNat:=by omega
     refine ⟨⟨i + 1,so3,done ++ [List.replicate n.toNat t],lv',by omega,?_,?_,?_,by simp [c0],by simp [c3],by simp [c4],by simp [c5],by simp,?_⟩,?_⟩
     ·rw [he]
      simp only [Option.bind_some]
      have hgr : groupP true s = so3.map fun s3=>(List.replicate n.toNat t,s3):=by
       cases so3 with
       | none=>exact g2 rfl
       | some s3=>exact (g3 s3 rfl (by rw [hmn s3 rfl]; omega)).2
      have : N.toNat - i = (N.toNat - (i + 1)) + 1:=by omega
      rw [this,repP,hgr]
      cases so3 with
      | none=>rfl
      | some s3 =>
       simp only [Option.map_some,Option.bind_some]
       cases repP (groupP true) (N.toNat - (i + 1)) s3 with
       | none=>rfl
       | some q=>simp
     ·have:=hln s rfl
      have:=(hm s rfl).1
      simp only [List.flatten_append,List.length_append,List.flatten_cons,List.flatten_nil,List.append_nil,List.length_replicate]
      omega
     ·rintro s3 rfl
      obtain ⟨⟨s0,q0,q1,q2⟩,_⟩:=g3 s3 rfl (by rw [hmn s3 rfl]; omega)
      cases q0
      have:=hln s rfl
      simp only [List.flatten_append,List.length_append,List.flatten_cons,List.flatten_nil,List.append_nil,List.length_replicate]
      omega
     ·rw [hkn2] at hC'
      simpa using hC'
     ·simp only [MU,a6]
      simp
      omega
 ·simp [pc75_l2,a5,a6,hlt]
  have hz : N.toNat - i = 0:=by omega
  refine fin _ _ lv done so' (by simp [a0]) (by simp [a3]) (by simp [a4]) hC ?_
  rw [he,hz]
  cases so' with
  | none=>rfl
  | some s=>simp [repP]
theorem code_S {base β x b so} {f : F} {pv : AV} (h : RSt base β x b so σ) (hf : f.locals = []) (hpv : pv.known = true ∧ pv.one = true ∧ pv.cells = [pv])
  (hs : ∀ f' so' σ' lv tv,GotQ so (functionP true f) f' so' → f'.name = f.name ∧ f'.params = f.params ∧ f'.type = f.type → Al.IntsO σ' lv f'.locals → Al.LstO σ' tv f'.lists → RSt base β x b so' σ' → KeepC x σ σ' → R (.ret (.agg [.str f.name,pv,lv,.int .i64 f.type,tv])) σ') : ACalls Tryz.prog G 75 [.ptr x 0,.agg [.str f.name,pv,.nilsl,.int .i64 f.type,.nilsl]] σ R:=by
 refine calls75 rfl ?_
 obtain ⟨_,_,_,_,_,ho0,_⟩:=h.opn
 have hx:=h.hx
 have hb0:=h.base_le
 have p1:=hpv
 simp [pc75,p1]
 have hA : Adds σ ((σ.newO [.str f.name,pv,.nilsl,.int .i64 f.type,.nilsl]).newO [.str [],.nilsl,.nilsl,.int .i64 0,.nilsl]):=(Adds.refl σ).newO.newO
 have hC0 : CoQ base β x b f pv σ .nilsl [] so ((σ.newO [.str f.name,pv,.nilsl,.int .i64 f.type,.nilsl]).newO [.str [],.nilsl,.nilsl,.int .i64 0,.nilsl]):=⟨by simp,by simp,by simp,.inl ⟨rfl,rfl⟩,h.adds hA,hA.keepP hx ho0,hx,hpv⟩
 generalize (σ.newO [.str f.name,pv,.nilsl,.int .i64 f.type,.nilsl]).newO [.str [],.nilsl,.nilsl,.int .i64 0,.nilsl] = σ0 at *
 refine number_S hC0.rs fun n0 so0 σ1 hg0 _ _ _ hR1 hK1=>?_
 have hC1:=hC0.keep hK1 hR1
 simp
 refine number_S hR1 fun N so1 σ2 hg1 hN1 hN2 hN3 hR2 hK2=>?_
 have hC2:=hC1.keep hK2 hR2
 have h0:=hN3 rfl
 have hfun : so.bind (functionP true f) = (so1.bind (repP (groupP true) N.toNat)).bind fun l=>(listP true (l.2.b.length + 1) 0 [] { l.2 with ls:=[] }).map fun r=>({ f with locals:=f.locals ++ l.1.flatten,lists:=r.2.ls },r.2):=by
  have e0 : so.bind (functionP true f) = so.bind fun s=>(numP true false s).bind fun p=>(numP true false p.2).bind fun q=>(repP (groupP true) q.1.toNat q.2).bind fun l=>(listP true (l.2.b.length + 1) 0 [] { l.2 with ls:=[] }).map fun r=>({ f with locals:=f.locals ++ l.1.flatten,lists:=r.2.ls },r.2):=by cases so <;> rfl
  have q0 : so.bind (numP true false) = so0.map fun s=>(n0,s):=hg0
  have q1 : so0.bind (numP true false) = so1.map fun s=>(N,s):=hg1
  rw [e0]
  cases so with
  | none =>
   cases so0 with
   | some s=>cases q0
   | none =>
    cases so1 with
    | some s=>cases q1
    | none=>rfl
  | some s =>
   simp only [Option.bind_some] at q0 ⊢
   rw [q0]
   cases so0 with
   | none =>
    cases so1 with
    | some s=>cases q1
    | none=>rfl
   | some s0 =>
    simp only [Option.map_some,Option.bind_some] at q1 ⊢
    rw [q1]
    cases so1 <;> rfl
 simp
 refine aloop (GpQ base β x b f pv N so1 σ) (MU 6 (N.toNat + 1)) ⟨0,so1,[],.nilsl,by omega,by cases so1 <;> simp,by simp,by simp,by simp,by simp,by simp,by simp,by simp,by simpa using hC2⟩ fun a τ hI=>?_
 refine group_round hN2 hb0 (fun a τ lv done so' b0 b3 b4 hC he=>?_) (fun σ' lv L hnone hi hR hK=>?_) hI
 ·refine code_end b0 b3 b4 hC fun n e so2 σ' tv ls hg hi hl hls hR hK=>?_
  refine hs { f with locals:=done.flatten,lists:=ls } so2 σ' lv tv ?_ ⟨rfl,rfl,rfl⟩ hi hl hR hK
  unfold GotQ
  rw [hfun,he]
  cases so' with
  | none =>
   cases so2 with
   | none=>rfl
   | some s=>cases hg
  | some s' =>
   simp only [Option.bind_some,Option.map_some] at hg ⊢
   rw [hg]
   cases so2 with
   | none=>rfl
   | some s2=>simp [hf,hls s2 rfl]
 ·refine hs { f with locals:=L,lists:=[] } none σ' lv .nilsl ?_ ⟨rfl,rfl,rfl⟩ hi (.inl ⟨rfl,rfl⟩) hR hK
  unfold GotQ
  rw [hfun,hnone]
  rfl
end
end Go.Proofs.YthejpoplbllcbaaGreatDoor
set_option linter.unusedSimpArgs false
set_option linter.unusedVariables false
namespace Go.Proofs.YthejpoplbllcbaaGreatDoor
open Go Go.Abs
theorem GotQ.bind {α γ : Type} {so so' : Option Rs} {f : Rs → Option (α × Rs)} {a : α} (h : GotQ so f a so') (g : α × Rs → Option γ) : (so.bind fun s => (f s).bind g) = so'.bind fun s => g (a,s) := by
 unfold GotQ at h
 have : (so.bind fun s=>(f s).bind g) = (so.bind f).bind g:=by cases so <;> rfl
 rw [this,h]
 cases so' <;> rfl
theorem GotQ.some {α : Type} {so so' : Option Rs} {f : Rs → Option (α × Rs)} {a : α} (h : GotQ so f a so') {s' : Rs} (e : so' = Option.some s') : ∃ s,so = Option.some s ∧ f s = Option.some (a,s') := by
 subst e
 cases so with
 | none=>cases h
 | some s=>exact ⟨s,rfl,h⟩
theorem GotQ.left {α : Type} {so so' : Option Rs} {f : Rs → Option (α × Rs)} {a : α} (h : GotQ so f a so') {b : List UInt8} (hf : ∀ s s',f s = Option.some (a,s') → s'.b.length ≤ s.b.length) : leftQ so' b ≤ leftQ so b := by
 cases so' with
 | none=>simp [leftQ]
 | some s' =>
  obtain ⟨s,rfl,e⟩:=h.some rfl
  have:=hf _ _ e
  simp only [leftQ]
  omega
def HdQ (base : Nat) (β : Option Nat) (x : Nat) (b : List UInt8) (N : Int) (so1 : Option Rs) (σ : AS) (a : Nat → AV) (τ : AS) : Prop := ∃ (i : Nat) (so' : Option Rs) (done : List F) (rows : List AV),(i : Int) ≤ N ∧ so1.bind (repP (headP true) N.toNat) = so'.bind (fun s => (repP (headP true) (N.toNat - i) s).map fun q => (done ++ q.1,q.2)) ∧ done.length = i ∧ done.length + leftQ so' b ≤ 2 ^ 15 ∧
 a 0 = .ptr x 0 ∧ a 4 = .int .i64 N ∧ a 5 = .int .i64 (i : Int) ∧ All2 HV rows (done.drop 3) ∧ GrowQ σ x 5 τ (a 3) rows ∧ RSt base β x b so' τ ∧ KeepP x σ τ
theorem repP_step' {α : Type} {f : Rs → Option (α × Rs)} {n : Nat} {s : Rs} {so2 : Option Rs} {v : α} (hn : n ≠ 0) (h : f s = so2.map fun s => (v,s)) : repP f n s = so2.bind fun s2 => (repP f (n - 1) s2).map fun q => (v :: q.1,q.2) := by
 obtain ⟨k,rfl⟩ : ∃ k,n = k + 1:=⟨n - 1,by omega⟩
 rw [repP,h]
 cases so2 <;> rfl
section
variable {G : Env} {σ : AS} {R : Out → AS → Prop}
theorem heads_round {base β x b} {N : Int} {so1 : Option Rs} (hN : N < 2 ^ 63) (hb0 : base ≤ σ.nf)
  (fin : ∀ a τ rows done so',GrowQ σ x 5 τ (a 3) rows → All2 HV rows (done.drop 3) → done.length ≤ 2 ^ 15 → RSt base β x b so' τ → KeepP x σ τ → so1.bind (repP (headP true) N.toNat) = so'.map (fun s=>(done,s)) → avc Tryz.prog G 47 pc72_r1 (afin Tryz.prog [.tmp 2] R) a τ)
  {a : Nat → AV} {τ : AS} (hI : HdQ base β x b N so1 σ a τ) : avc Tryz.prog G 47 pc72_l1 (athen (fun a' σ'=>HdQ base β x b N so1 σ a' σ' ∧ MU 5 (N.toNat + 1) a' σ' < MU 5 (N.toNat + 1) a τ) (ablock 0 (athen (avc Tryz.prog G 47 pc72_r1 (afin Tryz.prog [.tmp 2] R)) (afin Tryz.prog [.tmp 2] R)))) a τ:=by
 obtain ⟨i,so',done,rows,hi,he,hdl,hlen,a0,a4,a5,hrows,hG,hR,hK⟩:=hI
 obtain ⟨bv,at_,lsv,many,ls,ho,b1,l1,hto,m1,m2,hm,hbv,hle,hbl⟩:=hR.opn
 have hx:=hR.hx
 have g1:=hG.one
 by_cases hlt : (i : Int) < N
 ·cases so' with
  | none =>
   simp [pc72_l1,a0,a4,a5,hlt,ho]
   exact fin _ _ rows done none (by simpa using hG) hrows (by omega) hR hK (by rw [he]; rfl)
  | some s =>
   have w1 : IntKind.wrap .i64 ((i : Int) + 1) = ((i + 1 : Nat) : Int):=by rw [wrap_i64] <;> omega
   simp [pc72_l1,a0,a4,a5,hlt,ho]
   refine next_S hR fun c so2 τ2 hg2 hR2 hK2=>?_
   have K2:=hK.trans hK2
   have L2 : leftQ so2 b + 1 ≤ leftQ (some s) b:=by
    cases so2 with
    | none=>simp [leftQ]
    | some s2 =>
     obtain ⟨s0,q1,q2⟩:=hg2.some rfl
     cases q1
     obtain ⟨z1,_⟩:=byteP_some q2
     simp only [leftQ]
     rw [z1]
     simp
   simp [a0]
   refine kindsE_S hR2.base_le hR2 fun pv ps so3 τ3 hg3 hps hpl hpv hR3 hK3=>?_
   have K3:=K2.trans hK3
   have p1:=hpv.one
   have hx3:=hR3.hx
   obtain ⟨_,_,_,_,_,ho3,_⟩:=hR3.opn
   have L3 : leftQ so3 b ≤ leftQ so2 b:=hg3.left fun s s' q=>by have:=typesP_len q; omega
   have A4 : Adds τ3 ((τ3.newO [.str [],.nilsl,.nilsl,.int .i64 0,.nilsl]).setO τ3.no [.str [],pv,.nilsl,.int .i64 0,.nilsl]):=.mk1
   have K4:=K3.trans (A4.keepP hx3 ho3)
   have hr4:=hR3.adds A4
   simp [a0,p1,splice]
   refine kindsE_S hr4.base_le hr4 fun gv gs so5 τ5 hg5 hgs hgl hgv hR5 hK5=>?_
   have K5:=K4.trans hK5
   have gv1:=hgv.one
   have L5 : leftQ so5 b ≤ leftQ so3 b:=hg5.left fun s s' q=>by have:=typesP_len q; omega
   have gvo:=Al.ints_e (σ:=τ5) hR5.others.1 hgv
   have gvl:=gvo.len
   have hxo : ¬ x = τ3.no:=by omega
   have hxo' : ¬ τ3.no = x:=by omega
   have o5:=(hK5.obj τ3.no (by simp) hxo').trans (show _ = some [.str [],pv,.nilsl,.int .i64 0,.nilsl] by simp)
   have n5:=hK5.no
   simp at n5
   have hh : headP true s = so5.map fun s5=>(({ name:=[],params:=ps,locals:=[],type:=gs.headD 0,lists:=[] } : F),s5):=by
    have q2 : byteP s = so2.map fun s=>(c,s):=hg2
    have q3 : so2.bind (typesP true) = so3.map fun s=>(ps,s):=hg3
    have q5 : so3.bind (typesP true) = so5.map fun s=>(gs,s):=hg5
    unfold headP
    rw [q2]
    cases so2 with
    | none =>
     cases so3 with
     | some s3=>cases q3
     | none =>
      cases so5 with
      | some s5=>cases q5
      | none=>rfl
    | some s2 =>
     simp only [Option.map_some,Option.bind_some] at q3 ⊢
     rw [q3]
     cases so3 with
     | none =>
      cases so5 with
      | some s5=>cases q5
      | none=>rfl
     | some s3 =>
      simp only [Option.map_some,Option.bind_some] at q5 ⊢
      rw [q5]
      cases so5 <;> rfl
   have hG5 : GrowQ σ x 5 τ5 (a 3) rows:=((hG.keep hK2.r).keep hK3.r).keep ((A4.keepP hx3 ho3).trans hK5).r
   have g5:=hG5.one
   have next : ∀ (a' : Nat → AV) (τ' : AS) rows',a' 0 = .ptr x 0 → a' 4 = .int .i64 N → a' 5 = .int .i64 ((i + 1 : Nat) : Int) → All2 HV rows' ((done ++ [({ name:=[],params:=ps,locals:=[],type:=gs.headD 0,lists:=[] } : F)]).drop 3) → GrowQ σ x 5 τ' (a' 3) rows' → RSt base β x b so5 τ' → KeepP x σ τ' → HdQ base β x b N so1 σ a' τ' ∧ MU 5 (N.toNat + 1) a' τ' < MU 5 (N.toNat + 1) a τ:=by
    intro a' τ' rows' e0 e4 e5 eR eG eD eK
    refine ⟨⟨i + 1,so5,_,rows',by omega,?_,by simp [hdl],by simp; omega,e0,e4,e5,eR,eG,eD,eK⟩,?_⟩
    ·rw [he]
     simp only [Option.bind_some]
     rw [repP_step' (by omega) hh]
     have : N.toNat - i - 1 = N.toNat - (i + 1):=by omega
     rw [this]
     cases so5 with
     | none=>rfl
     | some s5 =>
      simp only [Option.bind_some]
      cases repP (headP true) (N.toNat - (i + 1)) s5 with
      | none=>rfl
      | some p=>simp
    ·simp only [MU,e5,a5]; omega
   have hrl:=hrows.length
   have hrl2 : rows.length ≤ 2 ^ 15:=by rw [hrl]; simp; omega
   have row : ∀ (t : Int),t = gs.headD 0 → All2 HV [AV.agg [.str [],pv,.nilsl,.int .i64 t,.nilsl]] [({ name:=[],params:=ps,locals:=[],type:=gs.headD 0,lists:=[] } : F)]:=fun t e=>.cons ⟨pv,by rw [e],hpv,rfl,rfl,rfl⟩ .nil
   have stay : ∀ v : F,i < 3 → All2 HV rows ((done ++ [v]).drop 3):=fun v h3=>by
    have e1 : done.drop 3 = []:=List.drop_eq_nil_of_le (by omega)
    rw [e1] at hrows
    rw [List.drop_eq_nil_of_le (by simp; omega)]
    exact hrows
   have more : ∀ (v : F) w,3 ≤ i → All2 HV [w] [v] → All2 HV (rows ++ [w]) ((done ++ [v]).drop 3):=fun v w h3 hw=>by
    rw [List.drop_append_of_le_length (by omega)]
    exact hrows.append hw
   cases gs with
   | nil =>
    simp at gvl
    by_cases h3 : 3 ≤ i
    ·have h3' : (3 : Int) ≤ (i : Int):=by omega
     simp [a5,gvl,o5,p1,h3',g5]
     refine grow_Q (row:=.agg [.str [],pv,.nilsl,.int .i64 0,.nilsl]) hG5 hR5 K5.r hb0 (by simp) (by omega) fun v' τ6 e1 e2 e3 e4 e5 e6=>?_
     simp [a5,w1]
     exact next _ _ _ (by simp [a0]) (by simp [a4]) (by simp) (more _ _ h3 (row 0 rfl)) (by simpa using e1) e2 (e6 K5)
    ·have h3' : ¬ (3 : Int) ≤ (i : Int):=by omega
     simp [a5,gvl,o5,p1,h3',w1]
     exact next _ _ _ (by simp [a0]) (by simp [a4]) (by simp) (stay _ (by omega)) (by simpa using hG5) hR5 K5
   | cons t gs =>
    obtain ⟨φ,hrd,hix⟩:=gvo.at (i:=0) (by simp)
    have hrd:=hrd.read
    simp at gvl hix
    have hpos : (0 : Int) < (gs.length : Int) + 1:=by omega
    have hr6:=hR5.other hxo (cs:=[.str [],pv,.nilsl,.int .i64 t,.nilsl])
    have K6 : KeepP x σ (τ5.setO τ3.no [.str [],pv,.nilsl,.int .i64 t,.nilsl]):=K5.other K3.no hxo
    have hG6:=hG5.other hxo (cs:=[.str [],pv,.nilsl,.int .i64 t,.nilsl])
    by_cases h3 : 3 ≤ i
    ·have h3' : (3 : Int) ≤ (i : Int):=by omega
     simp [a5,gvl,hpos,hix,hrd,o5,p1,splice,h3',g5]
     refine grow_Q (row:=.agg [.str [],pv,.nilsl,.int .i64 t,.nilsl]) hG6 hr6 K6.r hb0 (by simp) (by omega) fun v' τ6 e1 e2 e3 e4 e5 e6=>?_
     simp [a5,w1]
     exact next _ _ _ (by simp [a0]) (by simp [a4]) (by simp) (more _ _ h3 (row t rfl)) (by simpa using e1) e2 (e6 K6)
    ·have h3' : ¬ (3 : Int) ≤ (i : Int):=by omega
     simp [a5,gvl,hpos,hix,hrd,o5,p1,splice,h3',w1]
     exact next _ _ _ (by simp [a0]) (by simp [a4]) (by simp) (stay _ (by omega)) (by simpa using hG6) hr6 K6
 ·simp [pc72_l1,a4,a5,hlt]
  have hz : N.toNat - i = 0:=by omega
  rw [hz] at he
  refine fin _ _ rows done so' (by simpa using hG) hrows (by omega) hR hK ?_
  rw [he]
  cases so' with
  | none=>rfl
  | some s=>simp [repP]
theorem heads_S {base β x b so} (hb0 : base ≤ σ.nf) (h : RSt base β x b so σ) (hs : ∀ v rows l so' σ',GotQ so headsR l so' → All2 HV rows l → l.length ≤ 2 ^ 15 → GrowQ σ x 5 σ' v rows → RSt base β x b so' σ' → KeepP x σ σ' → R (.ret v) σ') : ACalls Tryz.prog G 72 [.ptr x 0] σ R := by
 refine calls72 rfl ?_
 simp [pc72]
 refine next_S h fun c so1 σ1 hg1 hR1 hK1=>?_
 simp
 refine number_S hR1 fun n so2 σ2 hg2 _ _ _ hR2 hK2=>?_
 simp
 refine number_S hR2 fun N so3 σ3 hg3 hN1 hN2 hN3 hR3 hK3=>?_
 have h0:=hN3 rfl
 have K3:=(hK1.trans hK2).trans hK3
 simp
 refine aloop (HdQ base β x b N so3 σ) (MU 5 (N.toNat + 1)) ⟨0,so3,[],[],by omega,by cases so3 <;> simp,rfl,by have:=hR3.left; simp; omega,by simp,by simp,by simp,.nil,.inl ⟨rfl,by simp⟩,hR3,K3⟩ fun a τ hI=>?_
 refine heads_round hN2 hb0 (fun a τ rows done so' hG hrows hdl hR hK he=>?_) hI
 have g1:=hG.one
 simp [pc72_r1,g1]
 refine hs _ rows (done.drop 3) so' _ ?_ hrows (by simp; omega) hG hR hK
 unfold GotQ
 have e1 : (so.bind headsR) = so.bind fun s=>(byteP s).bind fun p=>(numP true false p.2).bind fun q=>(numP true false q.2).bind fun n=>(repP (headP true) n.1.toNat n.2).map fun h=>(h.1.drop 3,h.2):=by
  cases so with
  | none=>rfl
  | some s =>
   simp only [Option.bind_some,headsR,secR]
   cases byteP s <;> rfl
 rw [e1,hg1.bind]
 have e2:=hg2.bind (fun q=>(numP true false q.2).bind fun n=>(repP (headP true) n.1.toNat n.2).map fun h=>(h.1.drop 3,h.2))
 simp only at e2 ⊢
 rw [e2]
 have e3:=hg3.bind (fun n=>(repP (headP true) n.1.toNat n.2).map fun h=>(h.1.drop 3,h.2))
 simp only at e3 ⊢
 rw [e3]
 have : (so3.bind fun s=>(repP (headP true) N.toNat s).map fun h=>(h.1.drop 3,h.2)) = (so3.bind (repP (headP true) N.toNat)).map fun h=>(h.1.drop 3,h.2):=by cases so3 <;> rfl
 rw [this,he]
 cases so' <;> rfl
end
end Go.Proofs.YthejpoplbllcbaaGreatDoor
set_option linter.unusedSimpArgs false
set_option linter.unusedVariables false
namespace Go.Proofs.YthejpoplbllcbaaGreatDoor
open Go Go.Abs
def AtQ (σ : AS) (x n : Nat) : Prop := ∃ cs m,σ.objs x = some cs ∧ cs[1]? = some (.int .i64 ((m : Nat) : Int)) ∧ n ≤ m
theorem AtQ.le {σ x n cs} {m : Nat} (h : AtQ σ x n) (ho : σ.objs x = some cs) (hc : cs[1]? = some (.int .i64 (m : Int))) : n ≤ m := by
 obtain ⟨cs',m',h1,h2,h3⟩:=h
 rw [ho] at h1
 cases h1
 rw [hc] at h2
 simp only [Option.some.injEq,AV.int.injEq,true_and] at h2
 omega
theorem Rq.at {base β x b at_ bad lv many σ} (h : Rq base β x b at_ bad lv many σ) {n : Nat} (hn : n ≤ at_) : AtQ σ x n := by
 obtain ⟨bv,ho,_⟩:=h.cells
 exact ⟨_,at_,ho,rfl,hn⟩
section
variable {G : Env} {σ : AS} {R : Out → AS → Prop}
theorem next_A {base β x b so n} (h : RSt base β x b so σ) (hA : AtQ σ x n) (hs : ∀ (c : UInt8) so' σ',GotQ so byteP c so' → RSt base β x b so' σ' → KeepP x σ σ' → AtQ σ' x n → R (.ret (.int .i64 (c.toNat : Int))) σ') : ACalls Tryz.prog G 73 [.ptr x 0] σ R := by
 obtain ⟨at_,bad,lv,many,ls,h,ht,hm⟩:=h
 obtain ⟨bv0,ho0,_⟩:=h.cells
 have hn : n ≤ at_:=hA.le ho0 rfl
 refine next_calls h (fun c hc σ' hR hK=>?_) (fun hc σ' hR hK=>?_)
 ·cases so with
  | none=>exact hs c none σ' rfl ⟨_,_,_,_,ls,hR,ht.keepF hK.nf fun f hf=>hK.fam f hf,hm⟩ hK (hR.at (by omega))
  | some s =>
   obtain ⟨m1,m2,m3,m4,m5⟩:=hm
   obtain ⟨hlt,hc'⟩:=List.getElem?_eq_some_iff.1 hc
   have hd : s.b = c :: b.drop (at_ + 1):=by rw [m2,List.drop_eq_getElem_cons hlt,hc']
   refine hs c (some { s with b:=b.drop (at_ + 1) }) σ' ?_ ⟨_,_,_,_,ls,hR,ht.keepF hK.nf fun f hf=>hK.fam f hf,m1,rfl,m3,m4,m5⟩ hK (hR.at (by omega))
   unfold GotQ
   simp only [Option.bind_some,Option.map_some]
   unfold byteP
   rw [hd]
 ·cases so with
  | none=>exact hs 0 none σ' rfl ⟨_,_,_,_,ls,hR,ht.keepF hK.nf fun f hf=>hK.fam f hf,rfl,hm.2⟩ hK (hR.at (by omega))
  | some s =>
   obtain ⟨m1,m2,m3,m4,m5⟩:=hm
   have hd : s.b = []:=by
    rw [m2]
    refine List.drop_eq_nil_of_le ?_
    by_cases q : at_ < b.length
    ·rw [List.getElem?_eq_getElem q] at hc; cases hc
    ·omega
   refine hs 0 none σ' ?_ ⟨_,_,_,_,ls,hR,ht.keepF hK.nf fun f hf=>hK.fam f hf,rfl,by omega,by omega⟩ hK (hR.at (by omega))
   unfold GotQ
   simp only [Option.bind_some,Option.map_none]
   unfold byteP
   rw [hd]
def SkA (base : Nat) (β : Option Nat) (x : Nat) (b : List UInt8) (N : Int) (n : Nat) (so : Option Rs) (σ : AS) (a : Nat → AV) (τ : AS) : Prop := ∃ (i : Nat) (so' : Option Rs),(i : Int) ≤ N ∧ so.bind (skipP N) = so'.bind (skipP (N - i)) ∧ a 0 = .ptr x 0 ∧ a 1 = .int .i64 N ∧ a 4 = .int .i64 (i : Int) ∧ RSt base β x b so' τ ∧ KeepP x σ τ ∧ AtQ τ x n
theorem skip_A {base β x b so n} {N : Int} (h0 : 0 ≤ N) (hN : N < 2 ^ 63) (h : RSt base β x b so σ) (hA : AtQ σ x n) (hs : ∀ σ',RSt base β x b (so.bind (skipP N)) σ' → KeepP x σ σ' → AtQ σ' x n → R (.ret (.tuple [])) σ') : ACalls Tryz.prog G 71 [.ptr x 0,.int .i64 N] σ R := by
 refine calls71 rfl ?_
 obtain ⟨_,_,_,_,ho0,_⟩:=h.cells
 simp [pc71]
 refine aloop (SkA base β x b N n so σ) (MU 4 (N.toNat + 1)) ⟨0,so,by omega,by simp,by simp,by simp,by simp,h,.refl ho0,hA⟩ fun a τ hI=>?_
 obtain ⟨i,so',hi,he,a0,a1,a4,hR,hK,hA⟩:=hI
 obtain ⟨bv,at_,lv,many,ho,b1,b2,b3,b4,hR2,hK2⟩:=hR.cells
 by_cases hlt : (i : Int) < N
 ·cases so' with
  | none =>
   simp [pc71_l1,a0,a1,a4,hlt,ho]
   exact hs _ (by rw [he]; exact hR) hK hA
  | some s =>
   simp [pc71_l1,a0,a1,a4,hlt,ho]
   refine next_A hR hA fun c so2 σ1 hg hR1 hK1 hA1=>?_
   have w1 : IntKind.wrap .i64 ((i : Int) + 1) = ((i + 1 : Nat) : Int):=by rw [wrap_i64] <;> omega
   simp [a0,a1,a4,w1]
   refine ⟨⟨i + 1,so2,by omega,?_,by simp [a0],by simp [a1],by simp,hR1,hK.trans hK1,hA1⟩,?_⟩
   ·rw [he]
    simp only [Option.bind_some]
    rw [skipP_step (by omega)]
    have : byteP s = so2.map fun s=>(c,s):=hg
    rw [this]
    have e : N - (i : Int) - 1 = N - ((i + 1 : Nat) : Int):=by omega
    rw [e]
    cases so2 <;> rfl
   ·simp only [MU,a4]
    simp
    omega
 ·have e : (i : Int) = N:=by omega
  have hz : so.bind (skipP N) = so':=by
   rw [he,e]
   cases so' with
   | none=>rfl
   | some s =>
    simp [skipP,takeP]
  have hlt' : ¬ (i : Int) < N:=hlt
  simp [pc71_l1,a0,a1,a4,hlt']
  exact hs _ (by rw [hz]; exact hR) hK hA
end
theorem GotQ.sec {so so1 so2 : Option Rs} {c : UInt8} {n : Int} (h1 : GotQ so byteP c so1) (h2 : GotQ so1 (numP true false) n so2) : GotQ so secR n so2 := by
 unfold GotQ
 have e : so.bind secR = so.bind fun s=>(byteP s).bind fun p=>numP true false p.2:=by cases so <;> rfl
 rw [e,h1.bind]
 simp only
 exact h2
def namesR (mem mn : Int) (fs : List F) (s : Rs) : Option (M × Rs) := (secR s).bind fun a => (skipP 6 a.2).bind fun s => (numP true false s).bind fun x => (numP true false x.2).bind fun y => (namesP true fs y.2).map fun q => ({ funcs := q.1,memory := mem,main := mn },q.2)
def tailR (h : List F) (mem mn : Int) (s : Rs) : Option (M × Rs) := (secR s).bind fun a => (numP true false a.2).bind fun c => (functionsP true h c.2).bind fun fs => namesR mem mn fs.1 fs.2
theorem tailR_eq (h : List F) (mem mn : Int) (s : Rs) : ((backR h s).map fun q => (({ funcs := q.1,memory := mem,main := mn } : M),q.2)) = tailR h mem mn s := by
 unfold backR tailR namesR
 simp only [Option.map_bind,Function.comp_def]
theorem moduleR_eq (s : Rs) : moduleR s = (skipP 8 s).bind fun s => (headsR s).bind fun h => (secR h.2).bind fun a => (skipP a.1 a.2).bind fun s => (secR s).bind fun a => (skipP a.1 a.2).bind fun s => (skipP 5 s).bind fun s =>
  (secR s).bind fun a=>(skipP 4 a.2).bind fun s=>(numP true true s).bind fun mem=>(skipP 1 mem.2).bind fun s=>(secR s).bind fun a=>(skipP 7 a.2).bind fun s=>(numP true false s).bind fun mn=>tailR h.1 mem.1 (IntKind.wrap .i64 (mn.1 - 3)) mn.2:=by
 unfold moduleR frontR
 simp only [Option.bind_assoc,tailR_eq]
 refine congrArg (Option.bind _) (funext fun s=>?_)
 refine congrArg (Option.bind _) (funext fun h=>?_)
 refine congrArg (Option.bind _) (funext fun a=>?_)
 refine congrArg (Option.bind _) (funext fun s=>?_)
 refine congrArg (Option.bind _) (funext fun a=>?_)
 refine congrArg (Option.bind _) (funext fun s=>?_)
 refine congrArg (Option.bind _) (funext fun s=>?_)
 refine congrArg (Option.bind _) (funext fun a=>?_)
 refine congrArg (Option.bind _) (funext fun s=>?_)
 refine congrArg (Option.bind _) (funext fun mem=>?_)
 refine congrArg (Option.bind _) (funext fun s=>?_)
 refine congrArg (Option.bind _) (funext fun a=>?_)
 refine congrArg (Option.bind _) (funext fun s=>?_)
 cases numP true false s <;> rfl
structure Mq (base : Nat) (β : Option Nat) (x : Nat) (b : List UInt8) (mc : List AV) (so : Option Rs) (σ τ : AS) : Prop where
 rs : RSt base β x b so τ
 rb : τ.objs σ.no = some [.nilsl,.int .i64 0,.int .i64 0]
 mb : τ.objs (σ.no + 1) = some mc
 lt : σ.no + 2 ≤ τ.no
 kp : KeepC x σ τ
 hx : x < σ.no
theorem Mq.keep {base β x b mc so so' σ τ τ'} (M : Mq base β x b mc so σ τ) (K : KeepC x τ τ') (h : RSt base β x b so' τ') : Mq base β x b mc so' σ τ' := by
 have hx:=M.hx
 have hl:=M.lt
 exact ⟨h,(K.obj _ (by omega) (by omega)).trans M.rb,(K.obj _ (by omega) (by omega)).trans M.mb,Nat.le_trans hl K.no,M.kp.trans K,hx⟩
theorem Mq.setM {base β x b mc mc' so σ τ} (M : Mq base β x b mc so σ τ) : Mq base β x b mc' so σ (τ.setO (σ.no + 1) mc') := by
 have hx:=M.hx
 have h1 : ¬ x = σ.no + 1:=by omega
 have h2 : ¬ σ.no = σ.no + 1:=by omega
 exact ⟨M.rs.other h1,by simp [h2,M.rb],by simp,M.lt,M.kp.setO (.inr (by omega)),hx⟩
def FnQ (σ : AS) (fv : AV) (fo : Nat) (rows : List AV) (τ : AS) : Prop := (fv = .nilsl ∧ rows = []) ∨ (fv = .slm fo 0 5 rows.length ∧ τ.objs fo = some (flat rows) ∧ σ.no + 2 ≤ fo ∧ fo < τ.no)
theorem FnQ.keep {x σ fv fo rows τ τ'} (h : FnQ σ fv fo rows τ) (K : KeepC x τ τ') (hx : x < σ.no) : FnQ σ fv fo rows τ' := by
 rcases h with h | ⟨h1,h2,h3,h4⟩
 ·exact .inl h
 ·exact .inr ⟨h1,(K.obj fo h4 (by omega)).trans h2,h3,Nat.lt_of_lt_of_le h4 K.no⟩
theorem FnQ.setM {σ fv fo rows τ cs} (h : FnQ σ fv fo rows τ) : FnQ σ fv fo rows (τ.setO (σ.no + 1) cs) := by
 rcases h with h | ⟨h1,h2,h3,h4⟩
 ·exact .inl h
 ·have : ¬ fo = σ.no + 1:=by omega
  exact .inr ⟨h1,by simp [this,h2],h3,h4⟩
theorem FnQ.one {σ fv fo rows τ} (h : FnQ σ fv fo rows τ) : fv.known = true ∧ fv.one = true ∧ fv.cells = [fv] := by rcases h with ⟨rfl,_⟩ | ⟨rfl,_⟩ <;> simp
theorem FnQ.len {σ fv fo rows τ} (h : FnQ σ fv fo rows τ) (K : AV → Prop) : alen Tryz.prog 25 fv K = K (.int .i64 (rows.length : Int)) := by
 rcases h with ⟨rfl,rfl⟩ | ⟨rfl,_⟩ <;> simp
theorem fvo_cells {σ v f} (h : Al.FVO σ v f) : v.cells.length = 5 := by
 obtain ⟨pv,lv,tv,rfl,_⟩:=h
 rfl
theorem hv_fvo {σ : AS} (h0 : 0 < σ.nf ∧ σ.F 0 = .alive) {v f} (h : HV v f) : Al.FVO σ v f := by
 obtain ⟨pv,rfl,h1,h2,h3,h4⟩:=h
 exact ⟨pv,.nilsl,.nilsl,by rw [h2],Al.ints_e h0 h1,.inl ⟨h3,rfl⟩,.inl ⟨h4,rfl⟩⟩
theorem RSt.famO {base β x b so τ} (h : RSt base β x b so τ) {fo : Nat} (hf : fo ≠ x) : RSt base β x b so (τ.famO fo) := by
 obtain ⟨at_,bad,lv,many,ls,h,ht,hm⟩:=h
 obtain ⟨bv,ho,hv⟩:=h.cells
 have hb:=h.hb
 refine ⟨at_,bad,lv,many,ls,⟨h.hx,⟨hb.1,by simp; omega⟩,?_,fun f q=>?_,h.le,h.hl,h.lo,bv,?_,hv⟩,?_,hm⟩
 ·have : ¬ 0 = τ.nf:=by omega
  simp [this,h.h0]
 ·obtain ⟨h1,h2⟩:=h.hβ f q
  have : ¬ f = τ.nf:=by omega
  exact ⟨h1,by simp [this,h2]⟩
 ·have : ¬ x = fo:=fun e=>hf e.symm
  simp [this,ho]
 ·rcases ht with h1 | ⟨g,tos,h1,h2,h3,h4,h5⟩
  ·exact .inl h1
  ·have : ¬ g = τ.nf:=by omega
   exact .inr ⟨g,tos,h1,h2,by simp; omega,by simp [this,h4],h5⟩
theorem KeepC.famO {x σ τ} (A : KeepC x σ τ) {fo : Nat} (hf : σ.no ≤ fo) : KeepC x σ (τ.famO fo) := ⟨A.no,by have := A.nf; simp; omega,fun o ho hx => by
 have : ¬ o = fo:=by omega
 simp [this]
 exact A.obj o ho hx,fun f hf'=>by
 have:=A.nf
 have : ¬ f = τ.nf:=by omega
 simp [this]
 exact A.fam f hf'⟩
section
variable {G : Env} {σ : AS} {R : Out → AS → Prop}
theorem read_end {base β x b so fv fo rows fs τ} {mem mn : Int} {a : Nat → AV} (a2 : a 2 = .ptr σ.no 0) (a3 : a 3 = .ptr (σ.no + 1) 0) (M : Mq base β x b [fv,.int .i64 mem,.int .i64 mn] so σ τ) (hF : FnQ σ fv fo rows τ) (hr : All2 (Al.FVO τ) rows fs)
  (hs : ∀ mv σ',Al.MO σ' mv ⟨fs,mem,mn⟩ → RSt base β x b so σ' → KeepC x σ σ' → R (.ret mv) σ') : avc Tryz.prog G 131 pc34_r1 (afin Tryz.prog [.cell 2 27] (OwnR R)) a τ:=by
 have hmb:=M.mb
 have hrb:=M.rb
 have f1:=hF.one
 have hx:=M.hx
 have hxo : ¬ x = σ.no:=by omega
 have hR:=M.rs.other hxo (cs:=[fv,.int .i64 mem,.int .i64 mn])
 have hK:=M.kp.setO (o:=σ.no) (cs:=[fv,.int .i64 mem,.int .i64 mn]) (.inr (Nat.le_refl _))
 simp [pc34_r1,a2,a3,hmb,hrb,f1,splice]
 rcases hF with ⟨rfl,rfl⟩ | ⟨rfl,h2,h3,h4⟩
 ·cases hr
  exact .inl (hs _ _ ⟨.nilsl,rfl,.inl ⟨rfl,rfl⟩⟩ hR hK)
 ·have hfo : ¬ fo = σ.no:=by omega
  refine .inr ⟨fo,5,rows,[.int .i64 mem,.int .i64 mn],rfl,by simp [hfo,h2],all2_len5 (fun v f h=>fvo_cells h) hr,?_⟩
  refine hs _ _ ⟨_,rfl,.inr ⟨_,rows,rfl,⟨by simp,by simp⟩,Al.all2_mono hr fun v f h=>FVO.keepF (σ:=τ) h (by simp) fun f hf=>?_⟩⟩ (hR.famO (by omega)) (hK.famO (by omega))
  have : ¬ f = τ.nf:=by omega
  simp [this]
end
end Go.Proofs.YthejpoplbllcbaaGreatDoor
set_option linter.unusedSimpArgs false
set_option linter.unusedVariables false
namespace Go.Proofs.YthejpoplbllcbaaGreatDoor
open Go Go.Abs
theorem functionsP_cons {α : Type} (f : F) (r : List F) (s : Rs) (g : List F × Rs → Option α) : (functionsP true (f :: r) s).bind g = (functionP true f s).bind fun p => (functionsP true r p.2).bind fun q => g (p.1 :: q.1,q.2) := by
 rw [functionsP]
 simp only [Option.bind_assoc]
 refine congrArg (Option.bind _) (funext fun p=>?_)
 cases functionsP true r p.2 <;> rfl
theorem splice_row {X Y : List AV} {c0 c1 c2 c3 c4 d0 d1 d2 d3 d4 : AV} {off : Nat} (ho : off = X.length) : splice (X ++ c0 :: c1 :: c2 :: c3 :: c4 :: Y) off [d0,d1,d2,d3,d4] = X ++ d0 :: d1 :: d2 :: d3 :: d4 :: Y := by
 subst ho
 unfold splice
 simp [List.drop_append]
theorem row_at {X Y : List AV} {c0 c1 c2 c3 c4 : AV} {off : Nat} (ho : off = X.length) : ((X ++ c0 :: c1 :: c2 :: c3 :: c4 :: Y).drop off).take 5 = [c0,c1,c2,c3,c4] := by
 subst ho
 simp
def LcQ (base : Nat) (β : Option Nat) (x : Nat) (b : List UInt8) (fv : AV) (fo : Nat) (mem mn : Int) (res : Option (M × Rs)) (n : Nat) (σ : AS) (a : Nat → AV) (τ : AS) : Prop := ∃ (ds hsl : List F) (drows hrows : List AV) (so' : Option Rs),a 0 = .ptr x 0 ∧ a 2 = .ptr σ.no 0 ∧ a 3 = .ptr (σ.no + 1) 0 ∧ a 4 = .int .i64 (ds.length : Int) ∧ ds.length + hsl.length = n ∧ Mq base β x b [fv,.int .i64 mem,.int .i64 mn] so' σ τ ∧
 FnQ σ fv fo (drows ++ hrows) τ ∧ All2 (Al.FVO τ) drows ds ∧ All2 HV hrows hsl ∧ res = so'.bind fun s=>(functionsP true hsl s).bind fun fs=>namesR mem mn (ds ++ fs.1) fs.2
section
variable {G : Env} {σ : AS} {R : Out → AS → Prop}
theorem code_N {base β x b so} {f : F} {pv : AV} {nm : List UInt8} (h : RSt base β x b so σ) (hnm : f.name = nm) (hf : f.locals = []) (hpv : pv.known = true ∧ pv.one = true ∧ pv.cells = [pv])
  (hs : ∀ f' so' σ' lv tv,GotQ so (functionP true f) f' so' → f'.name = f.name ∧ f'.params = f.params ∧ f'.type = f.type → Al.IntsO σ' lv f'.locals → Al.LstO σ' tv f'.lists → RSt base β x b so' σ' → KeepC x σ σ' → R (.ret (.agg [.str nm,pv,lv,.int .i64 f.type,tv])) σ') : ACalls Tryz.prog G 75 [.ptr x 0,.agg [.str nm,pv,.nilsl,.int .i64 f.type,.nilsl]] σ R:=by
 subst hnm
 exact code_S h hf hpv hs
theorem code_round {base β x b fv fo n} {mem mn : Int} {res : Option (M × Rs)} (hn : n ≤ 2 ^ 15)
  (fin : ∀ a τ so' rows fs,a 0 = .ptr x 0 → a 2 = .ptr σ.no 0 → a 3 = .ptr (σ.no + 1) 0 → Mq base β x b [fv,.int .i64 mem,.int .i64 mn] so' σ τ → FnQ σ fv fo rows τ → All2 (Al.FVO τ) rows fs → fs.length = n → res = so'.bind (fun s=>namesR mem mn fs s) → avc Tryz.prog G 131 pc34_r2 (afin Tryz.prog [.cell 2 27] R) a τ)
  {a : Nat → AV} {τ : AS} (hI : LcQ base β x b fv fo mem mn res n σ a τ) : avc Tryz.prog G 131 pc34_l1 (athen (fun a' σ'=>LcQ base β x b fv fo mem mn res n σ a' σ' ∧ MU 4 (n + 1) a' σ' < MU 4 (n + 1) a τ) (ablock 0 (athen (avc Tryz.prog G 131 pc34_r2 (afin Tryz.prog [.cell 2 27] R)) (afin Tryz.prog [.cell 2 27] R)))) a τ:=by
 obtain ⟨ds,hsl,drows,hrows,so',a0,a2,a3,a4,hlen,M,hF,hdr,hhr,he⟩:=hI
 obtain ⟨bv,at_,lsv,many,ls,ho,b1,l1,hto,m1,m2,hm,hbv,hle,hbl⟩:=M.rs.opn
 have hmb:=M.mb
 have hx:=M.hx
 have f1:=hF.one
 have hFl:=hF.len
 have hdl:=hdr.length
 have hhl:=hhr.length
 have h00:=M.rs.others.1
 have fvh : All2 (Al.FVO τ) (drows ++ hrows) (ds ++ hsl):=hdr.append (Al.all2_mono hhr fun v f h=>hv_fvo h00 h)
 by_cases hlt : ds.length < n
 ·have hlt' : (ds.length : Int) < (n : Int):=by omega
  have hrn : (drows ++ hrows).length = n:=by simp; omega
  rw [hrn] at hFl
  cases so' with
  | none =>
   simp [pc34_l1,a0,a2,a3,a4,hmb,hFl,hlt',ho]
   exact fin _ _ none _ _ (by simp [a0]) (by simp [a2]) (by simp [a3]) M hF fvh (by simp; omega) (by rw [he]; rfl)
  | some s =>
   cases hhr with
   | nil=>simp at hlen; omega
   | cons hv hrest =>
   rename_i row f hrows hsl
   have hv':=hv
   obtain ⟨pv,rfl,hpv,e1,e2,e3⟩:=hv
   have hd5:=all2_len5 (fun v a h=>fvo_cells h) hdr
   have hfl : (flat drows).length = ds.length * 5:=by rw [flat_len5 hd5,hdl]
   have hC : flat (drows ++ .agg [.str [],pv,.nilsl,.int .i64 f.type,.nilsl] :: hrows) = flat drows ++ .str [] :: pv :: .nilsl :: .int .i64 f.type :: .nilsl :: flat hrows:=by
    rw [flat_append,flat_cons5]
   rcases hF with ⟨_,q⟩ | ⟨hfv,hfo,hfo2,hfo3⟩
   ·simp at q
   rw [hrn] at hfv
   subst hfv
   rw [hC] at hfo
   have hra:=row_at (X:=flat drows) (Y:=flat hrows) (c0:=.str []) (c1:=pv) (c2:=.nilsl) (c3:=.int .i64 f.type) (c4:=.nilsl) (off:=ds.length * 5) (by omega)
   have w1 : IntKind.wrap .i64 ((ds.length : Int) + 1) = ((ds.length + 1 : Nat) : Int):=by rw [wrap_i64] <;> omega
   have hset : ∀ d0 d1 d2 d3 d4,splice (flat drows ++ .str [] :: pv :: .nilsl :: .int .i64 f.type :: .nilsl :: flat hrows) (ds.length * 5) [d0,d1,d2,d3,d4] = flat drows ++ d0 :: d1 :: d2 :: d3 :: d4 :: flat hrows:=fun d0 d1 d2 d3 d4=>splice_row (by omega)
   have hcl : ds.length * 5 + 5 ≤ (flat drows ++ .str [] :: pv :: .nilsl :: .int .i64 f.type :: .nilsl :: flat hrows).length:=by simp; omega
   have hfe : (flat drows ++ .str [] :: pv :: .nilsl :: .int .i64 f.type :: .nilsl :: flat hrows) = flat (drows ++ .agg [.str [],pv,.nilsl,.int .i64 f.type,.nilsl] :: hrows):=hC.symm
   generalize flat drows ++ .str [] :: pv :: .nilsl :: .int .i64 f.type :: .nilsl :: flat hrows = C at hfo hra hset hcl
   simp [pc34_l1,a0,a2,a3,a4,hmb,hlt',ho,hlt,hfo,hra]
   refine ⟨hcl,code_N M.rs e1 e2 hpv.one fun f' so2 τ2 lv tv hg ⟨y1,y2,y3⟩ hlv htv hR2 hK2=>?_⟩
   have M2:=M.keep hK2 hR2
   have hmb2:=M2.mb
   have hfo2':=(hK2.obj fo hfo3 (by omega)).trans hfo
   have hn2:=hK2.no
   have h002:=hR2.others.1
   have lv1:=hlv.one
   have tv1:=htv.one
   have pv1:=hpv.one
   simp [a3,a4,hmb2,hlt',hlt,hfo2',lv1,tv1,pv1,hset,w1]
   have hfx : ¬ σ.no + 1 = fo:=by omega
   have hxf : ¬ x = fo:=by omega
   have hrf : ¬ σ.no = fo:=by omega
   refine ⟨hcl,⟨ds ++ [f'],hsl,drows ++ [.agg [.str [],pv,lv,.int .i64 f.type,tv]],hrows,so2,by simp [a0],by simp [a2],by simp [a3],by simp,by simp at hlen ⊢; omega,⟨hR2.other hxf,by simp [hrf,M2.rb],by simp [hfx,hmb2],M2.lt,M2.kp.setO (.inr (by omega)),hx⟩,.inr ⟨?_,?_,hfo2,by simp; omega⟩,?_,by simpa using hrest,?_⟩,?_⟩
   ·have : (drows ++ [AV.agg [.str [],pv,lv,.int .i64 f.type,tv]] ++ hrows).length = n:=by simp at hrn ⊢; omega
    rw [this]
   ·simp [flat_append,flat_cons5]
   ·refine (Al.all2_mono hdr fun v f h=>FVO.keepF (σ':=τ2.setO fo _) (σ:=τ) h hK2.nf hK2.fam).append (.cons ⟨pv,lv,tv,?_,?_,IntsO.keepF (σ:=τ2) hlv (Nat.le_refl _) fun _ _=>rfl,LstO.keepF (σ:=τ2) htv (Nat.le_refl _) fun _ _=>rfl⟩ .nil)
    ·rw [y1,e1,y3]
    ·rw [y2]
     exact IntsO.keepF (σ:=τ2) (Al.ints_e h002 hpv) (Nat.le_refl _) fun _ _=>rfl
   ·rw [he]
    simp only [functionsP_cons]
    rw [hg.bind]
    cases so2 with
    | none=>rfl
    | some s2=>simp
   ·simp only [MU,a4]
    simp
    omega
 ·have hsl0 : hsl = []:=List.length_eq_zero_iff.1 (by omega)
  subst hsl0
  have hh0 : hrows = []:=List.length_eq_zero_iff.1 (by simpa using hhl)
  subst hh0
  have hlt' : ¬ (ds.length : Int) < (n : Int):=by omega
  have hrn : (drows ++ ([] : List AV)).length = n:=by simp at hlen ⊢; omega
  rw [hrn] at hFl
  simp [pc34_l1,a3,a4,hmb,hFl,hlt',hlt]
  refine fin _ _ so' _ _ (by simp [a0]) (by simp [a2]) (by simp [a3]) M hF (by simpa using fvh) (by simp at hlen; exact hlen) ?_
  rw [he]
  cases so' with
  | none=>rfl
  | some s=>simp [functionsP]
end
end Go.Proofs.YthejpoplbllcbaaGreatDoor
set_option linter.unusedSimpArgs false
set_option linter.unusedVariables false
namespace Go.Proofs.YthejpoplbllcbaaGreatDoor
open Go Go.Abs
theorem namesP_cons {α : Type} (f : F) (r : List F) (s : Rs) (g : List F × Rs → α) : (namesP true (f :: r) s).map g = (numP true false s).bind fun p => (numP true false p.2).bind fun q => (takeP q.1 q.2).bind fun t => (namesP true r t.2).map fun u => g ({ f with name := t.1 } :: u.1,u.2) := by
 rw [namesP]
 simp only [Option.map_bind,Option.map_map,Function.comp_def]
def LnQ (base : Nat) (β : Option Nat) (x : Nat) (b : List UInt8) (fv : AV) (fo : Nat) (mem mn : Int) (res : Option (M × Rs)) (n : Nat) (σ : AS) (a : Nat → AV) (τ : AS) : Prop := ∃ (ds rsl : List F) (drows rrows : List AV) (so' : Option Rs),a 0 = .ptr x 0 ∧ a 2 = .ptr σ.no 0 ∧ a 3 = .ptr (σ.no + 1) 0 ∧ a 5 = .int .i64 (ds.length : Int) ∧ ds.length + rsl.length = n ∧ Mq base β x b [fv,.int .i64 mem,.int .i64 mn] so' σ τ ∧
 FnQ σ fv fo (drows ++ rrows) τ ∧ All2 (Al.FVO τ) drows ds ∧ All2 (Al.FVO τ) rrows rsl ∧ res = so'.bind fun s=>(namesP true rsl s).map fun q=>({ funcs:=ds ++ q.1,memory:=mem,main:=mn },q.2)
theorem rst_rd {base β x b so σ} (h : RSt base β x b so σ) {φ : Go.Abs.Own} (hφ : famO φ = β) : Readable σ.F φ := by
 obtain ⟨at_,bad,lv,many,ls,h,ht,hm⟩:=h
 cases φ with
 | stat b=>exact trivial
 | fam f b=>exact (h.hβ f hφ.symm).2
section
variable {G : Env} {σ : AS} {R : Out → AS → Prop}
theorem name_round {base β x b fv fo n} {mem mn : Int} {res : Option (M × Rs)} (hn : n ≤ 2 ^ 15)
  (fin : ∀ a τ so' rows fs,a 0 = .ptr x 0 → a 2 = .ptr σ.no 0 → a 3 = .ptr (σ.no + 1) 0 → Mq base β x b [fv,.int .i64 mem,.int .i64 mn] so' σ τ → FnQ σ fv fo rows τ → All2 (Al.FVO τ) rows fs → res = so'.map (fun s=>({ funcs:=fs,memory:=mem,main:=mn },s)) → avc Tryz.prog G 131 pc34_r1 (afin Tryz.prog [.cell 2 27] R) a τ)
  {a : Nat → AV} {τ : AS} (hI : LnQ base β x b fv fo mem mn res n σ a τ) : avc Tryz.prog G 131 pc34_l2 (athen (fun a' σ'=>LnQ base β x b fv fo mem mn res n σ a' σ' ∧ MU 5 (n + 1) a' σ' < MU 5 (n + 1) a τ) (ablock 2 (athen (avc Tryz.prog G 131 pc34_r1 (afin Tryz.prog [.cell 2 27] R)) (afin Tryz.prog [.cell 2 27] R)))) a τ:=by
 obtain ⟨ds,rsl,drows,rrows,so',a0,a2,a3,a5,hlen,M,hF,hdr,hrr,he⟩:=hI
 obtain ⟨bv,at_,lsv,many,ls,ho,b1,l1,hto,m1,m2,hm,hbv,hle,hbl⟩:=M.rs.opn
 have hmb:=M.mb
 have hx:=M.hx
 have f1:=hF.one
 have hFl:=hF.len
 have hdl:=hdr.length
 have hrl:=hrr.length
 have hrn : (drows ++ rrows).length = n:=by simp; omega
 rw [hrn] at hFl
 by_cases hlt : ds.length < n
 ·have hlt' : (ds.length : Int) < (n : Int):=by omega
  cases so' with
  | none =>
   simp [pc34_l2,a0,a2,a3,a5,hmb,hFl,hlt',hlt,ho]
   exact fin _ _ none _ _ (by simp [a0]) (by simp [a2]) (by simp [a3]) M hF (hdr.append hrr) (by rw [he]; rfl)
  | some s =>
   cases hrr with
   | nil=>simp at hlen; omega
   | cons hv hrest =>
   rename_i row f rrows rsl
   have hv':=hv
   obtain ⟨pv,lv,tv,rfl,hpv,hlv,htv⟩:=hv
   have hd5:=all2_len5 (fun v a h=>fvo_cells h) hdr
   have hfl : (flat drows).length = ds.length * 5:=by rw [flat_len5 hd5,hdl]
   have hC : flat (drows ++ .agg [.str f.name,pv,lv,.int .i64 f.type,tv] :: rrows) = flat drows ++ .str f.name :: pv :: lv :: .int .i64 f.type :: tv :: flat rrows:=by
    rw [flat_append,flat_cons5]
   rcases hF with ⟨_,q⟩ | ⟨hfv,hfo,hfo2,hfo3⟩
   ·simp at q
   rw [hrn] at hfv
   subst hfv
   rw [hC] at hfo
   have w1 : IntKind.wrap .i64 ((ds.length : Int) + 1) = ((ds.length + 1 : Nat) : Int):=by rw [wrap_i64] <;> omega
   have hset : ∀ v,splice (flat drows ++ .str f.name :: pv :: lv :: .int .i64 f.type :: tv :: flat rrows) (ds.length * 5) [v] = flat drows ++ v :: pv :: lv :: .int .i64 f.type :: tv :: flat rrows:=fun v=>set_first (by omega)
   have hcl : ds.length * 5 + 1 ≤ (flat drows ++ .str f.name :: pv :: lv :: .int .i64 f.type :: tv :: flat rrows).length:=by simp; omega
   generalize flat drows ++ .str f.name :: pv :: lv :: .int .i64 f.type :: tv :: flat rrows = C at hfo hset hcl
   simp [pc34_l2,a0,a2,a3,a5,hmb,hFl,hlt',hlt,ho]
   refine number_S M.rs fun k1 so1 τ1 hg1 _ _ _ hR1 hK1=>?_
   have M1:=M.keep hK1.c hR1
   simp [a0]
   refine number_S hR1 fun k so2 τ2 hg2 hk1 hk2 hk3 hR2 hK2=>?_
   have M2:=M1.keep hK2.c hR2
   obtain ⟨bv2,at2,lsv2,many2,ls2,ho2,b2,l2,hto2,_,_,hm2,hbv2,hle2,hbl2⟩:=hR2.opn
   simp [a0,ho2]
   refine skip_A (n:=at2) (hk3 rfl) hk2 hR2 ⟨_,at2,ho2,rfl,Nat.le_refl _⟩ fun τ3 hR3 hK3 hA3=>?_
   have M3:=M2.keep hK3.c hR3
   have K3:=(hK1.c.trans hK2.c).trans hK3.c
   have hmb3:=M3.mb
   obtain ⟨bv3,at3,lsv3,many3,ls3,ho3,b3,l3,hto3,_,_,hm3,hbv3,hle3,hbl3⟩:=hR3.opn
   have hat:=hA3.le ho3 rfl
   have hfo3':=(K3.obj fo hfo3 (by omega)).trans hfo
   have hn3:=K3.no
   have hfx : ¬ σ.no + 1 = fo:=by omega
   have hxf : ¬ x = fo:=by omega
   have hrf : ¬ σ.no = fo:=by omega
   have next : ∀ (a' : Nat → AV),a' 0 = .ptr x 0 → a' 2 = .ptr σ.no 0 → a' 3 = .ptr (σ.no + 1) 0 → a' 5 = .int .i64 ((ds.length + 1 : Nat) : Int) → LnQ base β x b (.slm fo 0 5 n) fo mem mn res n σ a' (τ3.setO fo (splice C (ds.length * 5) [.str ((b.take at3).drop at2)])) ∧ MU 5 (n + 1) a' (τ3.setO fo (splice C (ds.length * 5) [.str ((b.take at3).drop at2)])) < MU 5 (n + 1) a τ:=by
    intro a' e0 e2 e3 e5
    refine ⟨⟨ds ++ [{ f with name:=(b.take at3).drop at2 }],rsl,drows ++ [.agg [.str ((b.take at3).drop at2),pv,lv,.int .i64 f.type,tv]],rrows,_,e0,e2,e3,by rw [e5]; simp,by simp at hlen ⊢; omega,⟨hR3.other hxf,by simp [hrf,M3.rb],by simp [hfx,hmb3],M3.lt,M3.kp.setO (.inr (by omega)),hx⟩,.inr ⟨?_,?_,hfo2,by simp; omega⟩,?_,Al.all2_mono hrest fun v f h=>FVO.keepF (σ':=τ3.setO fo _) (σ:=τ) h K3.nf K3.fam,?_⟩,?_⟩
    ·have : (drows ++ [AV.agg [.str ((b.take at3).drop at2),pv,lv,.int .i64 f.type,tv]] ++ rrows).length = n:=by simp at hrn ⊢; omega
     rw [this]
    ·simp [flat_append,flat_cons5,hset]
    ·exact (Al.all2_mono hdr fun v f h=>FVO.keepF (σ':=τ3.setO fo _) (σ:=τ) h K3.nf K3.fam).append (.cons ⟨pv,lv,tv,rfl,IntsO.keepF (σ:=τ) hpv K3.nf K3.fam,IntsO.keepF (σ:=τ) hlv K3.nf K3.fam,LstO.keepF (σ:=τ) htv K3.nf K3.fam⟩ .nil)
    ·rw [he]
     simp only [namesP_cons]
     rw [hg1.bind]
     simp only
     have:=hg2.bind (fun q=>(takeP q.1 q.2).bind fun t=>(namesP true rsl t.2).map fun u=>(({ funcs:=ds ++ ({ f with name:=t.1 } :: u.1),memory:=mem,main:=mn } : YthejpoplbllcbaaGreatDoor.M),u.2))
     simp only at this
     rw [this]
     cases so2 with
     | none=>rfl
     | some s2 =>
      simp only [Option.bind_some] at hm3 ⊢
      unfold skipP at hm3 ⊢
      cases ht : takeP k s2 with
      | none=>rfl
      | some t =>
       obtain ⟨p,s3⟩:=t
       rw [ht] at hm3
       have q2:=(hm2 s2 rfl).2.2
       have q3:=(hm3 s3 rfl).2.2
       obtain ⟨z1,_⟩:=takeP_some ht
       have hp : p = (b.take at3).drop at2:=by
        have z2:=cut_parts hat hle3
        rw [← q2,← q3,z1] at z2
        exact List.append_cancel_right z2
       subst hp
       simp
    ·simp only [MU,e5,a5]; omega
   rcases hbv3 with ⟨hb0,rfl⟩ | ⟨φ,hφ,rfl⟩
   ·have h30 : at3 = 0:=by rw [hb0] at hle3; simpa using hle3
    have h20 : at2 = 0:=by omega
    have hbb : (b.take at3).drop at2 = []:=by rw [hb0]; simp
    rw [hbb] at next
    simp [a0,a3,a5,hmb3,ho3,hfo3',hlt',hlt,h30,h20,w1]
    exact ⟨hcl,next _ (by simp [a0]) (by simp [a2]) (by simp [a3]) (by simp)⟩
   ·have hrd:=rst_rd hR3 hφ
    have e1 : List.drop at2 (List.take at3 (B b)) = B ((b.take at3).drop at2):=by rw [B_take,B_drop]
    have hrd2 : ∀ f,Readable τ3.F (cut φ f):=fun f=>by cases φ with | stat b=>simp [cut] | fam g k=>simpa [cut] using hrd
    simp [a0,a3,a5,hmb3,ho3,hfo3',hlt',hlt,w1,e1,hrd,hrd2]
    exact ⟨hat,hle3,hcl,next _ (by simp [a0]) (by simp [a2]) (by simp [a3]) (by simp)⟩
 ·have hsl0 : rsl = []:=List.length_eq_zero_iff.1 (by omega)
  subst hsl0
  have hh0 : rrows = []:=List.length_eq_zero_iff.1 (by simpa using hrl)
  subst hh0
  have hlt' : ¬ (ds.length : Int) < (n : Int):=by omega
  simp [pc34_l2,a3,a5,hmb,hFl,hlt',hlt]
  refine fin _ _ so' _ _ (by simp [a0]) (by simp [a2]) (by simp [a3]) M hF (by simpa using hdr) ?_
  rw [he]
  cases so' with
  | none=>rfl
  | some s=>simp [namesP]
end
end Go.Proofs.YthejpoplbllcbaaGreatDoor
set_option linter.unusedSimpArgs false
set_option linter.unusedVariables false
namespace Go.Proofs.YthejpoplbllcbaaGreatDoor
open Go Go.Abs
theorem skip_bind {γ : Type} (so : Option Rs) (N : Int) (g : Rs → Option γ) : (so.bind fun s => (skipP N s).bind g) = (so.bind (skipP N)).bind g := by cases so <;> rfl
theorem own_heads {base β x b so σ τ v rows} {P : AS → Prop} (M : Mq base β x b [v,.int .i64 0,.int .i64 0] so σ τ) (hG : GrowQ σ x 5 τ v rows) (hb : base ≤ σ.nf) (key : ∀ fv fo τ',Mq base β x b [fv,.int .i64 0,.int .i64 0] so σ τ' → FnQ σ fv fo rows τ' → P τ') :
  P τ ∨ ∃ g fo j sz b' cs xs,τ.F g = .alive ∧ τ.objs fo = some cs ∧ cs[j]? = some (.sl (.fam g b') sz xs) ∧ P (τ.own g fo (cs.set j (.slm τ.no 0 sz xs.length)) (flat xs)):=by
 rcases hG with ⟨q1,q2⟩ | ⟨g,q1,q2,q3,q4,q5⟩
 ·exact .inl (key v 0 τ M (.inl ⟨q2,q1⟩))
 ·subst q1
  refine .inr ⟨g,σ.no + 1,0,5,false,[.sl (.fam g false) 5 rows,.int .i64 0,.int .i64 0],rows,q4,M.mb,rfl,?_⟩
  have hx:=M.hx
  have hl:=M.lt
  have hR:=M.rs.endF (g:=g) (by omega) q5
  obtain ⟨at_,bad,lv,many,ls,h,ht,hm⟩:=hR
  obtain ⟨bv,ho,hv⟩:=h.cells
  have hxm : ¬ x = σ.no + 1:=by omega
  have hxn : ¬ x = τ.no:=by omega
  have hm3 : ¬ σ.no + 1 = τ.no:=by omega
  have hr3 : ¬ σ.no = τ.no:=by omega
  have hr4 : ¬ σ.no = σ.no + 1:=by omega
  refine key (.slm τ.no 0 5 rows.length) τ.no _ ⟨⟨at_,bad,lv,many,ls,⟨by simp; omega,h.hb,by simpa using h.h0,fun f hf=>by simpa using h.hβ f hf,h.le,h.hl,h.lo,bv,by simpa [hxm,hxn] using ho,hv⟩,?_,hm⟩,by simp [hr3,hr4,M.rb],by simp [hm3],by simp; omega,⟨by have:=M.kp.no; simp; omega,M.kp.nf,fun o h1 h2=>?_,fun f hf=>?_⟩,hx⟩ (.inr ⟨rfl,by simp,by omega,by simp⟩)
  ·rcases ht with h1 | ⟨f,tos,h1,h2,h3,h4,h5⟩
   ·exact .inl h1
   ·exact .inr ⟨f,tos,h1,h2,h3,by simpa using h4,h5⟩
  ·have e1 : ¬ o = τ.no:=by have:=M.kp.no; omega
   have e2 : ¬ o = σ.no + 1:=by omega
   simp [e1,e2]
   exact M.kp.obj o h1 h2
  ·have : ¬ f = g:=by omega
   simp [this]
   exact M.kp.fam f hf
section
variable {G : Env} {σ : AS} {R : Out → AS → Prop}
theorem read_r2 {base β x b fv fo rows fs so τ} {mem mn : Int} {res : Option (M × Rs)} {a : Nat → AV} (a0 : a 0 = .ptr x 0) (a2 : a 2 = .ptr σ.no 0) (a3 : a 3 = .ptr (σ.no + 1) 0) (M : Mq base β x b [fv,.int .i64 mem,.int .i64 mn] so σ τ) (hF : FnQ σ fv fo rows τ) (hr : All2 (Al.FVO τ) rows fs) (hl : fs.length ≤ 2 ^ 15) (he : res = so.bind fun s => namesR mem mn fs s)
  (hs : ∀ mv m so' σ',res = so'.map (fun s=>(m,s)) → Al.MO σ' mv m → RSt base β x b so' σ' → KeepC x σ σ' → R (.ret mv) σ') : avc Tryz.prog G 131 pc34_r2 (afin Tryz.prog [.cell 2 27] (OwnR R)) a τ:=by
 have hx:=M.hx
 simp [pc34_r2,a0]
 refine next_S M.rs fun c so1 τ1 hg1 hR1 hK1=>?_
 have M1:=M.keep hK1.c hR1
 simp [a0]
 refine number_S hR1 fun n2 so2 τ2 hg2 _ _ _ hR2 hK2=>?_
 have M2:=M1.keep hK2.c hR2
 simp [a0]
 refine skip_S (by omega) (by omega) hR2 fun τ3 hR3 hK3=>?_
 have M3:=M2.keep hK3.c hR3
 simp [a0]
 refine number_S hR3 fun n4 so4 τ4 hg4 _ _ _ hR4 hK4=>?_
 have M4:=M3.keep hK4.c hR4
 simp [a0]
 refine number_S hR4 fun n5 so5 τ5 hg5 _ _ _ hR5 hK5=>?_
 have M5:=M4.keep hK5.c hR5
 have K5:=((((hK1.trans hK2).trans hK3).trans hK4).trans hK5).c
 have hrl:=hr.length
 simp
 have he5 : res = so5.bind fun s=>(namesP true fs s).map fun q=>(({ funcs:=q.1,memory:=mem,main:=mn } : YthejpoplbllcbaaGreatDoor.M),q.2):=by
  rw [he]
  unfold namesR
  rw [(hg1.sec hg2).bind]
  simp only
  rw [skip_bind,hg4.bind]
  simp only
  have:=hg5.bind (fun q=>(namesP true fs q.2).map fun q=>(({ funcs:=q.1,memory:=mem,main:=mn } : YthejpoplbllcbaaGreatDoor.M),q.2))
  simp only at this
  exact this
 refine aloop (LnQ base β x b fv fo mem mn res fs.length σ) (MU 5 (fs.length + 1)) ⟨[],fs,[],rows,so5,by simp [a0],by simp [a2],by simp [a3],by simp,by simp,M5,by simpa using hF.keep K5 hx,.nil,Al.all2_mono hr fun v f h=>FVO.keepF (σ:=τ) h K5.nf K5.fam,by rw [he5]; rfl⟩ fun a τ hI=>?_
 refine name_round hl (fun a τ so' rows fs b0 b2 b3 M hF hr he=>?_) hI
 exact read_end b2 b3 M hF hr fun mv σ' hm hR hK=>hs mv _ so' σ' he hm hR hK
theorem read_S {base β x b so} (h : RSt base β x b so σ) (hs : ∀ mv m so' σ',GotQ so moduleR m so' → Al.MO σ' mv m → RSt base β x b so' σ' → KeepC x σ σ' → R (.ret mv) σ') : ACalls Tryz.prog G 34 [.ptr x 0] σ R := by
 refine famOr (calls34 rfl ?_)
 show avc Tryz.prog G 131 pc34 (afin Tryz.prog [.cell 2 27] (OwnR R)) _ σ
 generalize hres : so.bind moduleR = res
 have he : res = so.bind fun s=>moduleR s:=hres.symm
 have hs' : ∀ mv m so' σ',res = so'.map (fun s=>(m,s)) → Al.MO σ' mv m → RSt base β x b so' σ' → KeepC x σ σ' → R (.ret mv) σ':=fun mv m so' σ' q=>hs mv m so' σ' (hres.trans q)
 simp only [moduleR_eq] at he
 have hx:=h.hx
 obtain ⟨_,_,_,_,_,ho0,_⟩:=h.opn
 have hA : Adds σ ((σ.newO [.nilsl,.int .i64 0,.int .i64 0]).newO [.nilsl,.int .i64 0,.int .i64 0]):=(Adds.refl σ).newO.newO
 have M0 : Mq base β x b [.nilsl,.int .i64 0,.int .i64 0] so σ ((σ.newO [.nilsl,.int .i64 0,.int .i64 0]).newO [.nilsl,.int .i64 0,.int .i64 0]):=⟨h.adds hA,by simp,by simp,by simp,hA.keepC,hx⟩
 have hnf0 : ((σ.newO [.nilsl,.int .i64 0,.int .i64 0]).newO [.nilsl,.int .i64 0,.int .i64 0]).nf = σ.nf:=by simp
 simp [pc34]
 generalize (σ.newO [.nilsl,.int .i64 0,.int .i64 0]).newO [.nilsl,.int .i64 0,.int .i64 0] = τ0 at *
 refine skip_S (by omega) (by omega) M0.rs fun τ1 hR1 hK1=>?_
 have M1:=M0.keep hK1.c hR1
 rw [skip_bind] at he
 simp
 refine heads_S hR1.base_le hR1 fun v rows l so2 τ2 hg2 hrows hll hG hR2 hK2=>?_
 have M2:=M1.keep hK2.c hR2
 rw [hg2.bind] at he
 simp only at he
 have hmb2:=M2.mb
 have v1:=hG.one
 simp [hmb2,v1,splice]
 have M2' : Mq base β x b [v,.int .i64 0,.int .i64 0] so2 σ (τ2.setO (σ.no + 1) [v,.int .i64 0,.int .i64 0]):=M2.setM
 have hnf2 : σ.nf ≤ τ1.nf:=by have:=hK1.nf; omega
 have hrl:=hrows.length
 have hG2 : GrowQ σ x 5 (τ2.setO (σ.no + 1) [v,.int .i64 0,.int .i64 0]) v rows:=by
  have hxo : ¬ x = σ.no + 1:=by omega
  rcases hG with q | ⟨g,q1,q2,q3,q4,q5⟩
  ·exact .inl q
  ·have : GrowQ σ x 5 τ2 v rows:=.inr ⟨g,q1,by omega,q3,q4,q5⟩
   exact this.other hxo
 generalize τ2.setO (σ.no + 1) [v,.int .i64 0,.int .i64 0] = τ2' at *
 refine ownAt (next_S M2'.rs fun c so3 τ3 hg3 hR3 hK3=>?_)
 refine own_heads (M2'.keep hK3.c hR3) (hG2.keep hK3.r) h.base_le fun fv fo τ3' M3 hF3=>?_
 have f1:=hF3.one
 simp
 refine number_S M3.rs fun n4 so4 τ4 hg4 p1 p2 p3 hR4 hK4=>?_
 have M4:=M3.keep hK4.c hR4
 have hF4:=hF3.keep hK4.c hx
 rw [(hg3.sec hg4).bind] at he
 simp only at he
 rw [skip_bind] at he
 simp
 refine skip_S (p3 rfl) p2 hR4 fun τ5 hR5 hK5=>?_
 have M5:=M4.keep hK5.c hR5
 have hF5:=hF4.keep hK5.c hx
 simp
 refine next_S hR5 fun c6 so6 τ6 hg6 hR6 hK6=>?_
 have M6:=M5.keep hK6.c hR6
 have hF6:=hF5.keep hK6.c hx
 simp
 refine number_S hR6 fun n7 so7 τ7 hg7 p1 p2 p3 hR7 hK7=>?_
 have M7:=M6.keep hK7.c hR7
 have hF7:=hF6.keep hK7.c hx
 rw [(hg6.sec hg7).bind] at he
 simp only at he
 rw [skip_bind] at he
 simp
 refine skip_S (p3 rfl) p2 hR7 fun τ8 hR8 hK8=>?_
 have M8:=M7.keep hK8.c hR8
 have hF8:=hF7.keep hK8.c hx
 rw [skip_bind] at he
 simp
 refine skip_S (by omega) (by omega) hR8 fun τ9 hR9 hK9=>?_
 have M9:=M8.keep hK9.c hR9
 have hF9:=hF8.keep hK9.c hx
 simp
 refine next_S hR9 fun c10 so10 τ10 hg10 hR10 hK10=>?_
 have M10:=M9.keep hK10.c hR10
 have hF10:=hF9.keep hK10.c hx
 simp
 refine number_S hR10 fun n11 so11 τ11 hg11 _ _ _ hR11 hK11=>?_
 have M11:=M10.keep hK11.c hR11
 have hF11:=hF10.keep hK11.c hx
 rw [(hg10.sec hg11).bind] at he
 simp only at he
 rw [skip_bind] at he
 simp
 refine skip_S (by omega) (by omega) hR11 fun τ12 hR12 hK12=>?_
 have M12:=M11.keep hK12.c hR12
 have hF12:=hF11.keep hK12.c hx
 simp
 refine number_S hR12 fun mem so13 τ13 hg13 _ _ _ hR13 hK13=>?_
 have M13:=M12.keep hK13.c hR13
 have hF13:=hF12.keep hK13.c hx
 have hmb13:=M13.mb
 rw [hg13.bind] at he
 simp only at he
 simp [hmb13,splice]
 have M13' : Mq base β x b [fv,.int .i64 mem,.int .i64 0] so13 σ (τ13.setO (σ.no + 1) [fv,.int .i64 mem,.int .i64 0]):=M13.setM
 have hF13' : FnQ σ fv fo rows (τ13.setO (σ.no + 1) [fv,.int .i64 mem,.int .i64 0]):=hF13.setM
 generalize τ13.setO (σ.no + 1) [fv,.int .i64 mem,.int .i64 0] = τ13' at *
 rw [skip_bind] at he
 refine skip_S (by omega) (by omega) M13'.rs fun τ14 hR14 hK14=>?_
 have M14:=M13'.keep hK14.c hR14
 have hF14:=hF13'.keep hK14.c hx
 simp
 refine next_S hR14 fun c15 so15 τ15 hg15 hR15 hK15=>?_
 have M15:=M14.keep hK15.c hR15
 have hF15:=hF14.keep hK15.c hx
 simp
 refine number_S hR15 fun n16 so16 τ16 hg16 _ _ _ hR16 hK16=>?_
 have M16:=M15.keep hK16.c hR16
 have hF16:=hF15.keep hK16.c hx
 rw [(hg15.sec hg16).bind] at he
 simp only at he
 rw [skip_bind] at he
 simp
 refine skip_S (by omega) (by omega) hR16 fun τ17 hR17 hK17=>?_
 have M17:=M16.keep hK17.c hR17
 have hF17:=hF16.keep hK17.c hx
 simp
 refine number_S hR17 fun mn so18 τ18 hg18 _ _ _ hR18 hK18=>?_
 have M18:=M17.keep hK18.c hR18
 have hF18:=hF17.keep hK18.c hx
 have hmb18:=M18.mb
 rw [hg18.bind] at he
 simp only at he
 unfold tailR at he
 simp [hmb18,splice]
 have M18' : Mq base β x b [fv,.int .i64 mem,.int .i64 (IntKind.wrap .i64 (mn - 3))] so18 σ (τ18.setO (σ.no + 1) [fv,.int .i64 mem,.int .i64 (IntKind.wrap .i64 (mn - 3))]):=M18.setM
 have hF18' : FnQ σ fv fo rows (τ18.setO (σ.no + 1) [fv,.int .i64 mem,.int .i64 (IntKind.wrap .i64 (mn - 3))]):=hF18.setM
 generalize τ18.setO (σ.no + 1) [fv,.int .i64 mem,.int .i64 (IntKind.wrap .i64 (mn - 3))] = τ18' at *
 refine next_S M18'.rs fun c19 so19 τ19 hg19 hR19 hK19=>?_
 have M19:=M18'.keep hK19.c hR19
 have hF19:=hF18'.keep hK19.c hx
 simp
 refine number_S hR19 fun n20 so20 τ20 hg20 _ _ _ hR20 hK20=>?_
 have M20:=M19.keep hK20.c hR20
 have hF20:=hF19.keep hK20.c hx
 rw [(hg19.sec hg20).bind] at he
 simp only at he
 simp
 refine number_S hR20 fun n21 so21 τ21 hg21 _ _ _ hR21 hK21=>?_
 have M21:=M20.keep hK21.c hR21
 have hF21:=hF20.keep hK21.c hx
 rw [hg21.bind] at he
 simp only at he
 simp
 refine aloop (LcQ base β x b fv fo mem (IntKind.wrap .i64 (mn - 3)) res l.length σ) (MU 4 (l.length + 1)) ⟨[],l,[],rows,so21,by simp,by simp,by simp,by simp,by simp,M21,by simpa using hF21,.nil,hrows,by rw [he]; simp⟩ fun a τ hI=>?_
 refine code_round hll (fun a τ so' rows fs b0 b2 b3 M hF hr hl he=>?_) hI
 exact read_r2 b0 b2 b3 M hF hr (by omega) he hs'
end
end Go.Proofs.YthejpoplbllcbaaGreatDoor
set_option linter.unusedSimpArgs false
set_option linter.unusedVariables false
namespace Go.Proofs.YthejpoplbllcbaaGreatDoor
open Go Go.Abs
theorem secR_len {s s' : Rs} {n : Int} (h : secR s = some (n,s')) : s'.b.length ≤ s.b.length := by
 unfold secR at h
 simp only [Option.bind_eq_some_iff] at h
 obtain ⟨⟨c,s1⟩,h1,h2⟩:=h
 obtain ⟨b1,_⟩:=byteP_some h1
 have a:=num_len h2
 simp only at *
 rw [b1]
 simp only [List.length_cons]
 omega
theorem headsR_size {s s' : Rs} {l : List F} (h : headsR s = some (l,s')) : s'.b.length + l.length + paramsL l ≤ s.b.length := by
 unfold headsR at h
 simp only [Option.bind_eq_some_iff,Option.map_eq_some_iff] at h
 obtain ⟨⟨c1,s1⟩,h1,⟨n,s2⟩,h2,⟨hs,s3⟩,h3,h4⟩:=h
 cases h4
 have a:=heads_size h3
 have b:=paramsL_drop hs 3
 have c:=num_len h2
 have d:=secR_len h1
 have e : (hs.drop 3).length ≤ hs.length:=by simp
 simp only [paramsL] at *
 omega
theorem frontR_size {s s' : Rs} {hs : List F} {mem mn : Int} (h : frontR s = some ((hs,mem,mn),s')) : s'.b.length + hs.length + paramsL hs ≤ s.b.length := by
 unfold frontR at h
 simp only [Option.bind_eq_some_iff,Option.map_eq_some_iff] at h
 obtain ⟨s1,h1,⟨hs',s2⟩,h2,⟨n3,s3⟩,h3,s4,h4,⟨n5,s5⟩,h5,s6,h6,s7,h7,⟨n8,s8⟩,h8,s9,h9,⟨mem',s15⟩,h15,s16,h16,⟨n17,s17⟩,h17,s18,h18,⟨mn',s19⟩,h19,h20⟩:=h
 cases h20
 have a1:=skipP_len h1
 have a2:=headsR_size h2
 have a3:=secR_len h3
 have a4:=skipP_len h4
 have a5:=secR_len h5
 have a6:=skipP_len h6
 have a7:=skipP_len h7
 have a8:=secR_len h8
 have a9:=skipP_len h9
 have a15:=num_len h15
 have a16:=skipP_len h16
 have a17:=secR_len h17
 have a18:=skipP_len h18
 have a19:=num_len h19
 simp only at *
 omega
theorem moduleR_size {b : List UInt8} {m : M} {s' : Rs} (h : moduleR ⟨b,[],0⟩ = some (m,s')) (hb : b.length ≤ 2 ^ 29) : (∀ f ∈ m.funcs,SzB f) ∧ m.funcs.length ≤ 2 ^ 30 ∧ (-(2 ^ 63) ≤ m.memory ∧ m.memory < 2 ^ 63) ∧ ∃ y,encM m = some y ∧ y.length ≤ 2 ^ 36 := by
 unfold moduleR at h
 simp only [Option.bind_eq_some_iff,Option.map_eq_some_iff] at h
 obtain ⟨⟨⟨hs,mem,mn⟩,s1⟩,h3,⟨fs,s2⟩,h4,h5⟩:=h
 simp only [Prod.mk.injEq] at h5
 obtain ⟨rfl,rfl⟩:=h5
 obtain ⟨a1,a2,a3,a4⟩:=frontR_some h3
 have a5:=frontR_size h3
 obtain ⟨b1,b2⟩:=backR_some h4 fun f hf=>(a1 f hf).1
 have b2:=b2 a4
 unfold backR at h4
 simp only [Option.bind_eq_some_iff] at h4
 obtain ⟨⟨c4,s4⟩,h6,⟨c,s5⟩,h7,⟨fs1,s6⟩,h9,⟨c7,s7⟩,h10,s8,h11,⟨xx,s9⟩,h12,⟨y,s10⟩,h13,h14⟩:=h4
 ··obtain ⟨⟨cs,c1,c2⟩,c3⟩:=functionsP_size h9 fun f hf=>(a1 f hf).1
   have cl:=(functionsP_some h9 fun f hf=>(a1 f hf).1).2.2.2
   obtain ⟨d1,d2,d3⟩:=namesP_size h14
   have hnn:=namesP_some h14
   have l1:=secR_len h6
   have l2:=num_len h7
   have l3:=secR_len h10
   have l4:=skipP_len h11
   have l5:=num_len h12
   have l6:=num_len h13
   have hmn:=noname_many hnn
   have hpn:=paramsL_noname hnn
   have hpf:=paramsL_from h9
   simp only at *
   have hs6 : s6.b.length ≤ s5.b.length:=by
    have : ∀ {hs fs : List F} {s s' : Rs},functionsP true hs s = some (fs,s') → s'.b.length ≤ s.b.length:=by
     intro hs
     induction hs with
     | nil=>intro fs s s' h; cases h; exact Nat.le_refl _
     | cons f hs ih =>
      intro fs s s' h
      rw [functionsP] at h
      simp only [Option.bind_eq_some_iff,Option.map_eq_some_iff] at h
      obtain ⟨⟨f',s1⟩,h1,⟨fs',s2⟩,h2,h3⟩:=h
      cases h3
      exact Nat.le_trans (ih h2) (functionP_len h1)
    exact this h9
   refine ⟨fun f hf=>?_,by omega,a2,?_⟩
   ·obtain ⟨g,hg,e⟩:=noname_mem hnn hf
    have e1 : g.params = f.params:=by have:=congrArg F.params e; exact this
    have e3 : g.lists = f.lists:=by have:=congrArg F.lists e; exact this
    obtain ⟨q1,q2,q3⟩:=c3 g hg
    rw [e3] at q1 q2 q3
    have hp:=paramsL_mem hg
    rw [e1] at hp
    have hlo : f.locals.length ≤ manyL fs:=by
     have : ∀ {l : List F},f ∈ l → f.locals.length ≤ manyL l:=by
      intro l h
      induction l with
      | nil=>cases h
      | cons a l ih =>
       simp only [manyL,List.map_cons,List.sum_cons] at *
       rcases List.mem_cons.1 h with rfl | h
       ·omega
       ·have:=ih h; omega
     exact this hf
    have hna:=d2 f hf
    exact ⟨by omega,by omega,by omega,fun ws hw=>by have:=q2 ws hw; omega,by omega,q3⟩
   ·have hcc : codesF fs = some cs:=by rw [codesF_noname hnn]; exact c1
    refine ⟨_,by unfold encM; simp only; rw [hcc]; rfl,?_⟩
    have u1:=heads_bytes fs
    have u2:=nums_bytes fs 3
    have u3:=d1 3
    have u4 : (headsL fs).flatten.length ≤ 120 + (32 * fs.length + paramsL fs):=by
     have e1 : (headsL fs).flatten = headL [] 2 ++ (headL [2] 0 ++ (headL [1] 0 ++ (fs.map fun f=>headL f.params f.type).flatten)):=by simp [headsL]
     have e2 : (headL [] 2).length ≤ 40:=by decide
     have e3 : (headL [2] 0).length ≤ 40:=by decide
     have e4 : (headL [1] 0).length ≤ 40:=by decide
     rw [e1]
     simp only [List.length_append]
     omega
    have u5 : (rowL importsL).length ≤ 40:=by decide
    have s1':=sec_len 1 (rowL (headsL fs))
    have s2':=sec_len 2 (rowL importsL)
    have s3':=sec_len 3 (rowL (numsF 3 fs))
    have s5':=sec_len 5 [1,0,1]
    have s6':=sec_len 6 ([1,127,0,65] ++ sI mem ++ [11])
    have s7':=sec_len 7 ([1] ++ sizedL [109,97,105,110] ++ [0] ++ uI (mainL { funcs:=fs,memory:=mem,main:=IntKind.wrap .i64 (mn - 3) }))
    have s10':=sec_len 10 (rowL cs)
    have s0':=sec_len 0 (sizedL [110,97,109,101] ++ [1] ++ sizedL (rowL (namesF 3 fs)))
    have v1:=sized_len (rowL (namesF 3 fs))
    have v2:=sI_len mem
    have v3:=uI_len (mainL { funcs:=fs,memory:=mem,main:=IntKind.wrap .i64 (mn - 3) })
    have v4 : (sizedL [109,97,105,110]).length = 5:=by decide
    have v5 : (sizedL [110,97,109,101]).length = 5:=by decide
    have w1 : (rowL (headsL fs)).length ≤ 10 + (headsL fs).flatten.length:=by have:=uI_len (headsL fs).length; simp only [rowL,List.length_append]; omega
    have w3 : (rowL (numsF 3 fs)).length ≤ 10 + (numsF 3 fs).flatten.length:=by have:=uI_len (numsF 3 fs).length; simp only [rowL,List.length_append]; omega
    have w10 : (rowL cs).length ≤ 10 + cs.flatten.length:=by have:=uI_len cs.length; simp only [rowL,List.length_append]; omega
    have w0 : (rowL (namesF 3 fs)).length ≤ 10 + (namesF 3 fs).flatten.length:=by have:=uI_len (namesF 3 fs).length; simp only [rowL,List.length_append]; omega
    have hmg : magicL.length = 8:=rfl
    simp only [List.length_append,List.length_cons,List.length_nil] at *
    omega
end Go.Proofs.YthejpoplbllcbaaGreatDoor
set_option linter.unusedSimpArgs false
set_option linter.unusedVariables false
namespace Go.Proofs.YthejpoplbllcbaaGreatDoor
open Go Go.Abs
@[simp] theorem blit_u8tmp (t i n j k) : blitSl t [(i,.const (.int .u8 n)),(j,.tmp k)] = false := by simp [blitSl]
theorem kind_byte {t : Int} (h : t = 1 ∨ t = 2) : (if t = 2 then (126 : Int) else 127) = ((byteI (128 - t)).toNat : Int) := by
 rcases h with rfl | rfl <;> decide
section
variable {G : Env} {σ : AS} {R : Out → AS → Prop}
theorem lit_grow {σ1 : AS} {v1 : AV} {ys : List AV} {x y : List UInt8} {K : AV → AS → Prop} (h1 : LitB σ σ1 v1 x) (e : ys = B y) (hl : x.length + y.length ≤ 2 ^ 42) (h : ∀ v σ',LitB σ σ' v (x ++ y) → σ'.objs = σ1.objs → σ'.no = σ1.no → K v σ') : grown 1 1 v1 ys σ1 K := by
 subst e
 have hA:=h1.2
 have hgn:=hA.nf
 have nw : ∀ (z : List UInt8),OutG σ1.newF σ.nf 1 (.sl (.fam σ1.nf false) 1 (B z)) (B z):=fun z=>.inr ⟨σ1.nf,rfl,hgn,by simp,by simp⟩
 have h1':=h1.1
 rcases h1' with rfl | ⟨h3,rfl⟩ | ⟨g,rfl,g1,g2,g3⟩
 ·cases y with
  | nil =>
   have e0 : B [] = []:=rfl
   rw [e0]
   simp
   have:=h _ _ (by rw [List.append_nil]; exact h1) rfl rfl
   exact ⟨by simp at hl; omega,this⟩
  | cons c y =>
   have:=h (.sl (.fam σ1.nf false) 1 (B (x ++ c :: y))) σ1.newF ⟨.inr (nw _),hA.newF⟩ (by simp) (by simp)
   simp only [B,List.map_append,List.map_cons] at this ⊢
   simp
   simp at hl
   exact ⟨by omega,this⟩
 ·have hx : x = []:=by simpa [B] using h3
  subst hx
  cases y with
  | nil =>
   have e0 : B [] = []:=rfl
   rw [e0]
   simp
   exact h _ _ h1 rfl rfl
  | cons c y =>
   have:=h (.sl (.fam σ1.nf false) 1 (B (c :: y))) σ1.newF ⟨.inr (nw _),hA.newF⟩ (by simp) (by simp)
   simp only [B,List.map_cons] at this ⊢
   simp
   simp at hl
   exact ⟨by omega,this⟩
 ·simp [g3]
  refine ⟨by omega,h _ _ ⟨.inr (.inr ⟨σ1.nf,by simp,hgn,by simp,by simp⟩),(hA.setF g1).newF (σ':=σ1.setF g .dead)⟩ (by simp) (by simp)⟩
theorem lit_src {σ1 : AS} {v1 v2 : AV} {x y : List UInt8} {K : AV → AS → Prop} (h1 : LitB σ σ1 v1 x) (h2 : BytO σ1 v2 y) (hl : x.length + y.length ≤ 2 ^ 42) (h : ∀ v σ',LitB σ σ' v (x ++ y) → σ'.objs = σ1.objs → σ'.no = σ1.no → K v σ') :
  asource Tryz.prog 22 (.int .u8 0) 1 v2 σ1.F fun ys=>(∀ y,y ∈ ys → y.cells.length = 1 ∧ ∀ c,c ∈ y.cells → c.one = true) ∧ grown 1 1 v1 ys σ1 K:=by
 rcases h2 with ⟨rfl,rfl⟩ | ⟨φ,rfl,hr⟩
 ·simp
  exact lit_grow (y:=[]) h1 rfl hl h
 ·have hr':=hr.read
  simp [hr']
  exact ⟨B_one y,lit_grow h1 rfl hl h⟩
theorem kindE_calls {t : Int} (ht : t = 1 ∨ t = 2) (h : R (.ret (.int .u8 ((byteI (128 - t)).toNat : Int))) σ) : ACalls Tryz.prog G 92 [.int .i64 t] σ R := by
 refine calls92 rfl ?_
 have hk:=kind_byte ht
 by_cases h2 : t = 2
 ·rw [if_pos h2] at hk
  simp [pc92,h2]
  rw [h2] at hk h
  rw [← hk] at h
  exact h
 ·rw [if_neg h2] at hk
  simp [pc92,h2]
  rw [← hk] at h
  exact h
def TyQ (v : AV) (l : List Int) (σ : AS) (a : Nat → AV) (τ : AS) : Prop := ∃ i : Nat,i ≤ l.length ∧ a 0 = v ∧ a 4 = .int .i64 (i : Int) ∧ LitB σ τ (a 3) (uI l.length ++ (l.map fun t => byteI (128 - t)).take i)
theorem typesE_calls {v : AV} {l : List Int} (hv : Al.IntsO σ v l) (hl : l.length ≤ 2 ^ 39) (ht : ∀ t ∈ l,t = 1 ∨ t = 2) (h : ∀ v' σ',LitB σ σ' v' (typesL l) → R (.ret v') σ') : ACalls Tryz.prog G 91 [v] σ R := by
 refine calls91 rfl ?_
 have v1:=hv.one
 have vl:=hv.len
 simp [pc91,v1,vl]
 refine ru_calls (by omega) fun u σ1 hu=>?_
 have u1:=hu.byt.one
 simp [u1]
 refine aloop (TyQ v l σ) (MU 4 (l.length + 1)) ⟨0,by omega,by simp,by simp,by simpa using hu⟩ fun a τ hI=>?_
 obtain ⟨i,hi,a0,a4,hL⟩:=hI
 have hvk:=hv.keep hL.2
 have vl:=hvk.len
 have l1:=hL.byt.one
 by_cases hlt : i < l.length
 ·have hlt' : (i : Int) < (l.length : Int):=by omega
  obtain ⟨φ,hrd,hix⟩:=hvk.at hlt
  have hrd:=hrd.read
  have w1 : IntKind.wrap .i64 ((i : Int) + 1) = ((i + 1 : Nat) : Int):=by rw [wrap_i64] <;> omega
  simp [pc91_l1,a0,a4,vl,hlt',hix,hrd]
  refine kindE_calls (ht _ (List.getElem_mem hlt)) ?_
  have:=uI_len (l.length : Int)
  simp [l1]
  refine lit_grow (y:=[byteI (128 - l[i])]) hL rfl (by simp; omega) fun v' τ' h' e1 e2=>?_
  have q1:=h'.byt.one
  simp [a0,a4,q1,w1]
  refine ⟨⟨i + 1,by omega,by simp [a0],by simp,?_⟩,?_⟩
  ·rw [List.take_add_one,List.getElem?_map,List.getElem?_eq_getElem hlt]
   simpa using h'
  ·simp only [MU,a4]; simp; omega
 ·have e : i = l.length:=by omega
  subst e
  simp [pc91_l1,a0,a4,vl,pc91_r1,l1]
  rw [List.take_of_length_le (by simp)] at hL
  exact h _ _ hL
theorem sizedE_calls {v : AV} {bs : List UInt8} (hv : BytO σ v bs) (hl : bs.length < 2 ^ 40) (h : ∀ v' σ',LitB σ σ' v' (sizedL bs) → R (.ret v') σ') : ACalls Tryz.prog G 54 [v] σ R := by
 refine calls54 rfl ?_
 have v1:=hv.one
 have vl:=hv.len
 simp [pc54,v1,vl]
 refine ru_calls (by omega) fun u σ1 hu=>?_
 have u1:=hu.byt.one
 have:=uI_len (bs.length : Int)
 simp [u1]
 refine lit_src hu (hv.keep hu.2) (by omega) fun v' σ' h' _ _=>?_
 have q1:=h'.byt.one
 simp [q1]
 exact h _ _ h'
theorem headE_calls {v : AV} {l : List Int} {g : Int} (hv : Al.IntsO σ v l) (hl : l.length ≤ 2 ^ 38) (ht : ∀ t ∈ l,t = 1 ∨ t = 2) (hg : g = 0 ∨ g = 1 ∨ g = 2) (h : ∀ v' σ',LitB σ σ' v' (headL l g) → R (.ret v') σ') : ACalls Tryz.prog G 51 [v,.int .i64 g] σ R := by
 refine calls51 rfl ?_
 have v1:=hv.one
 have hl1:=typesL_len l
 simp [pc51,v1]
 refine typesE_calls hv (by omega) ht fun u σ1 hu=>?_
 have u1:=hu.byt.one
 simp [u1]
 refine lit_src (x:=[96]) ⟨.inl (by simp [B]),hu.2⟩ hu.byt (by simp; omega) fun v2 σ2 h2 _ _=>?_
 have q1:=h2.byt.one
 by_cases g0 : g = 0
 ·simp [q1,g0]
  refine lit_grow (y:=[0]) h2 rfl (by simp; omega) fun v3 σ3 h3 _ _=>?_
  have q3:=h3.byt.one
  simp [q3]
  refine h _ _ ?_
  have e : headL l g = [96] ++ typesL l ++ [0]:=by
   unfold headL resultsL
   rw [if_pos g0]
   simp [show typesL [] = [0] from by decide]
  rw [e]
  simpa using h3
 ·simp [q1,g0]
  refine kindE_calls (by omega) ?_
  simp [q1]
  refine lit_grow (y:=[1,byteI (128 - g)]) h2 rfl (by simp; omega) fun v3 σ3 h3 _ _=>?_
  have q3:=h3.byt.one
  simp [q3]
  refine h _ _ ?_
  have e : headL l g = [96] ++ typesL l ++ [1,byteI (128 - g)]:=by
   unfold headL resultsL
   rw [if_neg g0]
   simp [typesL,show uI 1 = [1] from by decide]
  rw [e]
  simpa using h3
theorem nameE_calls {s : List UInt8} (hl : s.length < 2 ^ 40) (h : ∀ v' σ',LitB σ σ' v' (sizedL s) → R (.ret v') σ') : ACalls Tryz.prog G 55 [.str s] σ R := by
 refine calls55 rfl ?_
 simp [pc55]
 refine .inl ?_
 simp
 refine sizedE_calls (bs:=s) (.inr ⟨_,rfl,by simp,by simp⟩) hl fun u σ1 hu=>?_
 have hu' : LitB σ σ1 u (sizedL s):=hu.behind (Adds.refl σ).newF
 have u1:=hu'.byt.one
 simp [u1]
 exact h _ _ hu'
theorem sectionE_calls {n : UInt8} {v : AV} {bs : List UInt8} (hv : BytO σ v bs) (hl : bs.length < 2 ^ 40) (h : ∀ v' σ',LitB σ σ' v' (sectionL n bs) → R (.ret v') σ') : ACalls Tryz.prog G 56 [.int .i64 (n.toNat : Int),v] σ R := by
 refine calls56 rfl ?_
 have v1:=hv.one
 have hs:=sized_len bs
 have wn : IntKind.wrap .u8 (n.toNat : Int) = (n.toNat : Int):=by
  rw [wrap_u8,byteI_nat]
  have:=n.toNat_lt
  omega
 simp [pc56,v1,wn]
 refine sizedE_calls hv hl fun u σ1 hu=>?_
 have u1:=hu.byt.one
 simp [u1]
 refine lit_src (x:=[n]) ⟨.inl (by simp [B]),hu.2⟩ hu.byt (by simp; omega) fun v2 σ2 h2 _ _=>?_
 have q2:=h2.byt.one
 simp [q2]
 exact h _ _ h2
end
end Go.Proofs.YthejpoplbllcbaaGreatDoor
set_option linter.unusedSimpArgs false
set_option linter.unusedVariables false
namespace Go.Proofs.YthejpoplbllcbaaGreatDoor
open Go Go.Abs
def LoQ (v : AV) (l : List Int) (σ : AS) (a : Nat → AV) (τ : AS) : Prop := ∃ (pre l' : List Int) (done : List (List UInt8)),pre ++ l' = l ∧ done ++ localsRows l'.length l' = localsRows l.length l ∧ done.length ≤ pre.length ∧ a 0 = v ∧ a 4 = .int .i64 (done.length : Int) ∧ a 5 = .int .i64 (pre.length : Int) ∧ LitB σ τ (a 3) done.flatten
def LoE (v v3 : AV) (n d m : Nat) (τ0 : AS) (a : Nat → AV) (τ : AS) : Prop := ∃ j k : Nat,j ≤ m + 1 ∧ k = n + j ∧ a 0 = v ∧ a 3 = v3 ∧ a 4 = .int .i64 (d : Int) ∧ a 5 = .int .i64 (n : Int) ∧ a 6 = .int .i64 (k : Int) ∧ τ = τ0
theorem row_here {pre r : List Int} {t : Int} {j : Nat} (hj : j ≤ runN t r) : (pre ++ t :: r)[pre.length + j]? = some t := by
 rw [List.getElem?_append_right (by omega)]
 have : pre.length + j - pre.length = j:=by omega
 rw [this]
 cases j with
 | zero=>rfl
 | succ j=>rw [List.getElem?_cons_succ]; exact runN_at (by omega)
section
variable {G : Env} {σ : AS} {R : Out → AS → Prop}
theorem localsE_calls {v : AV} {l : List Int} (hv : Al.IntsO σ v l) (hl : l.length ≤ 2 ^ 34) (ht : ∀ t ∈ l,t = 1 ∨ t = 2) (h : ∀ v' σ',LitB σ σ' v' (localsL l) → R (.ret v') σ') : ACalls Tryz.prog G 52 [v] σ R := by
 refine calls52 rfl ?_
 have v1:=hv.one
 obtain ⟨r1,r2⟩:=localsRows_len l.length l
 simp [pc52,v1]
 refine aloop (LoQ v l σ) (MU 5 (l.length + 1)) ⟨[],l,[],rfl,rfl,by simp,by simp,by simp,by simp,⟨.inr (.inl ⟨rfl,by simp⟩),.refl _⟩⟩ fun a τ hI=>?_
 obtain ⟨pre,l',done,hpl,he,hdl,a0,a4,a5,hL⟩:=hI
 have hvk:=hv.keep hL.2
 have vl:=hvk.len
 have l1:=hL.byt.one
 have hll : pre.length + l'.length = l.length:=by rw [← hpl]; simp
 have hdf : done.flatten.length ≤ 11 * l.length:=by
  have e:=congrArg sumB he
  simp only [sumB,List.map_append,List.sum_append] at e
  rw [sumB_flat]
  unfold sumB
  have r2':=r2
  unfold sumB at r2'
  omega
 cases l' with
 | nil =>
  have hnl : ¬ (pre.length : Int) < (l.length : Int):=by simp at hll; omega
  have hd : done = localsRows l.length l:=by simpa [localsRows] using he
  simp [pc52_l2,a0,a4,a5,vl,hnl,pc52_r2]
  refine ru_calls (by omega) fun u σ1 hu=>?_
  have hL1:=hL.byt.keep hu.2
  have u1:=hu.byt.one
  have:=uI_len (done.length : Int)
  simp [u1]
  refine lit_src hu hL1 (by omega) fun v' σ' h' _ _=>?_
  have q1:=h'.byt.one
  simp [q1]
  have hb:=h'.behind hL.2
  rw [hd] at hb
  exact h _ _ hb
 | cons t r =>
  have hlt : (pre.length : Int) < (l.length : Int):=by simp at hll; omega
  have hrl:=runN_le t r
  simp only [List.length_cons] at hll
  have htt : t = 1 ∨ t = 2:=ht t (by rw [← hpl]; simp)
  obtain ⟨φ,hrd0,hix⟩:=hv.at (i:=pre.length) (by omega)
  have hrd:=(hrd0.keep hL.2).read
  have hat0 : l[pre.length] = t:=by
   have:=row_here (pre:=pre) (r:=r) (t:=t) (j:=0) (by omega)
   rw [hpl] at this
   exact (List.getElem?_eq_some_iff.1 this).2
  rw [hat0] at hix
  simp [pc52_l2,a0,a4,a5,vl,hlt]
  refine aloop (LoE v (a 3) pre.length done.length (runN t r) τ) (MU 6 (l.length + 2)) ⟨0,pre.length,by omega,by omega,by simp [a0],by simp,by simp [a4],by simp [a5],by simp,rfl⟩ fun b τ2 hJ=>?_
  obtain ⟨j,k,hj,hk,b0,b3,b4,b5,b6,rfl⟩:=hJ
  have at_k : ∀ x,(pre ++ t :: r)[k]? = some x → ∃ φ,Readable τ2.F φ ∧ ∀ K : AV → Prop,aindexAddr Tryz.prog 38 v (.int .i64 (k : Int)) K = K (.pv φ (.int .i64 x)):=fun x e=>by
   rw [hpl] at e
   obtain ⟨e1,e2⟩:=List.getElem?_eq_some_iff.1 e
   obtain ⟨φ,h1,h2⟩:=hvk.at e1
   rw [e2] at h2
   exact ⟨φ,h1.read,h2⟩
  have wd : j = runN t r + 1 → IntKind.wrap .i64 ((k : Int) - (pre.length : Int)) = ((runN t r + 1 : Nat) : Int):=fun q=>by rw [wrap_i64] <;> omega
  have wm : IntKind.wrap .i64 ((done.length : Int) + 1) = ((done.length + 1 : Nat) : Int):=by rw [wrap_i64] <;> omega
  by_cases hjr : j ≤ runN t r
  ·have hltj : (k : Int) < (l.length : Int):=by omega
   obtain ⟨φ2,hrd2,hix2⟩:=at_k t (by rw [hk]; exact row_here hjr)
   have w1 : IntKind.wrap .i64 ((k : Int) + 1) = ((k + 1 : Nat) : Int):=by rw [wrap_i64] <;> omega
   simp [pc52_l1,b0,b5,b6,vl,hltj,hix,hrd,hix2,hrd2,w1]
   refine ⟨⟨j + 1,k + 1,by omega,by omega,by simp [b0],by simp [b3],by simp [b4],by simp [b5],by simp,rfl⟩,?_⟩
   simp only [MU,b6]
   simp
   omega
  ·have hje : j = runN t r + 1:=by omega
   have wd:=wd hje
   have hout : ∀ c : Nat → AV,c 0 = v → c 3 = a 3 → c 4 = .int .i64 (done.length : Int) → c 5 = .int .i64 (pre.length : Int) → c 6 = .int .i64 (k : Int) →
     avc Tryz.prog G 49 pc52_r1 (ablock 1 (athen (fun a' σ'=>LoQ v l σ a' σ' ∧ MU 5 (l.length + 1) a' σ' < MU 5 (l.length + 1) a τ2) (ablock 0 (athen (avc Tryz.prog G 49 pc52_r2 (afin Tryz.prog [.tmp 2] R)) (afin Tryz.prog [.tmp 2] R))))) c τ2:=fun c c0 c3 c4 c5 c6=>by
    simp [pc52_r1,c0,c3,c4,c5,c6,l1,wd,hix,hrd]
    refine ru_calls (by omega) fun u σ1 hu=>?_
    have hL1:=hL.keep hu.2
    have u1:=hu.byt.one
    have hul:=uI_len ((runN t r : Int) + 1)
    have hrd1:=(hrd0.keep (hL.2.trans hu.2)).read
    simp [u1,hrd1]
    refine lit_src hL1 hu.byt (by omega) fun v2 σ2 h2 e1 e2=>?_
    have q2:=h2.byt.one
    have hrd2:=(hrd0.keep h2.2).read
    simp [hrd2]
    refine kindE_calls htt ?_
    simp [q2]
    refine lit_grow (y:=[byteI (128 - t)]) h2 rfl (by simp only [List.length_append,List.length_cons,List.length_nil]; omega) fun v3 σ3 h3 _ _=>?_
    have q3:=h3.byt.one
    simp [q3,c4,c6,wm]
    refine ⟨⟨pre ++ (t :: r.take (runN t r)),r.drop (runN t r),done ++ [uI ((runN t r + 1 : Nat) : Int) ++ [byteI (128 - t)]],?_,?_,?_,by simp [c0],by simp,?_,?_⟩,?_⟩
    ·rw [List.append_assoc,List.cons_append,List.take_append_drop]
     exact hpl
    ·rw [← he]
     simp only [localsRows,List.length_cons,List.append_assoc,List.singleton_append]
     rw [localsRows_drop _ r.length _ (Nat.le_refl _) (by simp)]
    ·simp
     omega
    ·simp [List.length_take,Nat.min_eq_left hrl]
     omega
    ·simpa using h3
    ·simp only [MU,a5]
     simp
     omega
   by_cases hend : k = l.length
   ·have hnl : ¬ (k : Int) < (l.length : Int):=by omega
    simp [pc52_l1,b0,b5,b6,vl,hnl]
    exact hout _ (by simp [b0]) (by simp [b3]) (by simp [b4]) (by simp [b5]) (by simp [b6])
   ·have hltj : (k : Int) < (l.length : Int):=by omega
    obtain ⟨y,hy⟩ : ∃ y,r[runN t r]? = some y:=⟨_,List.getElem?_eq_getElem (by omega)⟩
    have hne : ¬ y = t:=fun e=>runN_end (t:=t) (l:=r) (by omega) (by rw [hy,e])
    obtain ⟨φ2,hrd2,hix2⟩:=at_k y (by
     rw [hk,hje,List.getElem?_append_right (by omega)]
     have : pre.length + (runN t r + 1) - pre.length = runN t r + 1:=by omega
     rw [this,List.getElem?_cons_succ]
     exact hy)
    simp [pc52_l1,b0,b5,b6,vl,hltj,hix,hrd,hix2,hrd2,hne]
    exact hout _ (by simp [b0]) (by simp [b3]) (by simp [b4]) (by simp [b5]) (by simp [b6])
end
end Go.Proofs.YthejpoplbllcbaaGreatDoor
set_option linter.unusedSimpArgs false
set_option linter.unusedVariables false
namespace Go.Proofs.YthejpoplbllcbaaGreatDoor
open Go Go.Abs
def rowN (i : Nat) : Int × W := rowsT.getD i (0,pw 0 0 0)
def rowHit (w : W) (i : Nat) : Bool := decide ((rowN i).2.op = w.op) && ((decide ((rowN i).2.ty = 0) || decide ((rowN i).2.ty = w.ty)) && (decide (i < 14) || decide ((rowN i).2.n = w.n)))
theorem row_of : ∀ p ∈ plainT ++ numT,∃ i : Fin 20,rowN i = ((p.1.toNat : Int),p.2) := by decide
theorem row_to : ∀ i : Fin 20,∃ p ∈ plainT ++ numT,rowN i = ((p.1.toNat : Int),p.2) := by decide
theorem row_inj : ∀ i j : Fin 20,rowN i = rowN j → i = j := by decide
theorem row_kind : ∀ i : Fin 20,(14 ≤ i.1 → (rowN i).2.op = 8 ∨ (rowN i).2.op = 9) ∧ (i.1 < 14 → (rowN i).2.n = 0 ∧ (rowN i).2.op ≠ 8 ∧ (rowN i).2.op ≠ 9) ∧ (7 ≤ i.1 ∧ i.1 < 14 → (rowN i).2.op = 1 ∨ ((rowN i).2.op = 2 ∨ (rowN i).2.op = 3 ∨ (rowN i).2.op = 10 ∨ (rowN i).2.op = 14 ∨ (rowN i).2.op = 15)) ∧
  (i.1 < 7 → (rowN i).2.op ≠ 1 ∧ (rowN i).2.op ≠ 2 ∧ (rowN i).2.op ≠ 3 ∧ (rowN i).2.op ≠ 10 ∧ (rowN i).2.op ≠ 14 ∧ (rowN i).2.op ≠ 15) ∧ (rowN i).2.op ≠ 4:=by decide
theorem hit_hits {w : W} {i : Nat} (hi : i < 20) {p : UInt8 × W} (hp : rowN i = ((p.1.toNat : Int),p.2)) : rowHit w i = hitsW w p := by
 obtain ⟨k1,k2,_⟩:=row_kind ⟨i,hi⟩
 simp only [hp] at k1 k2
 unfold rowHit hitsW keyN
 rw [hp]
 simp only
 by_cases ho : p.2.op = w.op
 ·by_cases h14 : 14 ≤ i
  ·have h14' : ¬ i < 14:=by omega
   have:=k1 h14
   rw [ho] at this
   rw [if_pos this]
   simp only [h14',decide_false,Bool.false_or]
   rw [Bool.and_comm (decide (p.2.n = w.n))]
  ·have h14' : i < 14:=by omega
   obtain ⟨q1,q2,q3⟩:=k2 h14'
   rw [ho] at q2 q3
   rw [if_neg (by rintro (q | q); exact q2 q; exact q3 q)]
   simp [h14',q1]
 ·simp [ho]
theorem plain_hit {w : W} {c : UInt8} (hc : codeS w = some c) (h4 : w.op ≠ 4) : ∃ i,i < 20 ∧ rowHit w i = true ∧ (∀ j,j < i → rowHit w j = false) ∧ (rowN i).1 = (c.toNat : Int) ∧
  tailW w = if 14 ≤ i then [0,0] else if w.op = 1 then sI w.n else if 7 ≤ i then uI w.n else []:=by
 unfold codeS at hc
 rw [if_neg h4,Option.map_eq_some_iff] at hc
 obtain ⟨p,hf,rfl⟩:=hc
 have hp:=List.mem_of_find?_eq_some hf
 have hh:=List.find?_some hf
 obtain ⟨⟨i,hi⟩,e⟩:=row_of p hp
 simp only at e
 have hit : rowHit w i = true:=by rw [hit_hits hi e]; exact hh
 refine ⟨i,hi,hit,fun j hj=>?_,by rw [e],?_⟩
 ·cases hb : rowHit w j with
  | false=>rfl
  | true =>
   exfalso
   obtain ⟨q,hq,e2⟩:=row_to ⟨j,by omega⟩
   simp only at e2
   rw [hit_hits (by omega) e2] at hb
   have:=hits_one w q hq p hp hb hh
   subst this
   have:=row_inj ⟨j,by omega⟩ ⟨i,hi⟩ (by simp only; rw [e,e2])
   simp only [Fin.mk.injEq] at this
   omega
 ·obtain ⟨k1,k2,k3,k4,_⟩:=row_kind ⟨i,hi⟩
  have ho : (rowN i).2.op = w.op:=by
   unfold rowHit at hit
   simp only [Bool.and_eq_true,decide_eq_true_eq] at hit
   exact hit.1
  simp only [ho] at k1 k2 k3 k4
  unfold tailW
  by_cases h14 : 14 ≤ i
  ·rw [if_pos h14]
   have:=k1 h14
   rw [if_neg (by omega),if_neg (by omega),if_pos this]
  ·rw [if_neg h14]
   by_cases h1 : w.op = 1
   ·rw [if_pos h1,if_pos h1]
   ·rw [if_neg h1,if_neg h1]
    by_cases h7 : 7 ≤ i
    ·rw [if_pos h7]
     have:=k3 ⟨h7,by omega⟩
     rw [if_pos (by omega)]
    ·rw [if_neg h7]
     have:=k4 (by omega)
     have k2':=k2 (by omega)
     rw [if_neg (by omega),if_neg (by omega)]
theorem sign_parts {s : List UInt8} {i : Nat} (h : signIx s = some i) : i < 16 ∧ signNames[i]? = some s ∧ ∀ j,j < i → signNames[j]? ≠ some s := by
 unfold signIx at h
 rw [List.findIdx?_eq_some_iff_getElem] at h
 obtain ⟨h1,h2,h3⟩:=h
 refine ⟨h1,?_,fun j hj e=>?_⟩
 ·rw [List.getElem?_eq_getElem h1]
  simpa using h2
 ·obtain ⟨h4,h5⟩:=List.getElem?_eq_some_iff.1 e
  have:=h3 j hj
  rw [h5] at this
  simp at this
def PlA (w : W) (o i : Nat) (τ0 : AS) (a : Nat → AV) (τ : AS) : Prop := ∃ j : Nat,j ≤ i ∧ τ = τ0 ∧ a 1 = .ptr o 0 ∧ a 3 = .sl (.stat true) 1 (signNames.map AV.str) ∧ a 4 = .sl (.stat true) 1 (onesZ.map (.int .i64)) ∧ a 5 = .sl (.stat true) 1 (twosZ.map (.int .i64)) ∧ a 6 = .int .i64 (j : Int)
def PlB (w : W) (o i : Nat) (σ : AS) (a : Nat → AV) (τ : AS) : Prop := ∃ j : Nat,j ≤ i ∧ Adds σ τ ∧ o < τ.no ∧ τ.objs o = some w.cs ∧ a 1 = .ptr o 0 ∧ a 7 = .sl (.stat true) 7 (rowsT.map rowAV) ∧ a 8 = .int .i64 (j : Int)
theorem lit_rowN {i : Nat} (h : i < 20) : rowsT[i]? = some (rowN i) := lit_row h
section
variable {G : Env} {σ : AS} {R : Out → AS → Prop}
set_option maxRecDepth 20000 in
theorem plainE_calls {w : W} {c : UInt8} (hc : codeS w = some c) (hrg : RgW w) (h : ∀ v σ',LitB σ σ' v (c :: tailW w) → R (.ret v) σ') : ACalls Tryz.prog G 93 [w.av] σ R := by
 refine calls93 rfl ?_
 by_cases h4 : w.op = 4
 ·have hc':=hc
  unfold codeS at hc'
  rw [if_pos h4] at hc'
  unfold codeL at hc'
  rw [if_pos h4] at hc'
  have ht : tailW w = []:=by
   unfold tailW
   rw [if_neg (by omega),if_neg (by omega),if_neg (by omega)]
  rw [ht] at h
  cases hi : signIx w.name with
  | none=>rw [hi] at hc'; cases hc'
  | some i =>
   rw [hi] at hc'
   simp only at hc'
   obtain ⟨i1,i2,i3⟩:=sign_parts hi
   simp [pc93,W.av,W.cs,h4]
   refine signs_calls ?_
   have A1 : Adds σ (σ.newO w.cs):=(Adds.refl σ).newO
   have hz : (σ.newO w.cs).objs σ.no = some w.cs:=by simp
   have e0 : σ.newO [AV.int .i64 4,.int .i64 w.ty,.int .i64 w.n,.int .i64 w.body,.int .i64 w.other,.str w.name] = σ.newO w.cs:=by simp [W.cs,h4]
   rw [e0]
   simp
   generalize σ.newO w.cs = σ1 at *
   refine aloop (PlA w σ.no i σ1) (MU 6 17) ⟨0,by omega,rfl,by simp,by simp,by simp,by simp,by simp⟩ fun a τ hI=>?_
   obtain ⟨j,hj,rfl,a1,a3,a4,a5,a6⟩:=hI
   have hlt' : (j : Int) < 16:=by omega
   have g1:=lit_ones (i:=j) (by omega)
   have g2:=lit_twos (i:=j) (by omega)
   have g3:=lit_name (i:=j) (by omega)
   have hsl : signNames.length = 16:=rfl
   have w1 : IntKind.wrap .i64 ((j : Int) + 1) = ((j + 1 : Nat) : Int):=by rw [wrap_i64] <;> omega
   have wb : ∀ c : UInt8,IntKind.wrap .u8 (c.toNat : Int) = (c.toNat : Int):=fun c=>by
    rw [wrap_u8,byteI_nat]
    have:=c.toNat_lt
    omega
   have o1 : ∀ l : List UInt8,∀ j : Nat,l[j]? = some c → l.getD j 0 = c:=fun l j q=>by rw [List.getD_eq_getElem?_getD,q]; rfl
   by_cases hji : j = i
   ·subst hji
    have hnm : signNames.getD j [] = w.name:=by
     rw [g3] at i2
     exact Option.some.inj i2
    rw [hnm] at g3
    by_cases ht1 : w.ty = 1
    ·rw [if_pos ht1] at hc'
     rw [o1 ones j hc'] at g1
     simp [pc93_l1,a1,a3,a4,a5,a6,hlt',g1,g2,g3,hsl,hz,W.cs,ht1,wb]
     exact h _ _ ⟨.inl (by simp [B]),A1⟩
    ·rw [if_neg ht1] at hc'
     by_cases ht2 : w.ty = 2
     ·rw [if_pos ht2] at hc'
      rw [o1 twos j hc'] at g2
      simp [pc93_l1,a1,a3,a4,a5,a6,hlt',g1,g2,g3,hsl,hz,W.cs,ht1,wb]
      exact h _ _ ⟨.inl (by simp [B]),A1⟩
     ·rw [if_neg ht2] at hc'
      cases hc'
   ·have hne : ¬ signNames.getD j [] = w.name:=fun e=>i3 j (by omega) (by rw [g3,e])
    generalize signNames.getD j [] = nm at *
    simp [pc93_l1,a1,a3,a4,a5,a6,hlt',g1,g2,g3,hsl,hz,W.cs,hne,w1]
    refine ⟨⟨j + 1,by omega,rfl,by simp [a1],by simp [a3],by simp [a4],by simp [a5],by simp⟩,?_⟩
    simp only [MU,a6]
    simp
    omega
 ·obtain ⟨i,hi,hit,hmiss,hby,htl⟩:=plain_hit hc h4
  rw [htl] at h
  simp [pc93,W.av,W.cs,h4,pc93_r2]
  refine rows_calls ?_
  have A1 : Adds σ (σ.newO w.cs):=(Adds.refl σ).newO
  have hz : (σ.newO w.cs).objs σ.no = some w.cs:=by simp
  have hno1 : σ.no < (σ.newO w.cs).no:=by simp
  have e0 : σ.newO [AV.int .i64 w.op,.int .i64 w.ty,.int .i64 w.n,.int .i64 w.body,.int .i64 w.other,.str w.name] = σ.newO w.cs:=by simp [W.cs]
  rw [e0]
  simp
  generalize σ.newO w.cs = σ1 at *
  refine aloop (PlB w σ.no i σ) (MU 8 21) ⟨0,by omega,A1,hno1,hz,by simp,by simp,by simp⟩ fun a τ hI=>?_
  obtain ⟨j,hj,A,hno,ho,a1,a7,a8⟩:=hI
  have hrl : rowsT.length = 20:=rfl
  have hlt' : (j : Int) < 20:=by omega
  have g:=lit_rowN (i:=j) (by omega)
  have w1 : IntKind.wrap .i64 ((j : Int) + 1) = ((j + 1 : Nat) : Int):=by rw [wrap_i64] <;> omega
  have hhit : rowHit w j = decide (j = i):=by
   by_cases e : j = i
   ·subst e; rw [hit]; simp
   ·rw [hmiss j (by omega)]; simp [e]
  have hon : ¬ σ.no = τ.no:=by omega
  have hon2 : ¬ τ.no = σ.no:=by omega
  have next : ∀ (a' : Nat → AV) (cs : List AV),j ≠ i → a' 1 = .ptr σ.no 0 → a' 7 = .sl (.stat true) 7 (rowsT.map rowAV) → a' 8 = .int .i64 ((j + 1 : Nat) : Int) → PlB w σ.no i σ a' ((τ.newO [AV.int .i64 0,.int .i64 0,.int .i64 0,.int .i64 0,.int .i64 0,.str []]).setO τ.no cs) ∧ MU 8 21 a' ((τ.newO [AV.int .i64 0,.int .i64 0,.int .i64 0,.int .i64 0,.int .i64 0,.str []]).setO τ.no cs) < MU 8 21 a τ:=fun a' cs hji e1 e7 e8=>by
   refine ⟨⟨j + 1,by omega,(A.newO).setO (by have:=A.no; omega),by simp; omega,by simp [hon,ho],e1,e7,e8⟩,?_⟩
   simp only [MU,e8,a8]
   omega
  unfold rowHit at hhit
  have hbj : j = i → (rowN j).1 = (c.toNat : Int):=fun e=>by rw [e]; exact hby
  generalize rowN j = p at *
  obtain ⟨bz,x⟩:=p
  simp only at hhit hbj
  have wb : IntKind.wrap .u8 (c.toNat : Int) = (c.toNat : Int):=by
   rw [wrap_u8,byteI_nat]
   have:=c.toNat_lt
   omega
  have hsl:=sI_len w.n
  have hul:=uI_len w.n
  have A2 : ∀ cs,Adds σ ((τ.newO [AV.int .i64 0,.int .i64 0,.int .i64 0,.int .i64 0,.int .i64 0,.str []]).setO τ.no cs):=fun cs=>(A.newO).setO (by have:=A.no; omega)
  have ho2 : ∀ cs,((τ.newO [AV.int .i64 0,.int .i64 0,.int .i64 0,.int .i64 0,.int .i64 0,.str []]).setO τ.no cs).objs σ.no = some w.cs:=fun cs=>by simp [hon,ho]
  by_cases c1 : x.op = w.op
  ·by_cases c23 : x.ty = 0 ∨ x.ty = w.ty
   ·have hz23 : x.ty = 0 ∨ (¬ w.ty = 0 ∧ x.ty = w.ty):=by omega
    by_cases c45 : j < 14 ∨ x.n = w.n
    ·have hji : j = i:=by
      by_cases e : j = i
      ·exact e
      ·exfalso
       simp only [c1,decide_true,Bool.true_and,e,decide_false,Bool.and_eq_false_iff,Bool.or_eq_false_iff,decide_eq_false_iff_not] at hhit
       omega
     subst hji
     have hbz:=hbj rfl
     subst hbz
     by_cases q14 : 14 ≤ j
     ·have q14' : (14 : Int) ≤ (j : Int):=by omega
      have c5 : x.n = w.n:=by omega
      rw [if_pos q14] at h
      have fin : ∀ cs,R (.ret (.sl (.fam τ.nf false) 1 [.int .u8 (c.toNat : Int),.int .u8 0,.int .u8 0])) ((τ.newO [AV.int .i64 0,.int .i64 0,.int .i64 0,.int .i64 0,.int .i64 0,.str []]).setO τ.no cs).newF:=fun cs=>h _ _ ⟨.inr (.inr ⟨τ.nf,by simp [B],A.nf,by simp,by simp⟩),(A2 cs).newF⟩
      rcases hz23 with z0 | ⟨z0,z1⟩
      ·simp [pc93_l2,a1,a7,a8,hlt',g,hrl,rowAV,ho,hon,hon2,W.cs,splice,c1,z0,c5,q14',wb]
       exact fin _
      ·simp [pc93_l2,a1,a7,a8,hlt',g,hrl,rowAV,ho,hon,hon2,W.cs,splice,c1,z0,z1,c5,q14',wb]
       exact fin _
     ·have q14' : ¬ (14 : Int) ≤ (j : Int):=by omega
      rw [if_neg q14] at h
      by_cases q1 : w.op = 1
      ·rw [if_pos q1] at h
       have fin : ∀ cs,∀ (u : AV) σ2,LitB ((τ.newO [AV.int .i64 0,.int .i64 0,.int .i64 0,.int .i64 0,.int .i64 0,.str []]).setO τ.no cs) σ2 u (sI w.n) → ∀ K : AV → AS → Prop,(∀ v σ',LitB σ σ' v (c :: sI w.n) → K v σ') → asource Tryz.prog 22 (.int .u8 0) 1 u σ2.F fun ys=>(∀ y,y ∈ ys → y.cells.length = 1 ∧ ∀ c,c ∈ y.cells → c.one = true) ∧ grown 1 1 (.sl (.stat true) 1 [.int .u8 (c.toNat : Int)]) ys σ2 K:=fun cs u σ2 hu K hK =>
        lit_src (x:=[c]) ⟨.inl (by simp [B]),(A2 cs).trans hu.2⟩ hu.byt (by simp; omega) fun v σ' hv _ _=>hK v σ' hv
       rcases hz23 with z0 | ⟨z0,z1⟩
       ·simp [pc93_l2,a1,a7,a8,hlt',g,hrl,rowAV,ho,hon,hon2,W.cs,splice,c1,z0,q14',wb,q1]
        refine rs_calls hrg fun u σ2 hu=>?_
        simp
        refine fin _ u σ2 hu _ fun v σ3 hv=>?_
        have v1:=hv.byt.one
        simp [v1]
        exact h _ _ hv
       ·simp [pc93_l2,a1,a7,a8,hlt',g,hrl,rowAV,ho,hon,hon2,W.cs,splice,c1,z0,z1,q14',wb,q1]
        refine rs_calls hrg fun u σ2 hu=>?_
        simp
        refine fin _ u σ2 hu _ fun v σ3 hv=>?_
        have v1:=hv.byt.one
        simp [v1]
        exact h _ _ hv
      ·rw [if_neg q1] at h
       by_cases q7 : 7 ≤ j
       ·have q7' : (7 : Int) ≤ (j : Int):=by omega
        rw [if_pos q7] at h
        have fin : ∀ cs,∀ (u : AV) σ2,LitB ((τ.newO [AV.int .i64 0,.int .i64 0,.int .i64 0,.int .i64 0,.int .i64 0,.str []]).setO τ.no cs) σ2 u (uI w.n) → ∀ K : AV → AS → Prop,(∀ v σ',LitB σ σ' v (c :: uI w.n) → K v σ') → asource Tryz.prog 22 (.int .u8 0) 1 u σ2.F fun ys=>(∀ y,y ∈ ys → y.cells.length = 1 ∧ ∀ c,c ∈ y.cells → c.one = true) ∧ grown 1 1 (.sl (.stat true) 1 [.int .u8 (c.toNat : Int)]) ys σ2 K:=fun cs u σ2 hu K hK =>
         lit_src (x:=[c]) ⟨.inl (by simp [B]),(A2 cs).trans hu.2⟩ hu.byt (by simp; omega) fun v σ' hv _ _=>hK v σ' hv
        rcases hz23 with z0 | ⟨z0,z1⟩
        ·simp [pc93_l2,a1,a7,a8,hlt',g,hrl,rowAV,ho,hon,hon2,W.cs,splice,c1,z0,q14',wb,q1,q7']
         refine ru_calls hrg.2 fun u σ2 hu=>?_
         simp
         refine fin _ u σ2 hu _ fun v σ3 hv=>?_
         have v1:=hv.byt.one
         simp [v1]
         exact h _ _ hv
        ·simp [pc93_l2,a1,a7,a8,hlt',g,hrl,rowAV,ho,hon,hon2,W.cs,splice,c1,z0,z1,q14',wb,q1,q7']
         refine ru_calls hrg.2 fun u σ2 hu=>?_
         simp
         refine fin _ u σ2 hu _ fun v σ3 hv=>?_
         have v1:=hv.byt.one
         simp [v1]
         exact h _ _ hv
       ·have q7' : ¬ (7 : Int) ≤ (j : Int):=by omega
        rw [if_neg q7] at h
        have fin : ∀ cs,R (.ret (.sl (.stat true) 1 [.int .u8 (c.toNat : Int)])) ((τ.newO [AV.int .i64 0,.int .i64 0,.int .i64 0,.int .i64 0,.int .i64 0,.str []]).setO τ.no cs):=fun cs=>h _ _ ⟨.inl (by simp [B]),A2 cs⟩
        rcases hz23 with z0 | ⟨z0,z1⟩
        ·simp [pc93_l2,a1,a7,a8,hlt',g,hrl,rowAV,ho,hon,hon2,W.cs,splice,c1,z0,q14',wb,q1,q7']
         exact fin _
        ·simp [pc93_l2,a1,a7,a8,hlt',g,hrl,rowAV,ho,hon,hon2,W.cs,splice,c1,z0,z1,q14',wb,q1,q7']
         exact fin _
    ·have hji : j ≠ i:=fun e=>by
      simp only [c1,decide_true,Bool.true_and,e,Bool.and_eq_true,Bool.or_eq_true,decide_eq_true_eq] at hhit
      omega
     have c4 : (14 : Int) ≤ (j : Int):=by omega
     have c5 : ¬ x.n = w.n:=by omega
     rcases hz23 with z0 | ⟨z0,z1⟩
     ·simp [pc93_l2,a1,a7,a8,hlt',g,hrl,rowAV,ho,hon,hon2,W.cs,splice,c1,z0,c4,c5,w1]
      exact next _ _ hji (by simp [a1]) (by simp [a7]) (by simp)
     ·simp [pc93_l2,a1,a7,a8,hlt',g,hrl,rowAV,ho,hon,hon2,W.cs,splice,c1,z0,z1,c4,c5,w1]
      exact next _ _ hji (by simp [a1]) (by simp [a7]) (by simp)
   ·have hji : j ≠ i:=fun e=>by
     simp only [c1,decide_true,Bool.true_and,e,Bool.and_eq_true,Bool.or_eq_true,decide_eq_true_eq] at hhit
     omega
    have c2 : ¬ x.ty = 0:=fun q=>c23 (.inl q)
    have c3 : ¬ x.ty = w.ty:=fun q=>c23 (.inr q)
    simp [pc93_l2,a1,a7,a8,hlt',g,hrl,rowAV,ho,hon,hon2,W.cs,splice,c1,c2,c3,w1]
    exact next _ _ hji (by simp [a1]) (by simp [a7]) (by simp)
  ·have hji : j ≠ i:=fun e=>by simp [c1,e] at hhit
   simp [pc93_l2,a1,a7,a8,hlt',g,hrl,rowAV,ho,hon,hon2,W.cs,splice,c1,w1]
   exact next _ _ hji (by simp [a1]) (by simp [a7]) (by simp)
end
end Go.Proofs.YthejpoplbllcbaaGreatDoor
set_option linter.unusedSimpArgs false
set_option linter.unusedVariables false
namespace Go.Proofs.YthejpoplbllcbaaGreatDoor
open Go Go.Abs
def EncQ (G : Env) (ls : To) (k : Nat) : Prop := ∀ (σ : AS) (R : Out → AS → Prop) (f : F) (pv lv tv : AV) (at_ : Int) (bs : List UInt8),f.lists = ls → Al.IntsO σ pv f.params → Al.IntsO σ lv f.locals → Al.LstO σ tv f.lists → encL ls k at_ = some bs → bs.length ≤ 2 ^ 38 →
 (∀ v σ',LitB σ σ' v bs → R (.ret v) σ') → ACalls Tryz.prog G 53 [.agg (FCs f pv lv tv),.int .i64 at_] σ R
def LiQ (ls : To) (k : Nat) (n : Nat) (σ : AS) (fc : List AV) (ws : List W) (bs : List UInt8) (a : Nat → AV) (τ : AS) : Prop := ∃ (i : Nat) (done r : List UInt8),i ≤ ws.length ∧ encWs (encL ls k) (ws.drop i) = some r ∧ done ++ r = bs ∧ a 1 = .int .i64 (n : Int) ∧ a 2 = .ptr σ.no 0 ∧ a 6 = .int .i64 (i : Int) ∧ LitB σ τ (a 5) done ∧ σ.no < τ.no ∧ τ.objs σ.no = some fc
section
variable {G : Env} {σ : AS} {R : Out → AS → Prop}
set_option maxRecDepth 20000 in
theorem listE_body {ls : To} {k n : Nat} (IH : EncQ G ls k) {f : F} {pv lv tv rv : AV} {φ : Go.Abs.Own} {ws : List W} {bs : List UInt8} (hls : f.lists = ls) (hp : Al.IntsO σ pv f.params) (hl : Al.IntsO σ lv f.locals) (ht : Al.LstO σ tv f.lists) (hrd0 : Al.Rd σ φ) (hixL : ∀ K : AV → Prop,aindexAddr Tryz.prog 49 tv (.int .i64 (n : Int)) K = K (.pv φ rv)) (hrv : Al.RepO σ rv ws) (hws : ws.length ≤ 2 ^ 40) (hbs : bs.length ≤ 2 ^ 38) (hrg : ∀ w ∈ ws,RgW w)
  (h : ∀ v σ',LitB σ σ' v bs → R (.ret v) σ') {a : Nat → AV} {τ : AS} (hI : LiQ ls k n σ (FCs f pv lv tv) ws bs a τ) :
  avc Tryz.prog G 72 pc53_l1 (athen (fun a' σ'=>LiQ ls k n σ (FCs f pv lv tv) ws bs a' σ' ∧ MU 6 (ws.length + 1) a' σ' < MU 6 (ws.length + 1) a τ) (ablock 0 (athen (avc Tryz.prog G 72 pc53_r1 (afin Tryz.prog [.tmp 4] R)) (afin Tryz.prog [.tmp 4] R)))) a τ:=by
 obtain ⟨i,done,r,hi,hr,hbsd,a1,a2,a6,hN,ho1,ho⟩:=hI
 have n1:=hN.byt.one
 have hpl:=congrArg List.length hbsd
 simp only [List.length_append] at hpl
 have hrdL:=(hrd0.keep hN.2).read
 have rl:=RepO.len (hrv.keep hN.2)
 have r1:=(hrv.keep hN.2).one
 have p1:=hp.one
 have l1:=hl.one
 have t1:=ht.one
 have ho' : τ.objs σ.no = some [.str f.name,pv,lv,.int .i64 f.type,tv]:=ho
 by_cases hlt : i < ws.length
 ·have hlt' : (i : Int) < (ws.length : Int):=by omega
  obtain ⟨φ2,hrd2,hix2⟩:=RepO.at (hrv.keep hN.2) hlt
  have hrd2:=hrd2.read
  rw [List.drop_eq_getElem_cons hlt] at hr
  have hrw:=hrg _ (List.getElem_mem hlt)
  generalize ws[i] = w at *
  obtain ⟨x,y,hx,hy,rfl⟩:=encWs_cons hr
  have w1 : IntKind.wrap .i64 ((i : Int) + 1) = ((i + 1 : Nat) : Int):=by rw [wrap_i64] <;> omega
  have next : ∀ (a' : Nat → AV) (σ' : AS),a' 1 = .int .i64 (n : Int) → a' 2 = .ptr σ.no 0 → a' 6 = .int .i64 ((i : Int) + 1) → LitB σ σ' (a' 5) (done ++ x) → τ.no ≤ σ'.no → σ'.objs σ.no = some (FCs f pv lv tv) →
    LiQ ls k n σ (FCs f pv lv tv) ws bs a' σ' ∧ MU 6 (ws.length + 1) a' σ' < MU 6 (ws.length + 1) a τ:=fun a' σ' e1 e2 e6 e5 e7 e8=>by
   refine ⟨⟨i + 1,done ++ x,y,hlt,hy,by rw [← hbsd]; simp,e1,e2,by rw [e6]; rfl,e5,by omega,e8⟩,?_⟩
   simp only [MU,a6,e6]; omega
  have hon : ¬ σ.no = τ.no:=by omega
  have hA0 : Adds τ ((τ.newO [AV.int .i64 0,.int .i64 0,.int .i64 0,.int .i64 0,.int .i64 0,.str []]).setO τ.no w.cs):=.mk1
  have k1 : ((τ.newO [AV.int .i64 0,.int .i64 0,.int .i64 0,.int .i64 0,.int .i64 0,.str []]).setO τ.no w.cs).objs σ.no = some [.str f.name,pv,lv,.int .i64 f.type,tv]:=by simp [hon,ho']
  have k2 : ((τ.newO [AV.int .i64 0,.int .i64 0,.int .i64 0,.int .i64 0,.int .i64 0,.str []]).setO τ.no w.cs).objs τ.no = some w.cs:=by simp
  have k3 : ((τ.newO [AV.int .i64 0,.int .i64 0,.int .i64 0,.int .i64 0,.int .i64 0,.str []]).setO τ.no w.cs).no = τ.no + 1:=by simp
  have hlen : done.length + (x.length + y.length) = bs.length:=by rw [← hpl]; simp
  have sub : ∀ {τ' : AS} {z : List UInt8} {at_ : Int} {R' : Out → AS → Prop},Adds σ τ' → encL ls k at_ = some z → z.length ≤ 2 ^ 38 → (∀ v σ',LitB τ' σ' v z → R' (.ret v) σ') → ACalls Tryz.prog G 53 [.agg [.str f.name,pv,lv,.int .i64 f.type,tv],.int .i64 at_] τ' R' :=
   fun A he hz hR=>IH _ _ f pv lv tv _ _ hls (hp.keep A) (hl.keep A) (ht.keep A) he hz hR
  have hwcs : w.cs = [.int .i64 w.op,.int .i64 w.ty,.int .i64 w.n,.int .i64 w.body,.int .i64 w.other,.str w.name]:=rfl
  by_cases hn : nestW w = true
  ·unfold encW at hx
   rw [if_pos hn] at hx
   cases hb : encL ls k w.body with
   | none=>rw [hb] at hx; cases hx
   | some b =>
    rw [hb] at hx
    simp only [Option.bind_some] at hx
    have hop:=nest_of hn
    have o1 : ¬ w.op < 11:=by omega
    have o2 : ¬ 13 < w.op:=by omega
    have wb : IntKind.wrap .u8 (IntKind.wrap .i64 (w.op - 9)) = ((byteI (w.op - 9)).toNat : Int):=by
     rw [wrap_i64 (by omega) (by omega),wrap_u8]
    have hxl : b.length + 3 ≤ x.length:=by
     split at hx
     ·rw [Option.map_eq_some_iff] at hx
      obtain ⟨o,_,rfl⟩:=hx
      simp <;> omega
     ·cases hx
      simp
    simp [pc53_l1,a1,a2,a6,ho',hixL,hrdL,r1,rl,hlt',hix2,hrd2,W.av,W.cs,splice,hon,o1,o2,n1,wb]
    refine lit_grow (y:=[byteI (w.op - 9),64]) (hN.keep hA0) rfl (by simp; omega) fun v1 σ1 h1 u1 m1=>?_
    have k1':=(congrFun u1 σ.no).trans k1
    have k2':=(congrFun u1 τ.no).trans k2
    rw [hwcs] at k2'
    have n2:=h1.byt.one
    have hno1 : σ1.no = τ.no + 1:=by rw [m1]; exact k3
    simp [a2,k1',k2',n2,p1,l1,t1]
    refine sub h1.2 hb (by omega) fun v2 σ2 h2=>?_
    have k1'':=(h2.2.obj σ.no (by omega)).trans k1'
    have k2'':=(h2.2.obj τ.no (by omega)).trans k2'
    have hno2:=h2.2.no
    simp
    refine lit_src (h1.keep h2.2) h2.byt (by simp; omega) fun v3 σ3 h3 u3 m3=>?_
    have k1a:=(congrFun u3 σ.no).trans k1''
    have k2a:=(congrFun u3 τ.no).trans k2''
    have n4:=h3.byt.one
    have fin : ∀ (v5 : AV) (σ5 : AS),LitB σ σ5 v5 (done ++ x) → σ5.objs σ.no = some [.str f.name,pv,lv,.int .i64 f.type,tv] → τ.no ≤ σ5.no → ∀ a' : Nat → AV,a' 1 = .int .i64 (n : Int) → a' 2 = .ptr σ.no 0 → a' 6 = .int .i64 ((i : Int) + 1) → a' 5 = v5 → LiQ ls k n σ (FCs f pv lv tv) ws (done ++ (x ++ y)) a' σ5 ∧ MU 6 (ws.length + 1) a' σ5 < MU 6 (ws.length + 1) a τ:=fun v5 σ5 h5 q1 q2 a' e1 e2 e6 e5=>by
     have:=next a' σ5 e1 e2 e6 (by rw [e5]; exact h5) q2 q1
     rw [← hbsd] at this
     exact this
    by_cases h13 : w.op = 13 ∧ 0 ≤ w.other
    ·rw [if_pos h13,Option.map_eq_some_iff] at hx
     obtain ⟨o,ho3,rfl⟩:=hx
     simp only [List.length_cons,List.length_append,List.length_nil] at hlen
     simp [k2a,n4,h13.1,h13.2]
     refine lit_grow (y:=[5]) h3 rfl (by simp; omega) fun v4 σ4 h4 u4 m4=>?_
     have k1b:=(congrFun u4 σ.no).trans k1a
     have k2b:=(congrFun u4 τ.no).trans k2a
     have n5:=h4.byt.one
     simp [a2,k1b,k2b,n5,p1,l1,t1]
     refine sub h4.2 ho3 (by omega) fun v5 σ5 h5=>?_
     have k1c:=(h5.2.obj σ.no (by omega)).trans k1b
     have hno5:=h5.2.no
     simp
     refine lit_src (h4.keep h5.2) h5.byt (by simp; omega) fun v6 σ6 h6 u6 m6=>?_
     have k1d:=(congrFun u6 σ.no).trans k1c
     have n6:=h6.byt.one
     simp [n6]
     refine lit_grow (y:=[11]) h6 rfl (by simp; omega) fun v7 σ7 h7 u7 m7=>?_
     have k1e:=(congrFun u7 σ.no).trans k1d
     have n7:=h7.byt.one
     simp [n7,a6,w1]
     rw [← hbsd]
     refine fin v7 σ7 (by simpa [h13.1] using h7) k1e (by omega) _ (by simp [a1]) (by simp [a2]) (by simp) (by simp)
    ·rw [if_neg h13] at hx
     cases hx
     simp only [List.length_cons,List.length_append,List.length_nil] at hlen
     by_cases q13 : w.op = 13
     ·have q0 : ¬ 0 ≤ w.other:=fun q=>h13 ⟨q13,q⟩
      simp [k2a,n4,q13,q0]
      refine lit_grow (y:=[11]) h3 rfl (by simp; omega) fun v7 σ7 h7 u7 m7=>?_
      have k1e:=(congrFun u7 σ.no).trans k1a
      have n7:=h7.byt.one
      simp [n7,a6,w1]
      rw [← hbsd]
      refine fin v7 σ7 (by simpa [q13] using h7) k1e (by omega) _ (by simp [a1]) (by simp [a2]) (by simp) (by simp)
     ·simp [k2a,n4,q13]
      refine lit_grow (y:=[11]) h3 rfl (by simp; omega) fun v7 σ7 h7 u7 m7=>?_
      have k1e:=(congrFun u7 σ.no).trans k1a
      have n7:=h7.byt.one
      simp [n7,a6,w1]
      rw [← hbsd]
      refine fin v7 σ7 (by simpa using h7) k1e (by omega) _ (by simp [a1]) (by simp [a2]) (by simp) (by simp)
  ·unfold encW at hx
   rw [if_neg hn,Option.map_eq_some_iff] at hx
   obtain ⟨c,hc,rfl⟩:=hx
   have hop : w.op < 11 ∨ (¬ w.op < 11 ∧ 13 < w.op):=by
    simp only [nestW,Bool.or_eq_true,decide_eq_true_eq] at hn
    omega
   have htl:=tailW_len w
   simp only [List.length_cons] at hlen
   rcases hop with o1 | ⟨o1,o2⟩
   ·simp [pc53_l1,a1,a2,a6,ho',hixL,hrdL,r1,rl,hlt',hix2,hrd2,W.av,W.cs,splice,hon,o1,n1]
    show ACalls Tryz.prog G 93 [w.av] _ _
    refine plainE_calls hc hrw fun v1 σ1 h1=>?_
    have k1':=(h1.2.obj σ.no (by show σ.no < ((τ.newO _).setO τ.no w.cs).no; simp; omega)).trans k1
    have hno1 : τ.no + 1 ≤ σ1.no:=h1.2.no
    simp
    refine lit_src (hN.keep (hA0.trans h1.2)) h1.byt (by simp; omega) fun v3 σ3 h3 u3 m3=>?_
    have n3:=h3.byt.one
    have k1a:=(congrFun u3 σ.no).trans k1'
    simp [n3,a6,w1]
    exact next _ _ (by simp [a1]) (by simp [a2]) (by simp) (by simpa using h3) (by omega) k1a
   ·simp [pc53_l1,a1,a2,a6,ho',hixL,hrdL,r1,rl,hlt',hix2,hrd2,W.av,W.cs,splice,hon,o1,o2,n1]
    show ACalls Tryz.prog G 93 [w.av] _ _
    refine plainE_calls hc hrw fun v1 σ1 h1=>?_
    have k1':=(h1.2.obj σ.no (by show σ.no < ((τ.newO _).setO τ.no w.cs).no; simp; omega)).trans k1
    have hno1 : τ.no + 1 ≤ σ1.no:=h1.2.no
    simp
    refine lit_src (hN.keep (hA0.trans h1.2)) h1.byt (by simp; omega) fun v3 σ3 h3 u3 m3=>?_
    have n3:=h3.byt.one
    have k1a:=(congrFun u3 σ.no).trans k1'
    simp [n3,a6,w1]
    exact next _ _ (by simp [a1]) (by simp [a2]) (by simp) (by simpa using h3) (by omega) k1a
 ·have hie : i = ws.length:=by omega
  subst hie
  simp only [List.drop_length,encWs,Option.some.injEq] at hr
  subst hr
  have : done = bs:=by rw [← hbsd]; simp
  subst this
  simp [pc53_l1,pc53_r1,a1,a2,a6,ho',hixL,hrdL,r1,rl,n1]
  exact h _ _ hN
theorem listE_ok {G : Env} {ls : To} (hw : ∀ ws ∈ ls,ws.length ≤ 2 ^ 40) (hrg : RgL ls) : ∀ k,EncQ G ls k
 | 0=>fun _ _ _ _ _ _ _ _ _ _ _ _ h=>by simp [encL] at h
 | k + 1=>fun σ R f pv lv tv at_ bs hls hp hl ht h hb hR=>by
  have IH:=listE_ok (G:=G) hw hrg k
  rw [encL] at h
  split at h
  ·cases h
  rename_i h0
  have h0 : ¬ at_ < 0:=h0
  obtain ⟨n,rfl⟩ : ∃ n : Nat,at_ = n:=⟨at_.toNat,by omega⟩
  simp only [Int.toNat_natCast] at h
  cases hg : ls[n]? with
  | none=>rw [hg] at h; cases h
  | some ws =>
   rw [hg] at h
   simp only at h
   obtain ⟨hn,hge⟩:=List.getElem?_eq_some_iff.1 hg
   subst hls
   obtain ⟨φ,rv,hrd,hrv,hix⟩:=ht.at hn
   rw [hge] at hrv
   have hmem : ws ∈ f.lists:=List.mem_of_getElem? hg
   have p1:=hp.one
   have l1:=hl.one
   have t1:=ht.one
   refine calls53 rfl ?_
   simp [pc53,FCs,p1,l1,t1]
   refine aloop (LiQ f.lists k n σ (FCs f pv lv tv) ws bs) (MU 6 (ws.length + 1)) ⟨0,[],bs,by omega,by simpa using h,rfl,by simp,by simp,by simp,⟨.inr (.inl ⟨rfl,by simp⟩),(Adds.refl σ).newO⟩,by simp,by simp [FCs]⟩ fun a τ hI=>?_
   exact listE_body IH rfl hp hl ht hrd hix hrv (hw ws hmem) hb (hrg ws hmem) hR hI
end
end Go.Proofs.YthejpoplbllcbaaGreatDoor
set_option linter.unusedSimpArgs false
set_option linter.unusedVariables false
namespace Go.Proofs.YthejpoplbllcbaaGreatDoor
open Go Go.Abs
def LitT (T : Nat → Nat) (i : Nat) (σ τ : AS) (v : AV) (bs : List UInt8) : Prop := v = .sl (.stat true) 1 (B bs) ∨ (bs = [] ∧ v = .nilsl) ∨ ∃ g,v = .sl (.fam g false) 1 (B bs) ∧ σ.nf ≤ g ∧ g < τ.nf ∧ τ.F g = .alive ∧ T g = i
theorem LitT.keep {T i σ τ τ' v bs} (h : LitT T i σ τ v bs) (A : Adds τ τ') : LitT T i σ τ' v bs := by
 rcases h with h | h | ⟨g,h1,h2,h3,h4,h5⟩
 ·exact .inl h
 ·exact .inr (.inl h)
 ·exact .inr (.inr ⟨g,h1,h2,Nat.lt_of_lt_of_le h3 A.nf,(A.fam g h3).trans h4,h5⟩)
theorem LitT.byt {T i σ τ v bs} (h : LitT T i σ τ v bs) : BytO τ v bs := by
 rcases h with h | h | ⟨g,h1,h2,h3,h4,h5⟩
 ·exact .inr ⟨_,h,trivial⟩
 ·exact .inl h
 ·exact .inr ⟨_,h1,h3,h4⟩
theorem LitT.tag {T T' : Nat → Nat} {i σ τ v bs} (h : LitT T i σ τ v bs) (hT : ∀ g,g < τ.nf → T' g = T g) : LitT T' i σ τ v bs := by
 rcases h with h | h | ⟨g,h1,h2,h3,h4,h5⟩
 ·exact .inl h
 ·exact .inr (.inl h)
 ·exact .inr (.inr ⟨g,h1,h2,h3,h4,(hT g h3).trans h5⟩)
theorem LitB.tagged {σ0 σ τ v bs} {T : Nat → Nat} {i : Nat} (h : LitB σ τ v bs) (h0 : σ0.nf ≤ σ.nf) (hT : ∀ g,σ.nf ≤ g → g < τ.nf → T g = i) : LitT T i σ0 τ v bs := by
 rcases h.1 with h | ⟨h1,h2⟩ | ⟨g,h1,h2,h3,h4⟩
 ·exact .inl h
 ·exact .inr (.inl ⟨by simpa [B] using h1,h2⟩)
 ·exact .inr (.inr ⟨g,h1,by omega,h3,h4,hT g h2 h3⟩)
def Beside (T T' : Nat → Nat) (i : Nat) (σ τ τ' : AS) : Prop := ∀ j w z,1 ≤ j → j ≠ i → LitT T j σ τ w z → LitT T' j σ τ' w z
section
variable {G : Env} {σ : AS} {R : Out → AS → Prop}
theorem growT {T : Nat → Nat} {i : Nat} {τ : AS} {v : AV} {ys : List AV} {x y : List UInt8} {K : AV → AS → Prop} (hi : 1 ≤ i) (h1 : LitT T i σ τ v x) (e : ys = B y) (hT : FreshT T τ) (A : Adds σ τ) (hl : x.length + y.length ≤ 2 ^ 42)
  (h : ∀ v' τ' T',LitT T' i σ τ' v' (x ++ y) → FreshT T' τ' → Adds σ τ' → τ'.objs = τ.objs → τ'.no = τ.no → Beside T T' i σ τ τ' → K v' τ') : grown 1 1 v ys τ K:=by
 subst e
 have hn:=A.nf
 have mk : ∀ z : List UInt8,LitT (upd T τ.nf i) i σ τ.newF (.sl (.fam τ.nf false) 1 (B z)) z:=fun z=>.inr (.inr ⟨τ.nf,rfl,hn,by simp,by simp,by simp⟩)
 have fr : FreshT (upd T τ.nf i) τ.newF:=fun f hf=>by
  simp at hf
  have : ¬ f = τ.nf:=by omega
  simp [this]
  exact hT f (by omega)
 have tg : ∀ {j w z},LitT T j σ τ w z → LitT (upd T τ.nf i) j σ τ w z:=fun hw=>hw.tag fun g hg=>by
  have : ¬ g = τ.nf:=by omega
  simp [this]
 have bs : Beside T (upd T τ.nf i) i σ τ τ.newF:=fun j w z _ _ hw=>(tg hw).keep (Adds.refl τ).newF
 rcases h1 with rfl | ⟨rfl,rfl⟩ | ⟨g,rfl,g1,g2,g3,g4⟩
 ·cases y with
  | nil =>
   have e0 : B [] = []:=rfl
   rw [e0]
   simp
   exact ⟨by simp at hl; omega,h _ _ T (.inl (by simp)) hT A rfl rfl fun _ _ _ _ _ q=>q⟩
  | cons c y =>
   have:=h (.sl (.fam τ.nf false) 1 (B (x ++ c :: y))) τ.newF _ (mk _) fr A.newF (by simp) (by simp) bs
   simp only [B,List.map_append,List.map_cons] at this ⊢
   simp
   simp at hl
   exact ⟨by omega,this⟩
 ·cases y with
  | nil =>
   have e0 : B [] = []:=rfl
   rw [e0]
   simp
   exact h _ _ T (.inr (.inl ⟨rfl,rfl⟩)) hT A rfl rfl fun _ _ _ _ _ q=>q
  | cons c y =>
   have:=h (.sl (.fam τ.nf false) 1 (B (c :: y))) τ.newF _ (mk _) fr A.newF (by simp) (by simp) bs
   simp only [B,List.map_cons] at this ⊢
   simp
   simp at hl
   exact ⟨by omega,this⟩
 ·simp [g3]
  have hne : ∀ f,f < σ.nf → ¬ f = g:=fun f hf=>by omega
  refine ⟨by omega,h _ _ (upd T τ.nf i) (.inr (.inr ⟨τ.nf,by simp,hn,by simp,by simp,by simp⟩)) (fun f hf=>?_) ((A.setF g1).newF (σ':=τ.setF g .dead)) (by simp) (by simp) fun j w z j1 j2 hw=>?_⟩
  ·simp at hf
   have : ¬ f = τ.nf:=by omega
   simp [this]
   exact hT f (by omega)
  ·rcases tg hw with q | q | ⟨g',q1,q2,q3,q4,q5⟩
   ·exact .inl q
   ·exact .inr (.inl q)
   ·have e1 : ¬ g' = g:=fun e=>by
     subst e
     have : ¬ g' = τ.nf:=by omega
     simp [this,g4] at q5
     exact j2 q5.symm
    have e2 : ¬ g' = τ.nf:=by omega
    exact .inr (.inr ⟨g',q1,q2,by simp; omega,by simp [e1,e2,q4],q5⟩)
theorem srcT {T : Nat → Nat} {i : Nat} {τ : AS} {v v2 : AV} {x y : List UInt8} {K : AV → AS → Prop} (hi : 1 ≤ i) (h1 : LitT T i σ τ v x) (h2 : BytO τ v2 y) (hT : FreshT T τ) (A : Adds σ τ) (hl : x.length + y.length ≤ 2 ^ 42)
  (h : ∀ v' τ' T',LitT T' i σ τ' v' (x ++ y) → FreshT T' τ' → Adds σ τ' → τ'.objs = τ.objs → τ'.no = τ.no → Beside T T' i σ τ τ' → K v' τ') :
  asource Tryz.prog 22 (.int .u8 0) 1 v2 τ.F fun ys=>(∀ y,y ∈ ys → y.cells.length = 1 ∧ ∀ c,c ∈ y.cells → c.one = true) ∧ grown 1 1 v ys τ K:=by
 rcases h2 with ⟨rfl,rfl⟩ | ⟨φ,rfl,hr⟩
 ·simp
  exact growT (y:=[]) hi h1 rfl hT A hl h
 ·have hr':=hr.read
  simp [hr']
  exact ⟨B_one y,growT hi h1 rfl hT A hl h⟩
theorem litT {T : Nat → Nat} {i : Nat} {τ : AS} {v2 : AV} {x y : List UInt8} {K : AV → AS → Prop} (h2 : BytO τ v2 y) (hy : y ≠ []) (hT : FreshT T τ) (A : Adds σ τ) (hl : x.length + y.length ≤ 2 ^ 42)
  (h : ∀ v' τ' T',LitT T' i σ τ' v' (x ++ y) → FreshT T' τ' → Adds σ τ' → τ'.objs = τ.objs → τ'.no = τ.no → Beside T T' i σ τ τ' → K v' τ') :
  asource Tryz.prog 22 (.int .u8 0) 1 v2 τ.F fun ys=>(∀ y,y ∈ ys → y.cells.length = 1 ∧ ∀ c,c ∈ y.cells → c.one = true) ∧ grown 1 1 (.lit x) ys τ K:=by
 rcases h2 with ⟨h0,_⟩ | ⟨φ,rfl,hr⟩
 ·exact absurd h0 hy
 have hr':=hr.read
 have hn:=A.nf
 have hBy : B y ≠ []:=by simpa [B] using hy
 simp [hr']
 refine ⟨B_one y,by omega,hBy,?_⟩
 rw [← B_app]
 refine h _ _ (upd T τ.nf i) (.inr (.inr ⟨τ.nf,rfl,hn,by simp,by simp,by simp⟩)) (fun f hf=>?_) A.newF (by simp) (by simp) fun j w z _ _ hw=>(hw.tag fun g hg=>?_).keep (Adds.refl τ).newF
 ·simp at hf
  have : ¬ f = τ.nf:=by omega
  simp [this]
  exact hT f (by omega)
 ·have : ¬ g = τ.nf:=by omega
  simp [this]
end
end Go.Proofs.YthejpoplbllcbaaGreatDoor
set_option linter.unusedSimpArgs false
set_option linter.unusedVariables false
namespace Go.Proofs.YthejpoplbllcbaaGreatDoor
open Go Go.Abs
theorem flat_take (l : List (List UInt8)) (i : Nat) : (l.take i).flatten.length ≤ l.flatten.length := by
 rw [sumB_flat,sumB_flat]
 exact sumB_le l i
theorem numsF_at : ∀ (fs : List F) (i : Int) (n : Nat),n < fs.length → (numsF i fs)[n]? = some (uI (i + n))
 | [],_,n,h=>by simp at h
 | f :: fs,i,0,_=>by simp [numsF]
 | f :: fs,i,n + 1,h=>by
  simp only [numsF,List.getElem?_cons_succ]
  rw [numsF_at fs (i + 1) n (by simpa using h)]
  congr 2
  omega
theorem namesF_at : ∀ (fs : List F) (i : Int) (n : Nat) (f : F),fs[n]? = some f → (namesF i fs)[n]? = some (uI (i + n) ++ sizedL f.name)
 | [],_,n,f,h=>by simp at h
 | g :: fs,i,0,f,h=>by simp at h; subst h; simp [namesF]
 | g :: fs,i,n + 1,f,h=>by
  simp only [namesF,List.getElem?_cons_succ]
  rw [namesF_at fs (i + 1) n f (by simpa using h)]
  congr 3
  omega
theorem flat_next {l : List (List UInt8)} {i : Nat} {x : List UInt8} (h : l[i]? = some x) : (l.take (i + 1)).flatten = (l.take i).flatten ++ x := by
 rw [List.take_add_one,h]
 simp
structure SzE (m : M) (codes : List (List UInt8)) : Prop where
 heads : (headsL m.funcs).flatten.length ≤ 2 ^ 37
 nums : (numsF 3 m.funcs).flatten.length ≤ 2 ^ 37
 codes : codes.flatten.length ≤ 2 ^ 37
 names : (namesF 3 m.funcs).flatten.length ≤ 2 ^ 37
def EnQ (σ : AS) (fs : List F) (codes : List (List UInt8)) (oc : List AV) (a : Nat → AV) (τ : AS) : Prop := ∃ (i : Nat) (T : Nat → Nat),i ≤ fs.length ∧ a 1 = .ptr σ.no 0 ∧ a 3 = .int .i64 (fs.length : Int) ∧ a 8 = .int .i64 (i : Int) ∧ LitT T 1 σ τ (a 4) (uI ((fs.length : Int) + 3) ++ ((headsL fs).take (i + 3)).flatten) ∧ LitT T 2 σ τ (a 5) (uI fs.length ++ ((numsF 3 fs).take i).flatten) ∧
 LitT T 3 σ τ (a 6) (uI fs.length ++ (codes.take i).flatten) ∧ LitT T 4 σ τ (a 7) (uI fs.length ++ ((namesF 3 fs).take i).flatten) ∧ FreshT T τ ∧ Adds σ τ ∧ σ.no < τ.no ∧ τ.objs σ.no = some oc
theorem Beside.adds {T T' i σ τ τ'} (h : Beside T T' i σ τ τ') {j : Nat} {w z} (h1 : 1 ≤ j) (h2 : j ≠ i) (hw : LitT T j σ τ w z) : LitT T' j σ τ' w z := h j w z h1 h2 hw
section
variable {G : Env} {σ : AS} {R : Out → AS → Prop}
theorem funcE_body {fs : List F} {codes : List (List UInt8)} {fsv : AV} {mem mn : Int} (hfs : Al.FsO σ fsv fs) (hlen : fs.length ≤ 2 ^ 30) (hsz : ∀ f ∈ fs,SzB f) (hty : ∀ f ∈ fs,typedF f = true) (hc : codesF fs = some codes) (hse : SzE ⟨fs,mem,mn⟩ codes)
  (fin : ∀ a τ,(∃ T,a 1 = .ptr σ.no 0 ∧ LitT T 1 σ τ (a 4) (rowL (headsL fs)) ∧ LitT T 2 σ τ (a 5) (rowL (numsF 3 fs)) ∧ LitT T 3 σ τ (a 6) (rowL codes) ∧ LitT T 4 σ τ (a 7) (rowL (namesF 3 fs)) ∧ FreshT T τ ∧ Adds σ τ ∧ σ.no < τ.no ∧ τ.objs σ.no = some [fsv,.int .i64 mem,.int .i64 mn]) → avc Tryz.prog G 156 pc22_r2 (afin Tryz.prog [.tmp 2] R) a τ)
  {a : Nat → AV} {τ : AS} (hI : EnQ σ fs codes [fsv,.int .i64 mem,.int .i64 mn] a τ) :
  avc Tryz.prog G 156 pc22_l1 (athen (fun a' σ'=>EnQ σ fs codes [fsv,.int .i64 mem,.int .i64 mn] a' σ' ∧ MU 8 (fs.length + 1) a' σ' < MU 8 (fs.length + 1) a τ) (ablock 0 (athen (avc Tryz.prog G 156 pc22_r2 (afin Tryz.prog [.tmp 2] R)) (afin Tryz.prog [.tmp 2] R)))) a τ:=by
 obtain ⟨i,T,hi,a1,a3,a8,l1,l2,l3,l4,hT,hA,hno,ho⟩:=hI
 have hcl:=codesF_len hc
 have b1:=flat_take (headsL fs) (i + 3)
 have b2:=flat_take (numsF 3 fs) i
 have b3:=flat_take codes i
 have b4:=flat_take (namesF 3 fs) i
 have c1:=hse.heads
 have c2:=hse.nums
 have c3:=hse.codes
 have c4:=hse.names
 simp only at c1 c2 c4
 have u1:=uI_len ((fs.length : Int) + 3)
 have u2:=uI_len (fs.length : Int)
 have f1:=hfs.one
 by_cases hlt : i < fs.length
 ·have hlt' : (i : Int) < (fs.length : Int):=by omega
  obtain ⟨φ,rv,hrd,hv,hix⟩:=hfs.at hlt
  have hrd:=(hrd.keep hA).read
  have hmem:=List.getElem_mem hlt
  have hfi:=List.getElem?_eq_getElem hlt
  have hs:=hsz _ hmem
  have hy:=hty _ hmem
  obtain ⟨c,hcf,hcc⟩:=codesF_at hc hfi
  generalize fs[i] = f at *
  obtain ⟨pv,lv,tv,rfl,hpv,hlv,htv⟩:=hv
  have p1:=hpv.one
  have q1:=hlv.one
  have t1:=htv.one
  obtain ⟨ty1,ty2,ty3⟩:=typed_parts hy
  have w3 : IntKind.wrap .i64 ((i : Int) + 3) = (i : Int) + 3:=by rw [wrap_i64] <;> omega
  have w1 : IntKind.wrap .i64 ((i : Int) + 1) = ((i + 1 : Nat) : Int):=by rw [wrap_i64] <;> omega
  have hhd : (headsL fs)[i + 3]? = some (headL f.params f.type):=by simp [headsL,hfi]
  have hnm:=numsF_at fs 3 i hlt
  have hna:=namesF_at fs 3 i f hfi
  have hon : ¬ σ.no = τ.no:=by omega
  have A1 : Adds τ ((τ.newO [.str [],.nilsl,.nilsl,.int .i64 0,.nilsl]).setO τ.no [.str f.name,pv,lv,.int .i64 f.type,tv]):=.mk1
  have o1 : ((τ.newO [.str [],.nilsl,.nilsl,.int .i64 0,.nilsl]).setO τ.no [.str f.name,pv,lv,.int .i64 f.type,tv]).objs τ.no = some [.str f.name,pv,lv,.int .i64 f.type,tv]:=by simp
  have o2 : ((τ.newO [.str [],.nilsl,.nilsl,.int .i64 0,.nilsl]).setO τ.no [.str f.name,pv,lv,.int .i64 f.type,tv]).objs σ.no = some [fsv,.int .i64 mem,.int .i64 mn]:=by simp [hon,ho]
  have o3 : ((τ.newO [.str [],.nilsl,.nilsl,.int .i64 0,.nilsl]).setO τ.no [.str f.name,pv,lv,.int .i64 f.type,tv]).no = τ.no + 1:=by simp
  simp [pc22_l1,a1,a3,a8,hlt',ho,hix,hrd,splice,p1,q1,t1]
  generalize (τ.newO [.str [],.nilsl,.nilsl,.int .i64 0,.nilsl]).setO τ.no [.str f.name,pv,lv,.int .i64 f.type,tv] = τ1 at *
  have hA1:=hA.trans A1
  refine headE_calls (hpv.keep hA1) (by have:=hs.params; omega) ty1 (by omega) fun v2 τ2 h2=>?_
  have hA2:=hA1.trans h2.2
  have B2:=A1.trans h2.2
  have p2:=(h2.2.obj τ.no (by omega)).trans o1
  have r2:=(h2.2.obj σ.no (by omega)).trans o2
  have n2:=h2.2.no
  have fh:=flat_next hhd
  have fn:=flat_next hnm
  have fc:=flat_next hcc
  have fa:=flat_next hna
  have b1':=flat_take (headsL fs) (i + 3 + 1)
  have b2':=flat_take (numsF 3 fs) (i + 1)
  have b3':=flat_take codes (i + 1)
  have b4':=flat_take (namesF 3 fs) (i + 1)
  rw [fh,List.length_append] at b1'
  rw [fn,List.length_append] at b2'
  rw [fc,List.length_append] at b3'
  rw [fa,List.length_append] at b4'
  have hT2:=hT.keep B2
  simp
  refine srcT (by decide) (l1.keep B2) h2.byt hT2 hA2 (by rw [List.length_append]; omega) fun v3 τ3 T3 t3 hT3 hA3 e3 m3 bs3=>?_
  have s2:=bs3.adds (by decide) (by decide) (l2.keep B2)
  have s3:=bs3.adds (by decide) (by decide) (l3.keep B2)
  have s4:=bs3.adds (by decide) (by decide) (l4.keep B2)
  have p3:=(congrFun e3 τ.no).trans p2
  have r3:=(congrFun e3 σ.no).trans r2
  have k3:=t3.byt.one
  have k5:=s2.byt.one
  simp [k3,k5,a8,w3]
  -- numbers
  refine ru_calls (by omega) fun v4 τ4 h4=>?_
  have hA4:=hA3.trans h4.2
  have p4:=(h4.2.obj τ.no (by omega)).trans p3
  have r4:=(h4.2.obj σ.no (by omega)).trans r3
  have n4:=h4.2.no
  have hni : (3 : Int) + (i : Int) = (i : Int) + 3:=by omega
  rw [hni] at fn fa b2' b4'
  simp
  refine srcT (by decide) (s2.keep h4.2) h4.byt (hT3.keep h4.2) hA4 (by rw [List.length_append]; omega) fun v5 τ5 T5 t5 hT5 hA5 e5 m5 bs5=>?_
  have x1:=bs5.adds (by decide) (by decide) (t3.keep h4.2)
  have x3:=bs5.adds (by decide) (by decide) (s3.keep h4.2)
  have x4:=bs5.adds (by decide) (by decide) (s4.keep h4.2)
  have p5:=(congrFun e5 τ.no).trans p4
  have r5:=(congrFun e5 σ.no).trans r4
  have k5':=t5.byt.one
  have tl:=htv.len
  have wl : IntKind.wrap .i64 ((f.lists.length : Int) - 1) = (f.lists.length : Int) - 1:=by have:=hs.many; rw [wrap_i64] <;> omega
  unfold codeF at hcf
  rw [Option.map_eq_some_iff] at hcf
  obtain ⟨bl,hbl,rfl⟩:=hcf
  have hcl2 : (localsL f.locals ++ bl ++ [11]).length ≤ 2 ^ 37:=by
   have e : (sizedL (localsL f.locals ++ bl ++ [11])).length = (uI ((localsL f.locals ++ bl ++ [11]).length : Int)).length + (localsL f.locals ++ bl ++ [11]).length:=by unfold sizedL; rw [List.length_append]
   omega
  simp only [List.length_append,List.length_cons,List.length_nil] at hcl2
  simp [k5',p5,q1,tl,wl]
  -- code
  refine localsE_calls (hlv.keep hA5) hs.locals ty2 fun v6 τ6 h6=>?_
  have hA6:=hA5.trans h6.2
  have p6:=(h6.2.obj τ.no (by omega)).trans p5
  have r6:=(h6.2.obj σ.no (by omega)).trans r5
  have n6:=h6.2.no
  simp [p6,p1,q1,t1,tl,wl]
  refine listE_ok hs.rows hs.rg f.lists.length τ6 _ f pv lv tv _ bl rfl (hpv.keep hA6) (hlv.keep hA6) (htv.keep hA6) hbl (by omega) fun v7 τ7 h7=>?_
  have hA7:=hA6.trans h7.2
  have p7:=(h7.2.obj τ.no (by omega)).trans p6
  have r7:=(h7.2.obj σ.no (by omega)).trans r6
  have n7:=h7.2.no
  simp
  refine lit_src (h6.keep h7.2) h7.byt (by omega) fun v8 τ8 h8 e8 m8=>?_
  have k8:=h8.byt.one
  have p8:=(congrFun e8 τ.no).trans p7
  have r8:=(congrFun e8 σ.no).trans r7
  simp [k8]
  refine lit_grow (y:=[11]) h8 rfl (by simp; omega) fun v9 τ9 h9 e9 m9=>?_
  have k9:=h9.byt.one
  have p9:=(congrFun e9 τ.no).trans p8
  have r9:=(congrFun e9 σ.no).trans r8
  have kx3:=x3.byt.one
  simp [k9]
  refine sizedE_calls h9.byt (by simp; omega) fun v10 τ10 h10=>?_
  have B10:=h9.2.trans h10.2
  have hA10:=hA5.trans B10
  have p10:=(h10.2.obj τ.no (by omega)).trans p9
  have r10:=(h10.2.obj σ.no (by omega)).trans r9
  have n10:=h10.2.no
  simp
  refine srcT (by decide) (x3.keep B10) h10.byt (hT5.keep B10) hA10 (by rw [List.length_append]; omega) fun v11 τ11 T11 t11 hT11 hA11 e11 m11 bs11=>?_
  have y1:=bs11.adds (by decide) (by decide) (x1.keep B10)
  have y2:=bs11.adds (by decide) (by decide) (t5.keep B10)
  have y4:=bs11.adds (by decide) (by decide) (x4.keep B10)
  have p11:=(congrFun e11 τ.no).trans p10
  have r11:=(congrFun e11 σ.no).trans r10
  have k11:=t11.byt.one
  have ky4:=y4.byt.one
  simp [k11,ky4,a8,w3,p11]
  -- names
  refine ru_calls (by omega) fun v12 τ12 h12=>?_
  have hA12:=hA11.trans h12.2
  have p12:=(h12.2.obj τ.no (by omega)).trans p11
  have r12:=(h12.2.obj σ.no (by omega)).trans r11
  have n12:=h12.2.no
  simp [p12]
  refine srcT (by decide) (y4.keep h12.2) h12.byt (hT11.keep h12.2) hA12 (by rw [List.length_append] at b4' ⊢; omega) fun v13 τ13 T13 t13 hT13 hA13 e13 m13 bs13=>?_
  have z1:=bs13.adds (by decide) (by decide) (y1.keep h12.2)
  have z2:=bs13.adds (by decide) (by decide) (y2.keep h12.2)
  have z3:=bs13.adds (by decide) (by decide) (t11.keep h12.2)
  have p13:=(congrFun e13 τ.no).trans p12
  have r13:=(congrFun e13 σ.no).trans r12
  have k13:=t13.byt.one
  simp [p13]
  refine nameE_calls (by have:=hs.name; omega) fun v14 τ14 h14=>?_
  have hA14:=hA13.trans h14.2
  have r14:=(h14.2.obj σ.no (by omega)).trans r13
  have n14:=h14.2.no
  simp
  refine srcT (by decide) (t13.keep h14.2) h14.byt (hT13.keep h14.2) hA14 (by simp only [List.length_append] at b4' ⊢; omega) fun v15 τ15 T15 t15 hT15 hA15 e15 m15 bs15=>?_
  have z1':=bs15.adds (by decide) (by decide) (z1.keep h14.2)
  have z2':=bs15.adds (by decide) (by decide) (z2.keep h14.2)
  have z3':=bs15.adds (by decide) (by decide) (z3.keep h14.2)
  have r15:=(congrFun e15 σ.no).trans r14
  have k15:=t15.byt.one
  simp [k15,a8,w1]
  refine ⟨⟨i + 1,T15,hlt,by simp [a1],by simp [a3],by simp,?_,?_,?_,?_,hT15,hA15,by omega,r15⟩,?_⟩
  ·have e : i + 1 + 3 = i + 3 + 1:=by omega
   rw [e,fh]
   simpa using z1'
  ·rw [fn]
   simpa using z2'
  ·rw [fc]
   simpa using z3'
  ·rw [fa]
   simpa using t15
  ·simp only [MU,a8]
   simp
   omega
 ·have e : i = fs.length:=by omega
  subst e
  simp [pc22_l1,a3,a8]
  refine fin _ _ ⟨T,by simp [a1],?_,?_,?_,?_,hT,hA,hno,ho⟩
  ·have e1 : (headsL fs).take (fs.length + 3) = headsL fs:=List.take_of_length_le (by rw [headsL_len]; omega)
   rw [e1] at l1
   have e2 : ((headsL fs).length : Int) = (fs.length : Int) + 3:=by rw [headsL_len]; omega
   unfold rowL
   rw [e2]
   simpa using l1
  ·have e1 : (numsF 3 fs).take fs.length = numsF 3 fs:=List.take_of_length_le (by rw [numsF_len]; omega)
   rw [e1] at l2
   unfold rowL
   rw [numsF_len]
   simpa using l2
  ·have e1 : codes.take fs.length = codes:=List.take_of_length_le (by omega)
   rw [e1] at l3
   unfold rowL
   rw [hcl]
   simpa using l3
  ·have e1 : (namesF 3 fs).take fs.length = namesF 3 fs:=List.take_of_length_le (by rw [namesF_len]; omega)
   rw [e1] at l4
   unfold rowL
   rw [namesF_len]
   simpa using l4
end
end Go.Proofs.YthejpoplbllcbaaGreatDoor
set_option linter.unusedSimpArgs false
set_option linter.unusedVariables false
namespace Go.Proofs.YthejpoplbllcbaaGreatDoor
open Go Go.Abs
def ImQ (σ : AS) (n : Nat) (h4 h5 h6 h7 : List UInt8) (oc : List AV) (a : Nat → AV) (τ : AS) : Prop := ∃ (j : Nat) (T : Nat → Nat),j ≤ 3 ∧ a 1 = .ptr σ.no 0 ∧ a 12 = .sl (.stat true) 1 (wordsI.map AV.str) ∧ a 13 = .int .i64 (j : Int) ∧ LitT T 1 σ τ (a 4) h4 ∧ LitT T 2 σ τ (a 5) h5 ∧ LitT T 3 σ τ (a 6) h6 ∧ LitT T 4 σ τ (a 7) h7 ∧
 LitT T 5 σ τ (a 11) (3 :: (importsL.take j).flatten) ∧ FreshT T τ ∧ Adds σ τ ∧ σ.no < τ.no ∧ τ.objs σ.no = some oc
section
variable {G : Env} {σ : AS} {R : Out → AS → Prop}
theorem secK_calls {n : UInt8} {k : Int} {v : AV} {bs : List UInt8} (hk : k = (n.toNat : Int)) (hv : BytO σ v bs) (hl : bs.length < 2 ^ 40) (h : ∀ v' σ',LitB σ σ' v' (sectionL n bs) → R (.ret v') σ') : ACalls Tryz.prog G 56 [.int .i64 k,v] σ R := by
 subst hk
 exact sectionE_calls hv hl h
theorem importE_body {n : Nat} {h4 h5 h6 h7 : List UInt8} {oc : List AV} {a : Nat → AV} {τ : AS}
  (fin : ∀ a τ,(∃ T,a 1 = .ptr σ.no 0 ∧ LitT T 1 σ τ (a 4) h4 ∧ LitT T 2 σ τ (a 5) h5 ∧ LitT T 3 σ τ (a 6) h6 ∧ LitT T 4 σ τ (a 7) h7 ∧ LitT T 5 σ τ (a 11) (rowL importsL) ∧ FreshT T τ ∧ Adds σ τ ∧ σ.no < τ.no ∧ τ.objs σ.no = some oc) → avc Tryz.prog G 156 pc22_r1 (afin Tryz.prog [.tmp 2] R) a τ)
  (hI : ImQ σ n h4 h5 h6 h7 oc a τ) :
  avc Tryz.prog G 156 pc22_l2 (athen (fun a' σ'=>ImQ σ n h4 h5 h6 h7 oc a' σ' ∧ MU 13 4 a' σ' < MU 13 4 a τ) (ablock 2 (athen (avc Tryz.prog G 156 pc22_r1 (afin Tryz.prog [.tmp 2] R)) (afin Tryz.prog [.tmp 2] R)))) a τ:=by
 obtain ⟨j,T,hj,a1,a12,a13,l4,l5,l6,l7,l11,hT,hA,hno,ho⟩:=hI
 by_cases hlt : j < 3
 ·have hlt' : (j : Int) < 3:=by omega
  have w1 : IntKind.wrap .i64 ((j : Int) + 1) = ((j + 1 : Nat) : Int):=by rw [wrap_i64] <;> omega
  obtain ⟨w,c,hw,hi,hc,hwl⟩ : ∃ (w : List UInt8) (c : UInt8),wordsI[j]? = some w ∧ importsL[j]? = some (importL w c) ∧ IntKind.wrap .u8 (j : Int) = (c.toNat : Int) ∧ w.length ≤ 4:=by
   rcases j with _ | _ | _ | j
   ·exact ⟨_,0,rfl,rfl,rfl,by decide⟩
   ·exact ⟨_,1,rfl,rfl,rfl,by decide⟩
   ·exact ⟨_,2,rfl,rfl,rfl,by decide⟩
   ·omega
  have hw2 : (wordsI.map AV.str)[j]? = some (.str w):=by simp [hw]
  have hfl:=flat_next hi
  have k11:=l11.byt.one
  have hl3 : ((importsL.take j).flatten).length ≤ 60:=by
   have:=flat_take importsL j
   have e : importsL.flatten.length ≤ 60:=by decide
   omega
  have hsl : (sizedL w).length ≤ 20:=by have:=sized_len w; omega
  have henv : (sizedL [101,110,118]).length = 4:=by decide
  simp [pc22_l2,a1,a12,a13,hlt',k11,hw2]
  refine nameE_calls (by simp) fun v1 τ1 h1=>?_
  have hA1:=hA.trans h1.2
  have p1:=(h1.2.obj σ.no (by omega)).trans ho
  have n1:=h1.2.no
  simp
  refine srcT (by decide) (l11.keep h1.2) h1.byt (hT.keep h1.2) hA1 (by simp only [List.length_cons]; omega) fun v2 τ2 T2 t2 hT2 hA2 e2 m2 bs2=>?_
  have x4:=bs2.adds (by decide) (by decide) (l4.keep h1.2)
  have x5:=bs2.adds (by decide) (by decide) (l5.keep h1.2)
  have x6:=bs2.adds (by decide) (by decide) (l6.keep h1.2)
  have x7:=bs2.adds (by decide) (by decide) (l7.keep h1.2)
  have p2:=(congrFun e2 σ.no).trans p1
  simp [hw2]
  refine nameE_calls (by omega) fun v3 τ3 h3=>?_
  have hA3:=hA2.trans h3.2
  have p3:=(h3.2.obj σ.no (by omega)).trans p2
  have n3:=h3.2.no
  simp
  refine srcT (by decide) (t2.keep h3.2) h3.byt (hT2.keep h3.2) hA3 (by simp only [List.length_append,List.length_cons]; omega) fun v4 τ4 T4 t4 hT4 hA4 e4 m4 bs4=>?_
  have y4:=bs4.adds (by decide) (by decide) (x4.keep h3.2)
  have y5:=bs4.adds (by decide) (by decide) (x5.keep h3.2)
  have y6:=bs4.adds (by decide) (by decide) (x6.keep h3.2)
  have y7:=bs4.adds (by decide) (by decide) (x7.keep h3.2)
  have p4:=(congrFun e4 σ.no).trans p3
  have k4:=t4.byt.one
  simp [k4,a13,hc]
  refine growT (y:=[0,c]) (by decide) t4 rfl hT4 hA4 (by simp only [List.length_append,List.length_cons,List.length_nil]; omega) fun v5 τ5 T5 t5 hT5 hA5 e5 m5 bs5=>?_
  have z4:=bs5.adds (by decide) (by decide) y4
  have z5:=bs5.adds (by decide) (by decide) y5
  have z6:=bs5.adds (by decide) (by decide) y6
  have z7:=bs5.adds (by decide) (by decide) y7
  have p5:=(congrFun e5 σ.no).trans p4
  have k5:=t5.byt.one
  simp [k5,a13,w1]
  refine ⟨⟨j + 1,T5,hlt,by simp [a1],by simp [a12],by simp,by simpa using z4,by simpa using z5,by simpa using z6,by simpa using z7,?_,hT5,hA5,by omega,p5⟩,?_⟩
  ·rw [hfl]
   unfold importL
   simpa using t5
  ·simp only [MU,a13]
   simp
   omega
 ·have e : j = 3:=by omega
  subst e
  simp [pc22_l2,a13]
  refine fin _ _ ⟨T,by simp [a1],by simpa using l4,by simpa using l5,by simpa using l6,by simpa using l7,?_,hT,hA,hno,ho⟩
  have e1 : importsL.take 3 = importsL:=rfl
  rw [e1] at l11
  have e2 : rowL importsL = 3 :: importsL.flatten:=by decide
  rw [e2]
  simpa using l11
end
end Go.Proofs.YthejpoplbllcbaaGreatDoor
set_option linter.unusedSimpArgs false
set_option linter.unusedVariables false
namespace Go.Proofs.YthejpoplbllcbaaGreatDoor
open Go Go.Abs
theorem LitT.lit {T i σ τ v bs} (h : LitT T i σ τ v bs) (A : Adds σ τ) : LitB σ τ v bs := by
 rcases h with h | ⟨h1,h2⟩ | ⟨g,h1,h2,h3,h4,_⟩
 ·exact ⟨.inl h,A⟩
 ·exact ⟨.inr (.inl ⟨by rw [h1]; rfl,h2⟩),A⟩
 ·exact ⟨.inr (.inr ⟨g,h1,h2,h3,h4⟩),A⟩
section
variable {G : Env} {σ : AS} {R : Out → AS → Prop}
set_option maxRecDepth 20000 in
theorem encE_end {m : M} {codes : List (List UInt8)} {bs : List UInt8} {fsv : AV} (he : encM m = some bs) (hc : codesF m.funcs = some codes) (hl : bs.length ≤ 2 ^ 36) (hmem : -(2 ^ 63) ≤ m.memory ∧ m.memory < 2 ^ 63) (h : ∀ v σ',LitB σ σ' v bs → R (.ret v) σ')
  {a : Nat → AV} {τ : AS} {T : Nat → Nat} (a1 : a 1 = .ptr σ.no 0) (l4 : LitT T 1 σ τ (a 4) (rowL (headsL m.funcs))) (l5 : LitT T 2 σ τ (a 5) (rowL (numsF 3 m.funcs))) (l6 : LitT T 3 σ τ (a 6) (rowL codes)) (l7 : LitT T 4 σ τ (a 7) (rowL (namesF 3 m.funcs))) (l11 : LitT T 5 σ τ (a 11) (rowL importsL)) (hT : FreshT T τ) (hA : Adds σ τ) (hno : σ.no < τ.no) (ho : τ.objs σ.no = some [fsv,.int .i64 m.memory,.int .i64 m.main]) :
  avc Tryz.prog G 156 pc22_r1 (afin Tryz.prog [.tmp 2] R) a τ:=by
 unfold encM at he
 rw [hc] at he
 simp only [Option.map_some,Option.some.injEq] at he
 generalize hS1 : sectionL 1 (rowL (headsL m.funcs)) = S1 at he
 generalize hS2 : sectionL 2 (rowL importsL) = S2 at he
 generalize hS3 : sectionL 3 (rowL (numsF 3 m.funcs)) = S3 at he
 generalize hS5 : sectionL 5 [1,0,1] = S5 at he
 generalize hS6 : sectionL 6 ([1,127,0,65] ++ sI m.memory ++ [11]) = S6 at he
 generalize hS7 : sectionL 7 ([1] ++ sizedL [109,97,105,110] ++ [0] ++ uI (mainL m)) = S7 at he
 generalize hS10 : sectionL 10 (rowL codes) = S10 at he
 generalize hS0 : sectionL 0 (sizedL [110,97,109,101] ++ [1] ++ sizedL (rowL (namesF 3 m.funcs))) = S0 at he
 have hlen:=congrArg List.length he
 simp only [List.length_append] at hlen
 have sl : ∀ (n : UInt8) (b : List UInt8) S,sectionL n b = S → b.length ≤ S.length:=fun n b S e=>by
  rw [← e]
  unfold sectionL sizedL
  simp
  omega
 have z1:=sl _ _ _ hS1
 have z2:=sl _ _ _ hS2
 have z3:=sl _ _ _ hS3
 have z5:=sl _ _ _ hS5
 have z6:=sl _ _ _ hS6
 have z7:=sl _ _ _ hS7
 have z10:=sl _ _ _ hS10
 have z0:=sl _ _ _ hS0
 have hmag : magicL.length = 8:=rfl
 have k4:=l4.byt.one
 simp [pc22_r1,k4]
 refine secK_calls (n:=1) (by decide) l4.byt (by omega) fun v1 τ1 h1=>?_
 rw [hS1] at h1
 have hA1:=hA.trans h1.2
 have p1:=(h1.2.obj σ.no (by omega)).trans ho
 have n1:=h1.2.no
 simp
 refine litT (T:=T) (i:=6) (x:=magicL) h1.byt (by rw [← hS1]; unfold sectionL; simp) (hT.keep h1.2) hA1 (by omega) fun v2 τ2 T2 t2 hT2 hA2 e2 m2 bs2=>?_
 have a5:=bs2.adds (by decide) (by decide) (l5.keep h1.2)
 have a6:=bs2.adds (by decide) (by decide) (l6.keep h1.2)
 have a7:=bs2.adds (by decide) (by decide) (l7.keep h1.2)
 have a11:=bs2.adds (by decide) (by decide) (l11.keep h1.2)
 have p2:=(congrFun e2 σ.no).trans p1
 have k11:=a11.byt.one
 simp [k11]
 refine secK_calls (n:=2) (by decide) a11.byt (by omega) fun v3 τ3 h3=>?_
 rw [hS2] at h3
 have hA3:=hA2.trans h3.2
 have p3:=(h3.2.obj σ.no (by omega)).trans p2
 have n3:=h3.2.no
 simp
 refine srcT (by decide) (t2.keep h3.2) h3.byt (hT2.keep h3.2) hA3 (by rw [List.length_append]; omega) fun v4 τ4 T4 t4 hT4 hA4 e4 m4 bs4=>?_
 have b5:=bs4.adds (by decide) (by decide) (a5.keep h3.2)
 have b6:=bs4.adds (by decide) (by decide) (a6.keep h3.2)
 have b7:=bs4.adds (by decide) (by decide) (a7.keep h3.2)
 have p4:=(congrFun e4 σ.no).trans p3
 have q4:=t4.byt.one
 have k5:=b5.byt.one
 simp [q4,k5]
 -- 3,5
 refine secK_calls (n:=3) (by decide) b5.byt (by omega) fun v5 τ5 h5=>?_
 rw [hS3] at h5
 have hA5:=hA4.trans h5.2
 have p5:=(h5.2.obj σ.no (by omega)).trans p4
 have n5:=h5.2.no
 simp
 refine srcT (by decide) (t4.keep h5.2) h5.byt (hT4.keep h5.2) hA5 (by simp only [List.length_append]; omega) fun v6 τ6 T6 t6 hT6 hA6 e6 m6 bs6=>?_
 have c6:=bs6.adds (by decide) (by decide) (b6.keep h5.2)
 have c7:=bs6.adds (by decide) (by decide) (b7.keep h5.2)
 have p6:=(congrFun e6 σ.no).trans p5
 have q6:=t6.byt.one
 simp [q6]
 refine secK_calls (n:=5) (bs:=[1,0,1]) (by decide) (.inr ⟨.stat true,by simp [B],trivial⟩) (by simp) fun v7 τ7 h7=>?_
 rw [hS5] at h7
 have hA7:=hA6.trans h7.2
 have p7:=(h7.2.obj σ.no (by omega)).trans p6
 have n7:=h7.2.no
 simp
 refine srcT (by decide) (t6.keep h7.2) h7.byt (hT6.keep h7.2) hA7 (by simp only [List.length_append]; omega) fun v8 τ8 T8 t8 hT8 hA8 e8 m8 bs8=>?_
 have d6:=bs8.adds (by decide) (by decide) (c6.keep h7.2)
 have d7:=bs8.adds (by decide) (by decide) (c7.keep h7.2)
 have p8:=(congrFun e8 σ.no).trans p7
 have q8:=t8.byt.one
 have sI1:=sI_len m.memory
 simp [q8,a1,p8]
 -- 6
 refine rs_calls hmem fun v9 τ9 h9=>?_
 have n9:=h9.2.no
 simp
 refine lit_src (x:=[1,127,0,65]) ⟨.inl (by simp [B]),h9.2⟩ h9.byt (by simp; omega) fun v10 τ10 h10 e10 m10=>?_
 have q10:=h10.byt.one
 simp [q10]
 refine lit_grow (y:=[11]) h10 rfl (by simp; omega) fun v11 τ11 h11 e11 m11=>?_
 have q11:=h11.byt.one
 simp
 refine secK_calls (n:=6) (by decide) h11.byt (by simp; omega) fun v12 τ12 h12=>?_
 have B12:=h11.2.trans h12.2
 rw [hS6] at h12
 have hA12:=hA8.trans B12
 have p12:=(B12.obj σ.no (by omega)).trans p8
 have n12:=B12.no
 simp
 refine srcT (by decide) (t8.keep B12) h12.byt (hT8.keep B12) hA12 (by simp only [List.length_append]; omega) fun v13 τ13 T13 t13 hT13 hA13 e13 m13 bs13=>?_
 have f6:=bs13.adds (by decide) (by decide) (d6.keep B12)
 have f7:=bs13.adds (by decide) (by decide) (d7.keep B12)
 have p13:=(congrFun e13 σ.no).trans p12
 have q13:=t13.byt.one
 have uI1:=uI_len (mainL m)
 have hz4 : (sizedL [109,97,105,110]).length = 5:=by decide
 have hml : IntKind.wrap .i64 (m.main + 3) = mainL m:=rfl
 have hml2 : mainL m < 2 ^ 63:=(wrap_range (m.main + 3)).2
 simp [q13,a1,p13,hml]
 -- 7
 refine nameE_calls (by simp) fun v14 τ14 h14=>?_
 have n14:=h14.2.no
 have p14:=(h14.2.obj σ.no (by omega)).trans p13
 simp [p14,hml]
 refine lit_src (x:=[1]) ⟨.inl (by simp [B]),h14.2⟩ h14.byt (by simp only [List.length_cons,List.length_nil]; omega) fun v15 τ15 h15 e15 m15=>?_
 have q15:=h15.byt.one
 have p15:=(congrFun e15 σ.no).trans p14
 simp [q15,p15,hml]
 refine lit_grow (y:=[0]) h15 rfl (by simp only [List.length_append,List.length_cons,List.length_nil]; omega) fun v16 τ16 h16 e16 m16=>?_
 have q16:=h16.byt.one
 have p16:=(congrFun e16 σ.no).trans p15
 simp [q16,p16,hml]
 refine ru_calls hml2 fun v17 τ17 h17=>?_
 have n17:=h17.2.no
 simp
 refine lit_src (h16.keep h17.2) h17.byt (by simp only [List.length_append,List.length_cons,List.length_nil]; omega) fun v18 τ18 h18 e18 m18=>?_
 have q18:=h18.byt.one
 simp
 refine secK_calls (n:=7) (by decide) h18.byt (by simp only [List.length_append,List.length_cons,List.length_nil]; omega) fun v19 τ19 h19=>?_
 have B19:=h18.2.trans h19.2
 rw [hS7] at h19
 have hA19:=hA13.trans B19
 have p19:=(B19.obj σ.no (by omega)).trans p13
 have n19:=B19.no
 simp
 refine srcT (by decide) (t13.keep B19) h19.byt (hT13.keep B19) hA19 (by simp only [List.length_append]; omega) fun v20 τ20 T20 t20 hT20 hA20 e20 m20 bs20=>?_
 have g6:=bs20.adds (by decide) (by decide) (f6.keep B19)
 have g7:=bs20.adds (by decide) (by decide) (f7.keep B19)
 have q20:=t20.byt.one
 have k6:=g6.byt.one
 simp [q20,k6]
 -- 10
 refine secK_calls (n:=10) (by decide) g6.byt (by omega) fun v21 τ21 h21=>?_
 rw [hS10] at h21
 have hA21:=hA20.trans h21.2
 have n21:=h21.2.no
 simp
 refine srcT (by decide) (t20.keep h21.2) h21.byt (hT20.keep h21.2) hA21 (by simp only [List.length_append]; omega) fun v22 τ22 T22 t22 hT22 hA22 e22 m22 bs22=>?_
 have i7:=bs22.adds (by decide) (by decide) (g7.keep h21.2)
 have q22:=t22.byt.one
 have k7:=i7.byt.one
 have hz5 : (sizedL [110,97,109,101]).length = 5:=by decide
 have zn:=sized_len (rowL (namesF 3 m.funcs))
 have zn2 : (rowL (namesF 3 m.funcs)).length ≤ S0.length:=by
  simp only [List.length_append] at z0
  have : (rowL (namesF 3 m.funcs)).length ≤ (sizedL (rowL (namesF 3 m.funcs))).length:=by unfold sizedL; simp
  omega
 simp [q22,k7]
 -- 0
 refine nameE_calls (by simp) fun v23 τ23 h23=>?_
 have n23:=h23.2.no
 have q23:=h23.byt.one
 have i7b:=i7.keep h23.2
 simp
 refine lit_grow (y:=[1]) h23 rfl (by simp only [List.length_cons,List.length_nil]; omega) fun v24 τ24 h24 e24 m24=>?_
 have q24:=h24.byt.one
 simp [k7]
 refine sizedE_calls (i7.byt.keep h24.2) (by omega) fun v25 τ25 h25=>?_
 simp
 refine lit_src (h24.keep h25.2) h25.byt (by simp only [List.length_append,List.length_cons,List.length_nil]; omega) fun v26 τ26 h26 e26 m26=>?_
 have q26:=h26.byt.one
 simp
 refine secK_calls (n:=0) (by decide) h26.byt (by simp only [List.length_append,List.length_cons,List.length_nil]; omega) fun v27 τ27 h27=>?_
 have B27:=h26.2.trans h27.2
 rw [hS0] at h27
 have hA27:=hA22.trans B27
 simp
 refine srcT (by decide) (t22.keep B27) h27.byt (hT22.keep B27) hA27 (by simp only [List.length_append]; omega) fun v28 τ28 T28 t28 hT28 hA28 e28 m28 bs28=>?_
 have q28:=t28.byt.one
 simp [q28]
 refine h _ _ ?_
 have:=t28.lit hA28
 rw [← he]
 simpa using this
end
end Go.Proofs.YthejpoplbllcbaaGreatDoor
set_option linter.unusedSimpArgs false
set_option linter.unusedVariables false
namespace Go.Proofs.YthejpoplbllcbaaGreatDoor
open Go Go.Abs
section
variable {G : Env} {σ : AS} {R : Out → AS → Prop}
theorem encodeE_calls {m : M} {mv : AV} {bs : List UInt8} (hm : Al.MO σ mv m) (he : encM m = some bs) (hl : bs.length ≤ 2 ^ 36) (hn : m.funcs.length ≤ 2 ^ 30) (hsz : ∀ f ∈ m.funcs,SzB f) (hty : ∀ f ∈ m.funcs,typedF f = true) (hmem : -(2 ^ 63) ≤ m.memory ∧ m.memory < 2 ^ 63) (h : ∀ v σ',LitB σ σ' v bs → R (.ret v) σ') : ACalls Tryz.prog G 22 [mv] σ R := by
 obtain ⟨fsv,rfl,hfs⟩:=hm
 obtain ⟨codes,hc,hbs⟩:=encM_parts he
 have hse : SzE ⟨m.funcs,m.memory,m.main⟩ codes:=by
  have h2:=congrArg List.length hbs
  simp only [startL,endL,List.length_append,sectionL,sizedL,rowL,List.length_cons] at h2
  exact ⟨by show (headsL m.funcs).flatten.length ≤ _; omega,by show (numsF 3 m.funcs).flatten.length ≤ _; omega,by omega,by show (namesF 3 m.funcs).flatten.length ≤ _; omega⟩
 clear hbs
 refine calls22 rfl ?_
 have f1:=hfs.one
 have fl:=hfs.len
 have A0 : Adds σ (σ.newO [fsv,.int .i64 m.memory,.int .i64 m.main]):=(Adds.refl σ).newO
 have o0 : (σ.newO [fsv,.int .i64 m.memory,.int .i64 m.main]).objs σ.no = some [fsv,.int .i64 m.memory,.int .i64 m.main]:=by simp
 have n0 : σ.no < (σ.newO [fsv,.int .i64 m.memory,.int .i64 m.main]).no:=by simp
 have w3 : IntKind.wrap .i64 ((m.funcs.length : Int) + 3) = (m.funcs.length : Int) + 3:=by rw [wrap_i64] <;> omega
 have d1 : (headL [] 2).length ≤ 40:=by decide
 have d2 : (headL [2] 0).length ≤ 40:=by decide
 have d3 : (headL [1] 0).length ≤ 40:=by decide
 have ul:=uI_len ((m.funcs.length : Int) + 3)
 simp [pc22,f1,fl,w3]
 generalize σ.newO [fsv,.int .i64 m.memory,.int .i64 m.main] = σ0 at *
 refine ru_calls (by omega) fun v1 σ1 h1=>?_
 simp
 refine headE_calls (l:=[]) (.inl ⟨rfl,rfl⟩) (by simp) (by simp) (by simp) fun v2 σ2 h2=>?_
 simp
 refine lit_src (h1.keep h2.2) h2.byt (by omega) fun v3 σ3 h3 e3 m3=>?_
 have k3:=h3.byt.one
 simp [k3]
 refine headE_calls (l:=[2]) (.inr ⟨.stat true,rfl,trivial⟩) (by simp) (by simp) (by simp) fun v4 σ4 h4=>?_
 simp
 refine lit_src (h3.keep h4.2) h4.byt (by simp only [List.length_append]; omega) fun v5 σ5 h5 e5 m5=>?_
 have k5:=h5.byt.one
 simp [k5]
 refine headE_calls (l:=[1]) (.inr ⟨.stat true,rfl,trivial⟩) (by simp) (by simp) (by simp) fun v6 σ6 h6=>?_
 simp
 refine lit_src (h5.keep h6.2) h6.byt (by simp only [List.length_append]; omega) fun v7 σ7 h7 e7 m7=>?_
 have k7:=h7.byt.one
 simp [k7]
 refine ru_calls (by omega) fun v8 σ8 h8=>?_
 have k8:=h8.byt.one
 simp [k8]
 refine ru_calls (by omega) fun v9 σ9 h9=>?_
 have k9:=h9.byt.one
 simp [k9]
 refine ru_calls (by omega) fun v10 σ10 h10=>?_
 have k10:=h10.byt.one
 simp [k10]
 have hA7:=A0.trans h7.2
 have B8:=h8.2
 have B9:=h9.2
 have B10:=h10.2
 have hA10:=((hA7.trans B8).trans B9).trans B10
 have g0:=A0.nf
 have g7:=h7.2.nf
 have g8:=B8.nf
 have g9:=B9.nf
 have g10:=B10.nf
 have o10:=((h7.2.trans B8).trans (B9.trans B10)).obj σ.no n0
 have n10:=((h7.2.trans B8).trans (B9.trans B10)).no
 obtain ⟨T,hT⟩ : ∃ T : Nat → Nat,T = fun g=>if g < σ7.nf then 1 else if g < σ8.nf then 2 else if g < σ9.nf then 3 else if g < σ10.nf then 4 else 0:=⟨_,rfl⟩
 have l4 : LitT T 1 σ σ10 v7 _:=(h7.tagged (σ0:=σ) (T:=T) (i:=1) g0 fun g q1 q2=>by rw [hT]; simp [q2]).keep ((B8.trans B9).trans B10)
 have l5 : LitT T 2 σ σ10 v8 _:=(h8.tagged (σ0:=σ) (T:=T) (i:=2) (by omega) fun g q1 q2=>by rw [hT]; simp [q2,show ¬ g < σ7.nf by omega]).keep (B9.trans B10)
 have l6 : LitT T 3 σ σ10 v9 _:=(h9.tagged (σ0:=σ) (T:=T) (i:=3) (by omega) fun g q1 q2=>by rw [hT]; simp [q2,show ¬ g < σ7.nf by omega,show ¬ g < σ8.nf by omega]).keep B10
 have l7 : LitT T 4 σ σ10 v10 _:=h10.tagged (σ0:=σ) (T:=T) (i:=4) (by omega) fun g q1 q2=>by rw [hT]; simp [q2,show ¬ g < σ7.nf by omega,show ¬ g < σ8.nf by omega,show ¬ g < σ9.nf by omega]
 have hF : FreshT T σ10:=fun g q=>by rw [hT]; simp [show ¬ g < σ7.nf by omega,show ¬ g < σ8.nf by omega,show ¬ g < σ9.nf by omega,show ¬ g < σ10.nf by omega]
 clear hT
 refine aloop (EnQ σ m.funcs codes [fsv,.int .i64 m.memory,.int .i64 m.main]) (MU 8 (m.funcs.length + 1)) ⟨0,T,by omega,by simp,by simp,by simp,?_,by simpa using l5,by simpa using l6,by simpa using l7,hF,hA10,by omega,o10.trans o0⟩ fun a τ hI=>?_
 ·have e : ((headsL m.funcs).take (0 + 3)).flatten = headL [] 2 ++ (headL [2] 0 ++ headL [1] 0):=by simp [headsL]
  rw [e]
  simpa using l4
 refine funcE_body hfs hn hsz hty hc hse (fun a τ hq=>?_) hI
 obtain ⟨T,a1,t4,t5,t6,t7,hT,hA,hno,ho⟩:=hq
 simp [pc22_r2]
 have tg : ∀ {j w z},LitT T j σ τ w z → LitT (upd T τ.nf 5) j σ τ.newF w z:=fun hw=>(hw.tag fun g hg=>by
  have : ¬ g = τ.nf:=by omega
  simp [this]).keep (Adds.refl τ).newF
 refine aloop (ImQ σ 0 (rowL (headsL m.funcs)) (rowL (numsF 3 m.funcs)) (rowL codes) (rowL (namesF 3 m.funcs)) [fsv,.int .i64 m.memory,.int .i64 m.main]) (MU 13 4) ⟨0,upd T τ.nf 5,by omega,by simp [a1],by simp [wordsI],by simp,by simpa using tg t4,by simpa using tg t5,by simpa using tg t6,by simpa using tg t7,.inr (.inr ⟨τ.nf,by simp [B],hA.nf,by simp,by simp,by simp⟩),fun f hf=>?_,hA.newF,by simpa using hno,by simpa using ho⟩ fun a τ2 hI=>?_
 ·simp at hf
  have : ¬ f = τ.nf:=by omega
  simp [this]
  exact hT f (by omega)
 ·refine importE_body (fun a τ hq=>?_) hI
  obtain ⟨T,b1,t4,t5,t6,t7,t11,hT,hA,hno,ho⟩:=hq
  exact encE_end he hc hl hmem h b1 t4 t5 t6 t7 t11 hT hA hno ho
theorem MO.keepF {σ σ' : AS} {v m} (h : Al.MO σ v m) (hn : σ.nf ≤ σ'.nf) (hF : ∀ f,f < σ.nf → σ'.F f = σ.F f) : Al.MO σ' v m := by
 obtain ⟨fv,e,h⟩:=h
 refine ⟨fv,e,?_⟩
 rcases h with h | ⟨φ,rows,h1,h2,h3⟩
 ·exact .inl h
 ·exact .inr ⟨φ,rows,h1,Rd.keepF h2 hn hF,Al.all2_mono h3 fun _ _ q=>FVO.keepF q hn hF⟩
theorem KeepC.adds {x σ0 σ σ'} (K : KeepC x σ σ') (A : Adds σ0 σ) (hx : σ0.no ≤ x) : Adds σ0 σ' := ⟨Nat.le_trans A.no K.no,Nat.le_trans A.nf K.nf,fun o ho => by
 have:=A.no
 rw [K.obj o (by omega) (by omega),A.obj o ho],fun f hf=>by
 have:=A.nf
 rw [K.fam f (by omega),A.fam f hf]⟩
theorem decodeR_calls {v : AV} {b : List UInt8} (h00 : 0 < σ.nf ∧ σ.F 0 = .alive) (hv : BytO σ v b) (hl : b.length ≤ 2 ^ 14)
  (hn : decodeR b = none → ∀ σ',Adds σ σ' → R (.ret (.tuple [zeroMV,.bool false])) σ')
  (hs : ∀ m,decodeR b = some m → ∀ mv σ',Al.MO σ' mv m → Adds σ σ' → R (.ret (.tuple [mv,.bool true])) σ') : ACalls Tryz.prog G 9 [v] σ R:=by
 refine calls9 rfl ?_
 have v1:=hv.one
 obtain ⟨β,hbv,hβ⟩:=hv.bv
 have A1 : Adds σ ((σ.newO [.nilsl,.int .i64 0,.int .i64 0]).newO [v,.int .i64 0,.bool false,.nilsl,.int .i64 0]):=(Adds.refl σ).newO.newO
 have hR : RSt σ.nf β (σ.no + 1) b (some ⟨b,[],0⟩) ((σ.newO [.nilsl,.int .i64 0,.int .i64 0]).newO [v,.int .i64 0,.bool false,.nilsl,.int .i64 0]) :=
  ⟨0,false,.nilsl,0,[],⟨by simp,⟨h00.1,by simp⟩,by simpa using h00.2,by simpa using hβ,by omega,hl,by simp,v,by simp,hbv⟩,.inl ⟨rfl,rfl⟩,rfl,rfl,rfl,by simp,rfl⟩
 have o1 : ((σ.newO [.nilsl,.int .i64 0,.int .i64 0]).newO [v,.int .i64 0,.bool false,.nilsl,.int .i64 0]).objs σ.no = some [.nilsl,.int .i64 0,.int .i64 0]:=by simp
 have n1 : ((σ.newO [.nilsl,.int .i64 0,.int .i64 0]).newO [v,.int .i64 0,.bool false,.nilsl,.int .i64 0]).no = σ.no + 2:=by simp
 simp [pc9,v1,splice]
 generalize (σ.newO [.nilsl,.int .i64 0,.int .i64 0]).newO [v,.int .i64 0,.bool false,.nilsl,.int .i64 0] = σ1 at *
 refine read_S hR fun mv m so σ2 hg hm hR2 hK2=>?_
 have A2 : Adds σ σ2:=hK2.adds A1 (by omega)
 have o2:=(hK2.obj σ.no (by omega) (by omega)).trans o1
 have n2:=hK2.no
 have hq : moduleR ⟨b,[],0⟩ = so.map fun s=>(m,s):=hg
 have hdec : decodeR b = (so.map fun s=>(m,s)).bind fun p=>if p.2.b = [] ∧ encM p.1 = some b then some p.1 else none:=by unfold decodeR; rw [hq]
 obtain ⟨bv,at_,lsv,many,ls,ho,b1,l1,hto,q1,q2,hmm,hbv2,hle,hbl⟩:=hR2.opn
 have hm':=hm
 obtain ⟨fv,rfl,hfs⟩:=hm'
 have fv1:=hfs.one
 have hvl:=hv.len
 have hne1 : ¬ σ.no + 1 = σ2.no:=by omega
 have hne0 : ¬ σ.no = σ2.no:=by omega
 have A3 : Adds σ2 ((σ2.newO [.nilsl,.int .i64 0,.int .i64 0]).setO σ2.no [fv,.int .i64 m.memory,.int .i64 m.main]):=.mk1
 have o3 : ((σ2.newO [.nilsl,.int .i64 0,.int .i64 0]).setO σ2.no [fv,.int .i64 m.memory,.int .i64 m.main]).objs σ.no = some [.nilsl,.int .i64 0,.int .i64 0]:=by simp [hne0,o2]
 have x3 : ((σ2.newO [.nilsl,.int .i64 0,.int .i64 0]).setO σ2.no [fv,.int .i64 m.memory,.int .i64 m.main]).objs (σ.no + 1) = some [bv,.int .i64 (at_ : Int),.bool so.isNone,lsv,.int .i64 many]:=by simp [hne1,ho]
 have y3 : ((σ2.newO [.nilsl,.int .i64 0,.int .i64 0]).setO σ2.no [fv,.int .i64 m.memory,.int .i64 m.main]).objs σ2.no = some [fv,.int .i64 m.memory,.int .i64 m.main]:=by simp
 have n3 : ((σ2.newO [.nilsl,.int .i64 0,.int .i64 0]).setO σ2.no [fv,.int .i64 m.memory,.int .i64 m.main]).no = σ2.no + 1:=by simp
 cases so with
 | none =>
  simp [fv1,splice,hne1,hne0,ho,o2]
  exact hn (by rw [hdec]; rfl) _ ((A2.trans A3).setO (Nat.le_refl _))
 | some s =>
  have hsb:=(hmm s rfl).2.2
  by_cases hat : at_ < b.length
  ·have hat' : (at_ : Int) < (b.length : Int):=by omega
   simp [fv1,splice,hne1,hne0,ho,o2,hvl,hat']
   refine hn ?_ _ ((A2.trans A3).setO (Nat.le_refl _))
   rw [hdec]
   simp only [Option.map_some,Option.bind_some]
   rw [if_neg]
   rintro ⟨q,_⟩
   rw [hsb] at q
   have:=congrArg List.length q
   simp at this
   omega
  ·have hat' : ¬ (at_ : Int) < (b.length : Int):=by omega
   have hs0 : s.b = []:=by rw [hsb]; exact List.drop_eq_nil_of_le (by omega)
   have hgood:=good_of_R hq
   obtain ⟨z1,z2,z3,y,hy,hyl⟩:=moduleR_size hq (by omega)
   simp [fv1,splice,hne1,hne0,ho,o2,hvl,hat']
   generalize (σ2.newO [.nilsl,.int .i64 0,.int .i64 0]).setO σ2.no [fv,.int .i64 m.memory,.int .i64 m.main] = σ3 at *
   have hA3:=A2.trans A3
   refine encodeE_calls (Al.MO.keep hm A3) hy hyl z2 z1 (fun f hf=>(hgood.fs f hf).typed) z3 fun v4 σ4 h4=>?_
   have hA4:=hA3.trans h4.2
   have o4:=(h4.2.obj σ.no (by omega)).trans o3
   have y4:=(h4.2.obj σ2.no (by omega)).trans y3
   simp
   refine sameBytes_calls h4.byt (hv.keep hA4) (by omega) ?_
   by_cases e : y = b
   ·subst e
    simp [o4,y4,splice,fv1]
    refine hs m ?_ _ _ (MO.keepF (σ:=σ4) (Al.MO.keep hm (A3.trans h4.2)) (Nat.le_refl _) fun _ _=>rfl) (hA4.setO (Nat.le_refl _))
    rw [hdec]
    simp only [Option.map_some,Option.bind_some]
    rw [if_pos ⟨hs0,hy⟩]
   ·simp [e,o4,splice]
    refine hn ?_ _ (hA4.setO (Nat.le_refl _))
    rw [hdec]
    simp only [Option.map_some,Option.bind_some]
    rw [if_neg]
    rintro ⟨_,q⟩
    rw [hy] at q
    exact e (by cases q; rfl)
end
end Go.Proofs.YthejpoplbllcbaaGreatDoor
set_option linter.unusedSimpArgs false
set_option linter.unusedVariables false
namespace Go.Proofs.YthejpoplbllcbaaGreatDoor
open Go Go.Abs
def markB (i : Nat) : UInt8 := byteI (201 + 7 * i)
def marksB (n : Nat) : List UInt8 := (List.range n).map markB
theorem marksB_succ (n : Nat) : marksB (n + 1) = marksB n ++ [markB n] := by simp [marksB,List.range_succ]
def CbQ (v : AV) (bs : List UInt8) (σ : AS) (a : Nat → AV) (τ : AS) : Prop := ∃ i : Nat,i ≤ bs.length ∧ a 0 = v ∧ a 4 = .int .i64 (i : Int) ∧ NewB σ τ (a 3) (bs.take i)
def LnI (bs : List UInt8) (σ : AS) (a : Nat → AV) (τ : AS) : Prop := ∃ i : Nat,i ≤ 5 ∧ a 4 = .int .i64 (i : Int) ∧ LitB σ τ (a 3) (bs ++ marksB i)
def KpI (v w : AV) (σ : AS) (a : Nat → AV) (τ : AS) : Prop := ∃ i : Nat,i ≤ 5 ∧ a 0 = v ∧ a 1 = w ∧ a 6 = .int .i64 (i : Int) ∧ LitB σ τ (a 5) (marksB i)
section
variable {G : Env} {σ : AS} {R : Out → AS → Prop}
theorem copyB_calls {v : AV} {bs : List UInt8} (hv : BytO σ v bs) (hl : bs.length ≤ 2 ^ 40) (h : ∀ v' σ',NewB σ σ' v' bs → R (.ret v') σ') : ACalls Tryz.prog G 18 [v] σ R := by
 refine calls18 rfl ?_
 have v1:=hv.one
 simp [pc18,v1]
 refine aloop (CbQ v bs σ) (MU 4 (bs.length + 1)) ⟨0,by omega,by simp,by simp,⟨.inl ⟨rfl,by simp⟩,.refl _⟩⟩ fun a τ hI=>?_
 obtain ⟨i,hi,a0,a4,hL⟩:=hI
 have hvk:=hv.keep hL.2
 have vl:=hvk.len
 have l1:=hL.byt.one
 by_cases hlt : i < bs.length
 ·have hlt' : (i : Int) < (bs.length : Int):=by omega
  obtain ⟨φ,hrd,hix⟩:=hvk.at hlt
  have hrd:=hrd.read
  have w1 : IntKind.wrap .i64 ((i : Int) + 1) = ((i + 1 : Nat) : Int):=by rw [wrap_i64] <;> omega
  simp [pc18_l1,a0,a4,vl,hlt',hix,hrd,l1]
  refine grow_bytes (y:=[bs[i]]) hL rfl (by simp; omega) fun v' τ' h'=>?_
  have q1:=h'.byt.one
  simp [a0,a4,q1,w1]
  refine ⟨⟨i + 1,by omega,by simp [a0],by simp,?_⟩,?_⟩
  ·rw [List.take_add_one,List.getElem?_eq_getElem hlt]
   simpa using h'
  ·simp only [MU,a4]; simp; omega
 ·have e : i = bs.length:=by omega
  subst e
  simp [pc18_l1,a0,a4,vl,pc18_r1,l1]
  rw [List.take_length] at hL
  exact h _ _ hL
theorem markB_calls {i : Nat} (hi : i ≤ 2 ^ 50) (h : R (.ret (.int .u8 ((markB i).toNat : Int))) σ) : ACalls Tryz.prog G 26 [.int .i64 (i : Int)] σ R := by
 refine calls26 rfl ?_
 have w1 : IntKind.wrap .i64 (7 * (i : Int)) = 7 * (i : Int):=by rw [wrap_i64] <;> omega
 have w2 : IntKind.wrap .i64 (201 + 7 * (i : Int)) = 201 + 7 * (i : Int):=by rw [wrap_i64] <;> omega
 simp [pc26,w1,w2,wrap_u8]
 exact h
theorem lentB_calls {v : AV} {bs : List UInt8} (hv : BytO σ v bs) (hl : bs.length ≤ 2 ^ 38) (h : ∀ v' σ',LitB σ σ' v' (bs ++ marksB 5) → R (.ret v') σ') : ACalls Tryz.prog G 7 [v] σ R := by
 refine calls7 rfl ?_
 have v1:=hv.one
 simp [pc7,v1]
 refine copyB_calls hv (by omega) fun u σ1 hu0=>?_
 have hu : LitB σ σ1 u bs:=⟨.inr hu0.1,hu0.2⟩
 have u1:=hu.byt.one
 simp [u1]
 refine aloop (LnI bs σ) (MU 4 6) ⟨0,by omega,by simp,by simpa [marksB] using hu⟩ fun a τ hI=>?_
 obtain ⟨i,hi,a4,hL⟩:=hI
 have l1:=hL.byt.one
 by_cases hlt : i < 5
 ·have hlt' : (i : Int) < 5:=by omega
  have w1 : IntKind.wrap .i64 ((i : Int) + 1) = ((i + 1 : Nat) : Int):=by rw [wrap_i64] <;> omega
  have hml : (marksB i).length ≤ 5:=by simp [marksB]; omega
  simp [pc7_l1,a4,hlt',l1]
  refine markB_calls (by omega) ?_
  simp [l1]
  refine lit_grow (y:=[markB i]) hL rfl (by simp only [List.length_append,List.length_cons,List.length_nil]; omega) fun v' τ' h' e1 e2=>?_
  have q1:=h'.byt.one
  simp [a4,q1,w1]
  refine ⟨⟨i + 1,by omega,by simp,?_⟩,?_⟩
  ·rw [marksB_succ]
   simpa using h'
  ·simp only [MU,a4]; simp; omega
 ·have e : i = 5:=by omega
  subst e
  simp [pc7_l1,a4,pc7_r1,l1]
  exact h _ _ hL
theorem keptB_calls {v w : AV} {bs : List UInt8} (hv : BytO σ v (bs ++ marksB 5)) (hw : BytO σ w bs) (hl : bs.length ≤ 2 ^ 38) (h : ∀ σ',Adds σ σ' → R (.ret (.bool true)) σ') : ACalls Tryz.prog G 12 [v,w] σ R := by
 refine calls12 rfl ?_
 have v1:=hv.one
 have w1:=hw.one
 have vl:=hv.len
 have wl:=hw.len
 have hm5 : (marksB 5).length = 5:=by decide
 have hvl : (bs ++ marksB 5).length = bs.length + 5:=by rw [List.length_append,hm5]
 have k1 : IntKind.wrap .i64 ((bs.length : Int) + 5) = (bs.length : Int) + 5:=by rw [wrap_i64] <;> omega
 obtain ⟨φ,rfl,hrd⟩ : ∃ φ,v = .sl φ 1 (B (bs ++ marksB 5)) ∧ Al.Rd σ φ:=by
  rcases hv with ⟨q,_⟩ | q
  ·have:=congrArg List.length q
   rw [hvl] at this
   simp at this
  ·exact q
 have e1 : List.take bs.length (B (bs ++ marksB 5)) = B bs:=by rw [B_take]; simp
 have e2 : List.drop bs.length (B (bs ++ marksB 5)) = B (marksB 5):=by rw [B_drop]; simp
 have hcut : ∀ {τ : AS} (f : Bool),Al.Rd τ φ → Al.Rd τ (cut φ f):=fun f q=>by cases φ <;> exact q
 have lx : (B (bs ++ marksB 5)).length = bs.length + 5:=by rw [B_len,hvl]
 generalize B (bs ++ marksB 5) = xs at *
 simp [pc12,vl,wl,hvl,k1,lx]
 rw [e1]
 refine ⟨by omega,?_⟩
 refine sameBytes_calls (x:=bs) (.inr ⟨_,rfl,hcut _ hrd⟩) hw (by omega) ?_
 simp
 refine aloop (KpI (.sl φ 1 xs) w σ) (MU 6 6) ⟨0,by omega,by simp,by simp,by simp,⟨.inr (.inl ⟨rfl,by simp⟩),.refl _⟩⟩ fun a τ hI=>?_
 obtain ⟨i,hi,a0,a1,a6,hL⟩:=hI
 have l1:=hL.byt.one
 by_cases hlt : i < 5
 ·have hlt' : (i : Int) < 5:=by omega
  have w1 : IntKind.wrap .i64 ((i : Int) + 1) = ((i + 1 : Nat) : Int):=by rw [wrap_i64] <;> omega
  have hml : (marksB i).length ≤ 5:=by simp [marksB]; omega
  simp [pc12_l1,a6,hlt',l1]
  refine markB_calls (by omega) ?_
  simp [l1]
  refine lit_grow (y:=[markB i]) hL rfl (by simp only [List.length_cons,List.length_nil]; omega) fun v' τ' h' e1 e2=>?_
  have q1:=h'.byt.one
  simp [a6,q1,w1]
  refine ⟨⟨i + 1,by omega,by simp [a0],by simp [a1],by simp,?_⟩,?_⟩
  ·rw [marksB_succ]
   simpa using h'
  ·simp only [MU,a6]; simp; omega
 ·have e : i = 5:=by omega
  subst e
  have e3 : List.drop bs.length (List.take (bs.length + 5) xs) = B (marksB 5):=by rw [List.take_of_length_le (by omega),e2]
  have tn : ((bs.length : Int) + 5).toNat = bs.length + 5:=by omega
  have wl2:=(hw.keep hL.2).len
  simp [pc12_l1,a0,a1,a6,pc12_r1,l1,wl2,lx,tn,e3,e2]
  refine ⟨by omega,?_⟩
  refine sameBytes_calls (x:=marksB 5) (.inr ⟨_,rfl,hcut _ (hrd.keep hL.2)⟩) hL.byt (by rw [hm5]; decide) ?_
  simp
  exact h _ hL.2
end
end Go.Proofs.YthejpoplbllcbaaGreatDoor
set_option linter.unusedSimpArgs false
set_option linter.unusedVariables false
namespace Go.Proofs.YthejpoplbllcbaaGreatDoor
open Go Go.Abs
theorem functionsP_rows {st : Bool} : ∀ {hs fs : List F} {s s' : Rs},functionsP st hs s = some (fs,s') → (∀ f ∈ hs,f.locals = []) → ∀ f ∈ fs,∀ ws ∈ f.lists,ws.length ≤ s.b.length := fun h hl f hf => ((functionsP_size h hl).2 f hf).2.1
theorem moduleR_rows {b : List UInt8} {m : M} {s' : Rs} (h : moduleR ⟨b,[],0⟩ = some (m,s')) : ∀ f ∈ m.funcs,∀ ws ∈ f.lists,ws.length ≤ b.length := by
 unfold moduleR at h
 simp only [Option.bind_eq_some_iff,Option.map_eq_some_iff] at h
 obtain ⟨⟨⟨hs,mem,mn⟩,s1⟩,h3,⟨fs,s2⟩,h4,h5⟩:=h
 simp only [Prod.mk.injEq] at h5
 obtain ⟨rfl,rfl⟩:=h5
 have a1:=(frontR_some h3).1
 have a5:=frontR_size h3
 unfold backR at h4
 simp only [Option.bind_eq_some_iff] at h4
 obtain ⟨⟨c4,s4⟩,h6,⟨c,s5⟩,h7,⟨fs1,s6⟩,h9,⟨c7,s7⟩,h10,s8,h11,⟨xx,s9⟩,h12,⟨y,s10⟩,h13,h14⟩:=h4
 have l1:=secR_len h6
 have l2:=num_len h7
 have hnn:=namesP_some h14
 intro f hf ws hw
 obtain ⟨g,hg,e⟩:=noname_mem hnn hf
 have e3 : g.lists = f.lists:=by have:=congrArg F.lists e; exact this
 have:=functionsP_rows h9 (fun f hf=>(a1 f hf).1) g hg ws (by rw [e3]; exact hw)
 simp only at *
 omega
theorem decodeR_facts {b : List UInt8} {m : M} (h : decodeR b = some m) (hb : b.length ≤ 2 ^ 29) : m.funcs.length ≤ 2 ^ 30 ∧ ∀ f ∈ m.funcs,SzB f ∧ ∀ ws ∈ f.lists,ws.length ≤ 2 ^ 29 := by
 unfold decodeR at h
 simp only [Option.bind_eq_some_iff] at h
 obtain ⟨⟨m',s'⟩,h3,h4⟩:=h
 split at h4
 ·cases h4
  obtain ⟨z1,z2,_⟩:=moduleR_size h3 hb
  have z3:=moduleR_rows h3
  exact ⟨z2,fun f hf=>⟨z1 f hf,fun ws hw=>by have:=z3 f hf ws hw; omega⟩⟩
 ·cases h4
@[simp] theorem abin_neq_bool4 (x y : Bool) (K : AV → Prop) : abin Tryz.prog .neq 4 (.bool x) (.bool y) K = K (.bool (x != y)) := by
 have u4 : Tryz.prog.underlying 4 = some .bool:=by kernel_rfl
 simp [abin,aeq,aeq1,u4]
 exact Iff.rfl
section
variable {G : Env} {σ : AS} {R : Out → AS → Prop}
theorem bare0 : 0 < AS.bare.nf ∧ AS.bare.F 0 = .alive := ⟨by decide,rfl⟩
theorem known_any (V : VarsB G) (hG : ∀ k,Still (G.g k)) (hy : ∀ l,¬ G.has l) (h : R (.ret (.bool true)) σ) : ACalls Tryz.prog G 6 [] σ R :=
 ACalls.closed hG hy (known_calls V bare0 fun _ _=>rfl) h
theorem spo_rd {S : Nat → Prop} {σ σ' : AS} (hs : Al.Spo S σ σ') {v : AV} {bs : List UInt8} (h : BytO σ v bs) (hS : ∀ φ,v = .sl φ 1 (B bs) → ∀ g f,φ = .fam g f → ¬ S g) : BytO σ' v bs := by
 rcases h with h | ⟨φ,rfl,hr⟩
 ·exact .inl h
 ·refine .inr ⟨φ,rfl,?_⟩
  cases φ with
  | stat b=>exact trivial
  | fam g f =>
   obtain ⟨h1,h2⟩:=hr
   exact ⟨Nat.lt_of_lt_of_le h1 hs.nf,(hs.fam g h1 (hS _ rfl g f rfl)).trans h2⟩
def BytS (v : AV) (bs : List UInt8) : Prop := (bs = [] ∧ v = .nilsl) ∨ ∃ b,v = .sl (.stat b) 1 (B bs)
theorem BytS.byt {σ : AS} {v bs} (h : BytS v bs) : BytO σ v bs := by
 rcases h with h | ⟨b,h⟩
 ·exact .inl h
 ·exact .inr ⟨_,h,trivial⟩
theorem reads_calls (V : VarsB G) (hG : ∀ k,Still (G.g k)) (hy : ∀ l,¬ G.has l) (h00 : 0 < σ.nf ∧ σ.F 0 = .alive) {v : AV} {bs : List UInt8} (hv : BytS v bs) (h : ∀ σ',R (.ret (.bool true)) σ') : ACalls Tryz.prog G 3 [v] σ R := by
 refine calls3 rfl ?_
 have hv0 : BytO σ v bs:=hv.byt
 have v1:=hv0.one
 have vl:=hv0.len
 by_cases hbig : 2 ^ 14 < bs.length
 ·have hbig' : (16384 : Int) < (bs.length : Int):=by omega
  simp [pc3,v1,vl,hbig']
  refine known_any V hG hy ?_
  simp
  exact h _
 ·have hbig' : ¬ (16384 : Int) < (bs.length : Int):=by omega
  have hbl : bs.length ≤ 2 ^ 14:=by omega
  simp [pc3,v1,vl,hbig']
  refine lentB_calls hv0 (by omega) fun u σ1 hu=>?_
  have u1:=hu.byt.one
  have vl1:=(hv.byt (σ:=σ1)).len
  have ub:=hu.byt
  have h01 : 0 < σ1.nf ∧ σ1.F 0 = .alive:=⟨by have:=hu.2.nf; omega,(hu.2.fam 0 h00.1).trans h00.2⟩
  have ugf : ∀ φ,u = .sl φ 1 (B (bs ++ marksB 5)) → ∀ g f,φ = .fam g f → 0 < g ∧ g < σ1.nf:=fun φ e g f e2=>by
   have h0:=hu.1
   subst e2
   rcases h0 with q | ⟨q1,q2⟩ | ⟨g',q1,q2,q3,q4⟩
   ·rw [e] at q; cases q
   ·rw [e] at q2; cases q2
   ·rw [e] at q1
    cases q1
    exact ⟨by omega,q3⟩
  have lu : (B (bs ++ marksB 5)).length = bs.length + 5:=by simp [marksB]
  obtain ⟨φ,hue,hur⟩ : ∃ φ,u = .sl φ 1 (B (bs ++ marksB 5)) ∧ Al.Rd σ1 φ:=by
   rcases ub with ⟨q,_⟩ | q
   ·have:=congrArg List.length q
    simp [marksB] at this
   ·exact q
  have e1 : List.take bs.length (B (bs ++ marksB 5)) = B bs:=by rw [B_take]; simp
  have hcut : ∀ f,BytO σ1 (.sl (cut φ f) 1 (B bs)) bs:=fun f=>.inr ⟨_,rfl,by cases φ <;> exact hur⟩
  have hup : ∀ g f,φ = .fam g f → 0 < g ∧ g < σ1.nf:=ugf φ hue
  subst hue
  have zk : ∀ σ' : AS,Al.MO σ' zeroMV ⟨[],0,0⟩:=fun σ'=>⟨.nilsl,rfl,.inl ⟨rfl,rfl⟩⟩
  -- the end
  have last : ∀ (τ : AS) (base : Nat),base = σ1.nf → Adds σ1 τ → ∀ σ',Al.Spo (Al.Sp base) τ σ' → BytO σ' (.sl φ 1 (B (bs ++ marksB 5))) (bs ++ marksB 5):=fun τ base hb A σ' S=>by
   refine spo_rd S (ub.keep A) fun φ' e g f e2 q=>?_
   cases e
   obtain ⟨q1,q2⟩:=hup g f e2
   rcases q with q | q <;> omega
  have dq:=decode_eq (b:=bs) (by omega)
  simp [vl1,lu,e1]
  refine ⟨by omega,decode_calls V h01 (hcut _) (by omega) (fun hq e σ2 he A2=>?_) (fun m hq mv σ2 hme A2=>?_)⟩
  ·have hz2 : Adds σ1 ((σ2.newO [.nilsl,.int .i64 0,.int .i64 0]).setO σ2.no [.nilsl,.int .i64 0,.int .i64 0]):=(A2.newO).setO A2.no
   have o2 : ((σ2.newO [.nilsl,.int .i64 0,.int .i64 0]).setO σ2.no [.nilsl,.int .i64 0,.int .i64 0]).objs σ2.no = some [.nilsl,.int .i64 0,.int .i64 0]:=by simp
   have n2 : σ2.no < ((σ2.newO [.nilsl,.int .i64 0,.int .i64 0]).setO σ2.no [.nilsl,.int .i64 0,.int .i64 0]).no:=by simp
   simp [zeroMV,splice]
   generalize (σ2.newO [.nilsl,.int .i64 0,.int .i64 0]).setO σ2.no [.nilsl,.int .i64 0,.int .i64 0] = σ3 at *
   refine decodeR_calls ⟨by have:=hz2.nf; omega,(hz2.fam 0 h01.1).trans h01.2⟩ hv.byt hbl (fun _ σ4 A4=>?_) (fun m q=>by rw [← dq,hq] at q; cases q)
   have A5 : Adds σ4 ((σ4.newO [.nilsl,.int .i64 0,.int .i64 0]).setO σ4.no [.nilsl,.int .i64 0,.int .i64 0]):=.mk1
   have o4:=(A4.obj σ2.no n2).trans o2
   have n4:=A4.no
   have o5 : ((σ4.newO [.nilsl,.int .i64 0,.int .i64 0]).setO σ4.no [.nilsl,.int .i64 0,.int .i64 0]).objs σ2.no = some [.nilsl,.int .i64 0,.int .i64 0]:=(A5.obj σ2.no (by omega)).trans o4
   have p5 : ((σ4.newO [.nilsl,.int .i64 0,.int .i64 0]).setO σ4.no [.nilsl,.int .i64 0,.int .i64 0]).objs σ4.no = some [.nilsl,.int .i64 0,.int .i64 0]:=by simp
   have n5 : ((σ4.newO [.nilsl,.int .i64 0,.int .i64 0]).setO σ4.no [.nilsl,.int .i64 0,.int .i64 0]).no = σ4.no + 1:=by simp
   have hA5:=(hz2.trans A4).trans A5
   have ne24 : ¬ σ2.no = σ4.no:=by omega
   have hz : ∀ f ∈ (⟨[],0,0⟩ : M).funcs,Al.SzE f:=by simp
   rcases he with rfl | rfl | rfl <;>
   ·simp [zeroMV,splice,ne24,o4]
    generalize (σ4.newO [.nilsl,.int .i64 0,.int .i64 0]).setO σ4.no [.nilsl,.int .i64 0,.int .i64 0] = σ5 at *
    refine Al.eqM_calls (zk _) (zk _) (by simp) hz fun σ6 A6=>?_
    have o6:=(A6.obj σ2.no (by omega)).trans o5
    have hA6:=hA5.trans A6
    simp [o6]
    refine Al.spoilM_calls (base:=σ1.nf) (m:=⟨[],0,0⟩) ⟨.nilsl,rfl,.inl ⟨rfl,rfl⟩⟩ h01.1 (by simp) (by simp) (by simp) (by simp) (by simp) ⟨by have:=hA6.nf; omega,by rw [hA6.fam 0 h01.1,h01.2]; simp⟩ fun σ7 S7=>?_
    have b7:=last σ6 _ rfl hA6 σ7 S7
    rw [B_app] at b7
    simp
    refine keptB_calls b7 hv.byt (by omega) fun σ8 A8=>?_
    simp
    refine known_any V hG hy ?_
    simp
    exact h _
  ·have dr : decodeR bs = some m:=by rw [← dq]; exact hq
   obtain ⟨f1,f2⟩:=decodeR_facts dr (by omega)
   have hse : ∀ f ∈ m.funcs,Al.SzE f:=fun f hf=>by
    obtain ⟨q1,q2⟩:=f2 f hf
    exact ⟨by have:=q1.params; omega,by have:=q1.locals; omega,q1.many,fun r hr=>by have:=q2 r hr; omega⟩
   have hme':=hme
   obtain ⟨fv,rfl,hof⟩:=hme'
   have fv1 : fv.known = true ∧ fv.one = true ∧ fv.cells = [fv]:=by
    rcases hof with ⟨_,rfl⟩ | ⟨_,_,_,rfl,_⟩ <;> simp
   have hz2 : Adds σ1 ((σ2.newO [.nilsl,.int .i64 0,.int .i64 0]).setO σ2.no [fv,.int .i64 m.memory,.int .i64 m.main]):=(A2.newO).setO A2.no
   have hy2 : Adds σ2 ((σ2.newO [.nilsl,.int .i64 0,.int .i64 0]).setO σ2.no [fv,.int .i64 m.memory,.int .i64 m.main]):=.mk1
   have o2 : ((σ2.newO [.nilsl,.int .i64 0,.int .i64 0]).setO σ2.no [fv,.int .i64 m.memory,.int .i64 m.main]).objs σ2.no = some [fv,.int .i64 m.memory,.int .i64 m.main]:=by simp
   have n2 : σ2.no < ((σ2.newO [.nilsl,.int .i64 0,.int .i64 0]).setO σ2.no [fv,.int .i64 m.memory,.int .i64 m.main]).no:=by simp
   simp [splice,fv1]
   generalize (σ2.newO [.nilsl,.int .i64 0,.int .i64 0]).setO σ2.no [fv,.int .i64 m.memory,.int .i64 m.main] = σ3 at *
   refine decodeR_calls ⟨by have:=hz2.nf; omega,(hz2.fam 0 h01.1).trans h01.2⟩ hv.byt hbl (fun q=>by rw [dr] at q; cases q) (fun m' q wv σ4 hwo A4=>?_)
   rw [dr] at q
   cases q
   have hwo':=hwo
   obtain ⟨wf,rfl,hwf⟩:=hwo'
   have wf1:=hwf.one
   have A5 : Adds σ4 ((σ4.newO [.nilsl,.int .i64 0,.int .i64 0]).setO σ4.no [wf,.int .i64 m.memory,.int .i64 m.main]):=.mk1
   have o4:=(A4.obj σ2.no n2).trans o2
   have n4:=A4.no
   have o5 : ((σ4.newO [.nilsl,.int .i64 0,.int .i64 0]).setO σ4.no [wf,.int .i64 m.memory,.int .i64 m.main]).objs σ2.no = some [fv,.int .i64 m.memory,.int .i64 m.main]:=(A5.obj σ2.no (by omega)).trans o4
   have n5 : ((σ4.newO [.nilsl,.int .i64 0,.int .i64 0]).setO σ4.no [wf,.int .i64 m.memory,.int .i64 m.main]).no = σ4.no + 1:=by simp
   have hA5:=(hz2.trans A4).trans A5
   have hB5:=(hy2.trans A4).trans A5
   have ne24 : ¬ σ2.no = σ4.no:=by omega
   simp [splice,ne24,o4,fv1,wf1]
   generalize (σ4.newO [.nilsl,.int .i64 0,.int .i64 0]).setO σ4.no [wf,.int .i64 m.memory,.int .i64 m.main] = σ5 at *
   have h05 : 0 < σ5.nf ∧ σ5.F 0 = .alive:=⟨by have:=hA5.nf; omega,(hA5.fam 0 h01.1).trans h01.2⟩
   have hme5 : Al.ME σ5 σ1.nf (.agg [fv,.int .i64 m.memory,.int .i64 m.main]) m:=mE_of hme hB5.nf fun f hf=>hB5.fam f hf
   refine Al.eqM_calls (Al.m_e h05 hme5) (hwo.keep A5) (by omega) hse fun σ6 A6=>?_
   have o6:=(A6.obj σ2.no (by omega)).trans o5
   have hA6:=hA5.trans A6
   have hme6:=mE_of hme5 A6.nf fun f hf=>A6.fam f hf
   simp [o6,fv1]
   refine Al.spoilM_calls hme6 h01.1 f1 (fun f hf=>(hse f hf).params) (fun f hf=>(hse f hf).locals) (fun f hf=>(hse f hf).lists) (fun f hf r hr=>by have:=(hse f hf).rows r hr; omega) ⟨by have:=hA6.nf; omega,by rw [hA6.fam 0 h01.1,h01.2]; simp⟩ fun σ7 S7=>?_
   have b7:=last σ6 _ rfl hA6 σ7 S7
   rw [B_app] at b7
   simp
   refine keptB_calls b7 hv.byt (by omega) fun σ8 A8=>?_
   simp
   refine known_any V hG hy ?_
   simp
   exact h _
end
end Go.Proofs.YthejpoplbllcbaaGreatDoor
set_option linter.unusedSimpArgs false
set_option linter.unusedVariables false
namespace Go.Proofs.YthejpoplbllcbaaGreatDoor
open Go Go.Abs
def fiveL : List Int := [63,64,-1,-64,-65]
def wantL : List UInt8 := sevenB.set 9 16
def FoI (σ : AS) (a : Nat → AV) (τ : AS) : Prop := ∃ i : Nat,i ≤ 5 ∧ a 2 = .sl (.stat true) 1 (fiveL.map (.int .i64)) ∧ a 3 = .int .i64 (i : Int) ∧ NewB σ τ (a 1) (sI 0 ++ ((fiveL.take i).map sI).flatten)
def KoI (wo : Nat) (bv : AV) (σ : AS) (a : Nat → AV) (τ : AS) : Prop := ∃ i : Nat,i ≤ 108 ∧ a 4 = .slm wo 0 1 108 ∧ a 5 = bv ∧ a 6 = .int .i64 (i : Int) ∧ Adds σ τ
def KkI (wo : Nat) (bv : AV) (i : Nat) (σ : AS) (a : Nat → AV) (τ : AS) : Prop := ∃ k : Nat,k ≤ 8 ∧ a 4 = .slm wo 0 1 108 ∧ a 5 = bv ∧ a 6 = .int .i64 (i : Int) ∧ a 7 = .int .i64 (k : Int) ∧ Adds σ τ
theorem BytO.x {σ : AS} {v bs} (h : BytO σ v bs) : BytX σ v bs := by
 rcases h with h | ⟨φ,h1,h2⟩
 ·exact .inl h
 ·exact .inr (.inl ⟨φ,h1,h2.read⟩)
theorem bytU_s {u bs} (h : BytU u bs) : BytS u bs := by
 rcases h with h | h
 ·exact .inl h
 ·exact .inr ⟨_,h⟩
theorem fiveL_forms : sI 0 ++ ((fiveL.take 5).map sI).flatten = [0,63,192,0,127,64,191,127] := by decide
@[simp] theorem blitF1 : blitSl 22 [(0,Operand.const (.int .u8 0)),(1,Operand.const (.int .u8 63)),(2,Operand.const (.int .u8 192)),(3,Operand.const (.int .u8 0)),(4,Operand.const (.int .u8 127)),(5,Operand.const (.int .u8 64)),(6,Operand.const (.int .u8 191)),(7,Operand.const (.int .u8 127))] = false := by decide
@[simp] theorem blitF2 : blitSl 22 [(0,Operand.const (.int .u8 127)),(1,Operand.const (.int .u8 128)),(2,Operand.const (.int .u8 1))] = false := by decide
theorem bits2_byte (f : BitVec IntKind.u8.bits → BitVec IntKind.u8.bits → BitVec IntKind.u8.bits) (a b : Int) : ∃ d : UInt8,bits2 .u8 f a b = (d.toNat : Int) := ⟨_,wrap_u8 _⟩
def wantP : List (Nat × Operand) := (List.range 108).map fun i => (i,Operand.const (.int .u8 ((wantL.getD i 0).toNat : Int)))
theorem fill_want {a : Operand → AV} {K : List AV → Prop} (ha : ∀ n : Int,a (.const (.int .u8 n)) = .int .u8 n) (h : K (B wantL)) : fillA 108 1 a wantP (List.replicate 108 (.int .u8 0)) K := by
 have key : ∀ (n : Nat) (xs : List AV),n ≤ 108 → xs.length = 108 → xs.take (108 - n) = (B wantL).take (108 - n) → fillA 108 1 a ((List.range' (108 - n) n).map fun i=>(i,Operand.const (.int .u8 ((wantL.getD i 0).toNat : Int)))) xs K:=by
  intro n
  induction n with
  | zero =>
   intro xs _ hl ht
   have e : xs = B wantL:=by
    rw [List.take_of_length_le (by omega),List.take_of_length_le (by rw [B_len]; decide)] at ht
    exact ht
   subst e
   exact h
  | succ n ih =>
   intro xs hn hl ht
   rw [List.range'_succ,List.map_cons]
   simp only [fillA_cons,ha]
   refine ⟨by omega,rfl,rfl,?_⟩
   have e1 : 108 - (n + 1) + 1 = 108 - n:=by omega
   rw [e1]
   refine ih _ (by omega) (by simp [hl]) ?_
   rw [← e1,List.take_add_one,List.take_add_one (l:=B wantL),List.getElem?_set_self (by omega)]
   have e2 : (B wantL)[108 - (n + 1)]? = some (.int .u8 ((wantL.getD (108 - (n + 1)) 0).toNat : Int)):=by
    have hwl : wantL.length = 108:=by decide
    have hlt : 108 - (n + 1) < wantL.length:=by omega
    rw [List.getElem?_eq_getElem (by rw [B_len]; exact hlt),List.getD_eq_getElem?_getD,List.getElem?_eq_getElem hlt]
    simp [B]
   rw [e2,List.take_set_of_le (by omega),ht]
 have:=key 108 (List.replicate 108 (.int .u8 0)) (by omega) (by simp) (by simp)
 rw [show wantP = (List.range' (108 - 108) 108).map fun i=>(i,Operand.const (.int .u8 ((wantL.getD i 0).toNat : Int))) from by simp [wantP,List.range_eq_range']]
 exact this
theorem own_want {σ : AS} {a : Operand → AV} {ps : List (Nat × Operand)} (hp : ps = wantP) (ha : ∀ n : Int,a (.const (.int .u8 n)) = .int .u8 n) {K : AV → AS → Prop} (h : K (.slm σ.no 0 1 108) ((σ.newF).ownV σ.nf (B wantL))) : abuildOwn Tryz.prog 22 108 a ps σ K := by
 subst hp
 unfold abuildOwn
 rw [abuildFam_eq]
 simp
 refine fill_want ha ?_
 have e : (B wantL).length = 108:=by rw [B_len]; decide
 refine ⟨1,B wantL,by simp,?_⟩
 rw [flat_B,e]
 exact ⟨by simp,h⟩
section
variable {G : Env} {σ : AS} {R : Out → AS → Prop}
theorem reads_any (V : VarsB G) (hG : ∀ k,Still (G.g k)) (hy : ∀ l,¬ G.has l) {v : AV} {bs : List UInt8} (hv : BytX σ v bs) (h : R (.ret (.bool true)) σ) : ACalls Tryz.prog G 3 [v] σ R :=
 ACalls.closed1 hG hy hv (fun u hu=>reads_calls V hG hy bare0 (bytU_s hu) fun _=>rfl) h
theorem examples_calls (V : VarsB G) (hG : ∀ k,Still (G.g k)) (hy : ∀ l,¬ G.has l) (h00 : 0 < σ.nf) (h : ∀ σ',R (.ret (.bool true)) σ') : ACalls Tryz.prog G 4 [] σ R := by
 refine calls4 rfl ?_
 simp [pc4]
 refine s_calls (by decide) fun v1 σ1 h1=>?_
 have k1:=h1.byt.one
 simp [k1]
 refine aloop (FoI σ) (MU 3 6) ⟨0,by omega,by simp [fiveL],by simp,by simpa using h1⟩ fun a τ hI=>?_
 obtain ⟨i,hi,a2,a3,hN⟩:=hI
 have n1:=hN.byt.one
 have hfl : fiveL.length = 5:=rfl
 by_cases hlt : i < 5
 ·have hlt' : (i : Int) < 5:=by omega
  obtain ⟨x,hx,hxr,hxe⟩ : ∃ x,fiveL[i]? = some x ∧ (-(2 ^ 63) ≤ x ∧ x < 2 ^ 63) ∧ ((fiveL.take (i + 1)).map sI).flatten = ((fiveL.take i).map sI).flatten ++ sI x:=by
   have hx:=List.getElem?_eq_getElem (show i < fiveL.length from hlt)
   refine ⟨_,hx,?_,?_⟩
   ·have : ∀ y ∈ fiveL,-(2 ^ 63) ≤ y ∧ y < 2 ^ 63:=by decide
    exact this _ (List.getElem_mem _)
   ·rw [List.take_add_one,hx]
    simp only [Option.toList_some,List.map_append,List.map_cons,List.map_nil,List.flatten_append,List.flatten_cons,List.flatten_nil,List.append_nil]
  have w1 : IntKind.wrap .i64 ((i : Int) + 1) = ((i + 1 : Nat) : Int):=by rw [wrap_i64] <;> omega
  have hx2 : (fiveL.map (AV.int .i64))[i]? = some (.int .i64 x):=by simp [hx]
  have hlen : (sI 0 ++ ((fiveL.take i).map sI).flatten).length ≤ 60:=by
   have : ∀ j : Fin 6,(sI 0 ++ ((fiveL.take j).map sI).flatten).length ≤ 60:=by decide
   exact this ⟨i,by omega⟩
  have hsl:=sI_len x
  simp [pc4_l1,a2,a3,hfl,hlt',n1,hx2]
  refine s_calls hxr fun v2 σ2 h2=>?_
  simp
  refine grow_src (hN.keep h2.2) h2.byt (by omega) fun v3 σ3 h3=>?_
  have n3:=h3.byt.one
  simp [n3,a3,w1]
  refine ⟨⟨i + 1,by omega,by simp [a2],by simp,?_⟩,?_⟩
  ·rw [hxe]
   simpa using h3
  ·simp only [MU,a3]; simp; omega
 ·have e : i = 5:=by omega
  subst e
  rw [fiveL_forms] at hN
  simp [pc4_l1,a2,a3,hfl,pc4_r3,n1]
  refine sameBytes_calls hN.byt (BytO.lit τ [0,63,192,0,127,64,191,127] rfl) (by decide) ?_
  simp
  refine u_calls (by decide) fun v4 σ4 h4=>?_
  simp
  refine u_calls (by decide) fun v5 σ5 h5=>?_
  simp
  refine grow_src (h4.keep h5.2) h5.byt (by decide) fun v6 σ6 h6=>?_
  have h6' : NewB τ σ6 v6 [127,128,1]:=h6
  simp
  refine sameBytes_calls h6'.byt (BytO.lit σ6 [127,128,1] rfl) (by decide) ?_
  simp
  rw [aop1_buildOwn _ _ _ (by rfl)]
  refine own_want (by rfl) (fun n=>rfl) ?_
  have hwl : wantL.length = 108:=by decide
  have hsl : sevenB.length = 108:=by decide
  have e9 : splice (B wantL) 9 [.int .u8 17] = B sevenB:=by
   rw [splice_set (by rw [B_len]; decide)]
   have : wantL.set 9 17 = sevenB:=by decide
   rw [← this]
   simp [B,List.map_set]
  have hB9 : (B wantL).length = 108:=by rw [B_len,hwl]
  have A6 : Adds σ σ6:=hN.2.trans h6.2
  have q1 : ((σ6.newF).ownV σ6.nf (B wantL)).objs σ6.no = some (B wantL):=by simp [AS.ownV]
  have q2 : Adds σ6 ((σ6.newF).ownV σ6.nf (B wantL)):=⟨by simp [AS.ownV],by simp [AS.ownV],fun o ho=>by
   have : ¬ o = σ6.no:=by omega
   simp [AS.ownV,this],fun f hf=>by
   have : ¬ f = σ6.nf:=by omega
   simp [AS.ownV,this]⟩
  have q3 : σ6.no < ((σ6.newF).ownV σ6.nf (B wantL)).no:=by simp [AS.ownV]
  generalize (σ6.newF).ownV σ6.nf (B wantL) = τ2 at *
  have A2:=A6.trans q2
  have A3 : Adds σ (τ2.setO σ6.no (B sevenB)):=A2.setO A6.no
  have q4 : (τ2.setO σ6.no (B sevenB)).objs σ6.no = some (B sevenB):=by simp
  have q5 : σ6.no < (τ2.setO σ6.no (B sevenB)).no:=by simpa using q3
  simp [q1,hB9,e9]
  generalize τ2.setO σ6.no (B sevenB) = τ3 at *
  refine seven_calls fun v7 σ7 h7 A7=>?_
  simp
  refine encode_calls V h7 seven_enc (by decide) (by decide) (fun f hf=>?_) (by decide) fun bv σ8 h8=>?_
  ·simp only [sevenM,List.mem_singleton] at hf
   subst hf
   exact ⟨by decide,by decide,by decide,by decide,by decide,fun ws hw w hx=>by simp [sevenF] at hw; subst hw; simp at hx; subst hx; exact ⟨by decide,by decide⟩⟩
  have k8:=h8.byt.one
  have B8 : Adds τ3 σ8:=A7.trans h8.2
  have q6:=(B8.obj σ6.no q5).trans q4
  have q7 : σ6.no < σ8.no:=Nat.lt_of_lt_of_le q5 B8.no
  simp [k8]
  refine aloop (KoI σ6.no bv σ8) (MU 6 109) ⟨0,by omega,by simp,by simp,by simp,.refl _⟩ fun a τ hI=>?_
  obtain ⟨i,hi,a4,a5,a6,hA⟩:=hI
  have hbv:=h8.byt.keep hA
  have bl:=hbv.len
  rw [hsl] at bl
  by_cases hlt : i < 108
  ·have hlt' : (i : Int) < 108:=by omega
   simp [pc4_l3,a4,a5,a6,bl,hlt']
   refine aloop (KkI σ6.no bv i σ8) (MU 7 9) ⟨0,by omega,by simp [a4],by simp [a5],by simp [a6],by simp,hA⟩ fun b τ4 hJ=>?_
   obtain ⟨k,hk,b4,b5,b6,b7,hA4⟩:=hJ
   have w1 : IntKind.wrap .i64 ((i : Int) + 1) = ((i + 1 : Nat) : Int):=by rw [wrap_i64] <;> omega
   have w2 : IntKind.wrap .i64 ((k : Int) + 1) = ((k + 1 : Nat) : Int):=by rw [wrap_i64] <;> omega
   have hbv4:=h8.byt.keep hA4
   by_cases hkt : k < 8
   ·have hkt' : (k : Int) < 8:=by omega
    simp [pc4_l2,b4,b5,b6,b7,hkt']
    refine ownOrV (copyB_calls hbv4 (by rw [hsl]; decide) fun v9 σ9 h9=>.inr ?_)
    rcases h9.1 with ⟨z,_⟩ | ⟨g,rfl,g1,g2,g3⟩
    ·have:=congrArg List.length z
     rw [B_len,hsl] at this
     simp at this
    refine ⟨g,false,1,B sevenB,rfl,g3,?_⟩
    have r1 : (σ9.ownV g (flat (B sevenB))).objs σ9.no = some (B sevenB):=by simp [AS.ownV,flat_B]
    have r2 : Adds σ8 (σ9.ownV g (flat (B sevenB))):=by
     have hA9:=hA4.trans h9.2
     have hn4:=hA4.nf
     refine ⟨by have:=hA9.no; simp [AS.ownV]; omega,hA9.nf,fun o ho=>?_,fun f hf=>?_⟩
     ·have:=hA9.no
      have : ¬ o = σ9.no:=by omega
      simp [AS.ownV,this]
      exact hA9.obj o ho
     ·have : ¬ f = g:=by omega
      simp [AS.ownV,this]
      exact hA9.fam f hf
    have r3 : (σ9.ownV g (flat (B sevenB))).no = σ9.no + 1:=by simp [AS.ownV]
    have hn9 : σ8.no ≤ σ9.no:=(hA4.trans h9.2).no
    generalize σ9.ownV g (flat (B sevenB)) = τ5 at *
    have hBl : (B sevenB).length = 108:=by rw [B_len,hsl]
    rw [hBl]
    obtain ⟨c,hc⟩ : ∃ c : UInt8,(B sevenB)[i]'(by omega) = .int .u8 (c.toNat : Int):=⟨sevenB[i]'(by omega),by simp [B]⟩
    have wk : IntKind.wrap .u64 (k : Int) = (k : Int):=by rw [wrap_u64]; omega
    simp [b5,b6,b7,r1,hBl,hlt,hlt',hc,wk]
    obtain ⟨d,hd⟩:=bits2_byte (fun x1 x2=>x1 ^^^ x2) (c.toNat : Int) (IntKind.u8.wrap (2 ^ min k IntKind.u8.bits))
    rw [hd]
    have es : splice (B sevenB) i [.int .u8 (d.toNat : Int)] = B (sevenB.set i d):=by
     rw [splice_set (by omega)]
     simp [B,List.map_set]
    simp [es]
    refine ⟨by omega,?_⟩
    have hsd : (sevenB.set i d).length = 108:=by rw [List.length_set,hsl]
    refine reads_any V hG hy (bs:=sevenB.set i d) (.inr (.inr ⟨σ9.no,0,B (sevenB.set i d),by rw [hsd],by simp,by rw [B_len]; omega,by rw [List.drop_zero,hsd,List.take_of_length_le (by rw [B_len]; omega)]⟩)) ?_
    have r4 : Adds σ8 (τ5.setO σ9.no (B (sevenB.set i d))):=r2.setO hn9
    have hbv5:=h8.byt.keep r4
    obtain ⟨φ,rfl,hφ⟩ : ∃ φ,bv = .sl φ 1 (B sevenB) ∧ Al.Rd (τ5.setO σ9.no (B (sevenB.set i d))) φ:=by
     rcases hbv5 with ⟨q,_⟩ | q
     ·have:=congrArg List.length q
      rw [hsl] at this
      simp at this
     ·exact q
    have et : List.take i (B sevenB) = B (sevenB.take i):=B_take ..
    have hcut : ∀ f,BytO (τ5.setO σ9.no (B (sevenB.set i d))) (.sl (cut φ f) 1 (B (sevenB.take i))) (sevenB.take i):=fun f=>.inr ⟨_,rfl,by cases φ <;> exact hφ⟩
    have hi8 : i ≤ 108:=by omega
    simp [b5,b6,hBl,hi8,et]
    refine ⟨by omega,?_⟩
    refine reads_any V hG hy (hcut _).x ?_
    simp [b7,w2]
    refine ⟨⟨k + 1,by omega,by simp [b4],by simp [b5],by simp [b6],by simp,r4⟩,?_⟩
    simp only [MU,b7]
    simp
    omega
   ·have e : k = 8:=by omega
    subst e
    simp [pc4_l2,b6,b7,pc4_r1,w1]
    refine ⟨⟨i + 1,by omega,by simp [b4],by simp [b5],by simp,hA4⟩,?_⟩
    simp only [MU,a6]
    simp
    omega
  ·have e : i = 108:=by omega
   subst e
   have qo:=(hA.obj σ6.no q7).trans q6
   obtain ⟨φ,rfl,hφ⟩ : ∃ φ,bv = .sl φ 1 (B sevenB) ∧ Al.Rd τ φ:=by
    rcases hbv with ⟨q,_⟩ | q
    ·have:=congrArg List.length q
     rw [hsl] at this
     simp at this
    ·exact q
   have hBl : (B sevenB).length = 108:=by rw [B_len,hsl]
   have ed : List.drop 10 (B sevenB) = B (sevenB.drop 10):=B_drop ..
   have hdl : (sevenB.drop 10).length = 98:=by rw [List.length_drop,hsl]
   have hcut : ∀ f,BytO τ (.sl (cut φ f) 1 (B (sevenB.drop 10))) (sevenB.drop 10):=fun f=>.inr ⟨_,rfl,by cases φ <;> exact hφ⟩
   have hx2 : BytX τ (.slm σ6.no 10 1 98) (sevenB.drop 10):=.inr (.inr ⟨σ6.no,10,B sevenB,by rw [hdl],qo,by rw [hBl,hdl]; decide,by rw [ed,List.take_of_length_le (by rw [B_len]; exact Nat.le_refl _)]⟩)
   have e3 : List.drop 10 (List.take 108 (B sevenB)) = B (sevenB.drop 10):=by rw [List.take_of_length_le (by omega),ed]
   simp [pc4_l3,a4,a5,a6,bl,pc4_r2,hBl,ed,e3,qo]
   refine ACalls.closed2 (b:=true) hG hy (hcut _).x hx2 (fun u u' hu hu'=>?_) ?_
   ·have:=sameBytes_calls (G:=G) (σ:=AS.bare) (R:=fun o _=>o = .ret (.bool true)) (bytU_s hu).byt (bytU_s hu').byt (by rw [hdl]; decide)
    exact this (by simp)
   ·simp
    refine known_any V hG hy ?_
    simp
    exact h _
end
end Go.Proofs.YthejpoplbllcbaaGreatDoor
