/- Parts of the proof of the row BinMakes: contracts of functions, each under the conditions that its theorem names. -/
import Derived.Test.YthejpoplbllcbaaGreatDoorZA
import Derived.Test.YthejpoplbllcbaaGreatDoorShelf
set_option linter.unusedSimpArgs false
set_option linter.unusedVariables false
set_option linter.unusedSimpArgs false
set_option linter.unusedVariables false
namespace Go.Proofs.YthejpoplbllcbaaGreatDoor
open Go Go.Abs
def UsesR (σ : AS) (x f : Nat) : Prop := ∃ cs v,σ.objs x = some cs ∧ cs[1]? = some v ∧ famOf v = some f
structure KeepR (x : Nat) (σ σ' : AS) : Prop where
 no : σ.no ≤ σ'.no
 nf : σ.nf ≤ σ'.nf
 obj : ∀ o,o < σ.no → o ≠ x → σ'.objs o = σ.objs o
 fam : ∀ f,f < σ.nf → ¬ UsesR σ x f → σ'.F f = σ.F f
 use : ∀ f,f < σ.nf → UsesR σ' x f → UsesR σ x f
theorem KeepR.refl (x σ) : KeepR x σ σ := ⟨Nat.le_refl _,Nat.le_refl _,fun _ _ _ => rfl,fun _ _ _ => rfl,fun _ _ h => h⟩
theorem KeepR.trans {x σ σ1 σ2} (h : KeepR x σ σ1) (h' : KeepR x σ1 σ2) : KeepR x σ σ2 where
 no:=Nat.le_trans h.no h'.no
 nf:=Nat.le_trans h.nf h'.nf
 obj o a b:=by rw [h'.obj o (Nat.lt_of_lt_of_le a h.no) b,h.obj o a b]
 fam f a b:=by rw [h'.fam f (Nat.lt_of_lt_of_le a h.nf) fun u=>b (h.use f a u),h.fam f a b]
 use f a u:=h.use f a (h'.use f (Nat.lt_of_lt_of_le a h.nf) u)
theorem Adds.keepR {x σ σ'} (h : Adds σ σ') (hx : x < σ.no) : KeepR x σ σ' where
 no:=h.no
 nf:=h.nf
 obj o a _:=h.obj o a
 fam f a _:=h.fam f a
 use f _ u:=by unfold UsesR at *; rwa [h.obj x hx] at u
structure KeepS (x : Nat) (σ σ' : AS) : Prop where
 no : σ.no ≤ σ'.no
 nf : σ.nf ≤ σ'.nf
 obj : ∀ o,o < σ.no → o ≠ x → σ'.objs o = σ.objs o
 fam : ∀ f,f < σ.nf → σ'.F f = σ.F f
 lst : ∀ cs,σ.objs x = some cs → ∃ cs',σ'.objs x = some cs' ∧ cs'[1]? = cs[1]?
 some : (σ.objs x).isSome = true
theorem KeepS.refl {x σ cs} (h : σ.objs x = Option.some cs) : KeepS x σ σ := ⟨Nat.le_refl _,Nat.le_refl _,fun _ _ _ => rfl,fun _ _ => rfl,fun cs h => ⟨cs,h,rfl⟩,by rw [h]; rfl⟩
theorem KeepS.trans {x σ σ1 σ2} (h : KeepS x σ σ1) (h' : KeepS x σ1 σ2) : KeepS x σ σ2 where
 no:=Nat.le_trans h.no h'.no
 nf:=Nat.le_trans h.nf h'.nf
 obj o a b:=by rw [h'.obj o (Nat.lt_of_lt_of_le a h.no) b,h.obj o a b]
 fam f a:=by rw [h'.fam f (Nat.lt_of_lt_of_le a h.nf),h.fam f a]
 lst cs e:=by
  obtain ⟨c1,e1,e2⟩:=h.lst cs e
  obtain ⟨c2,e3,e4⟩:=h'.lst c1 e1
  exact ⟨c2,e3,e4.trans e2⟩
 some:=h.some
theorem KeepS.r {x σ σ'} (h : KeepS x σ σ') : KeepR x σ σ' where
 no:=h.no
 nf:=h.nf
 obj:=h.obj
 fam f a _:=h.fam f a
 use f a u:=by
  obtain ⟨cs,v,h1,h2,h3⟩:=u
  obtain ⟨c0,hc0⟩:=Option.isSome_iff_exists.1 h.some
  obtain ⟨c1,e1,e2⟩:=h.lst c0 hc0
  rw [h1] at e1
  cases e1
  exact ⟨c0,v,hc0,by rw [← e2]; exact h2,h3⟩
theorem Adds.keepS {x σ σ' cs} (h : Adds σ σ') (hx : x < σ.no) (ho : σ.objs x = Option.some cs) : KeepS x σ σ' where
 no:=h.no
 nf:=h.nf
 obj o a _:=h.obj o a
 fam f a:=h.fam f a
 lst cs e:=⟨cs,(h.obj x hx).trans e,rfl⟩
 some:=by rw [ho]; rfl
theorem KeepS.set {x σ cs cs'} (ho : σ.objs x = Option.some cs) (h : cs'[1]? = cs[1]?) : KeepS x σ (σ.setO x cs') where
 no:=Nat.le_refl _
 nf:=Nat.le_refl _
 obj o _ ho:=by simp [ho]
 fam f _:=rfl
 lst c e:=⟨cs',by simp,by rw [h]; rw [ho] at e; cases e; rfl⟩
 some:=by rw [ho]; rfl
theorem KeepS.endF {x σ τ} (K : KeepS x σ τ) {g : Nat} (hg : σ.nf ≤ g) : KeepS x σ (τ.setF g .dead) where
 no:=K.no
 nf:=K.nf
 obj:=K.obj
 fam f a:=by
  have : ¬ f = g:=by omega
  simp [this]
  exact K.fam f a
 lst:=K.lst
 some:=K.some
theorem KeepS.newF {x σ τ} (K : KeepS x σ τ) : KeepS x σ τ.newF where
 no:=K.no
 nf:=Nat.le_succ_of_le K.nf
 obj:=K.obj
 fam f a:=by
  have:=K.nf
  have : ¬ f = τ.nf:=by omega
  simp [this]
  exact K.fam f a
 lst:=K.lst
 some:=K.some
theorem KeepS.mrg {x σ τ} (K : KeepS x σ τ) {g : Nat} (hg : σ.nf ≤ g) : KeepS x σ (τ.mrg g fun _ => false) where
 no:=K.no
 nf:=K.nf
 obj o a b:=by simpa [AS.mrg] using K.obj o a b
 fam f a:=by
  have : ¬ f = g:=by omega
  simp [AS.mrg,mrgF,this]
  exact K.fam f a
 lst cs e:=by
  obtain ⟨c1,e1,e2⟩:=K.lst cs e
  exact ⟨c1,by simpa [AS.mrg] using e1,e2⟩
 some:=K.some
def famO : Go.Abs.Own → Option Nat
 | .stat _=>none
 | .fam f _=>some f
def BV (β : Option Nat) (v : AV) (bs : List UInt8) : Prop := (bs = [] ∧ v = .nilsl) ∨ ∃ φ,famO φ = β ∧ v = .sl φ 1 (B bs)
theorem BV.one {β v bs} (h : BV β v bs) : v.known = true ∧ v.one = true ∧ v.cells = [v] := by rcases h with ⟨_,rfl⟩ | ⟨b,_,rfl⟩ <;> simp
def ToR (base : Nat) (σ : AS) (v : AV) (tO : To) : Prop := (tO = [] ∧ v = .nilsl) ∨ ∃ g tos,v = .sl (.fam g false) 1 tos ∧ base ≤ g ∧ g < σ.nf ∧ σ.F g = .alive ∧ All2 Al.RepE tos tO
theorem ToR.one {base σ v bs} (h : ToR base σ v bs) : v.known = true ∧ v.one = true ∧ v.cells = [v] := by rcases h with ⟨_,rfl⟩ | ⟨b,_,rfl,_⟩ <;> simp
structure Rdr (base : Nat) (β : Option Nat) (x : Nat) (s : Rs) (σ : AS) : Prop where
 hx : x < σ.no
 hb : 0 < base ∧ base ≤ σ.nf
 h0 : σ.F 0 = .alive
 hβ : ∀ f,β = some f → f < base ∧ σ.F f = .alive
 cells : ∃ bv lv,σ.objs x = some [bv,lv,.int .i64 (s.n : Int)] ∧ BV β bv s.b ∧ ToR base σ lv s.ls
theorem Rdr.uses {base β x s σ} (h : Rdr base β x s σ) {f : Nat} (hf : f < base) : ¬ UsesR σ x f := fun ⟨cs,v,h1,h2,h3⟩ => by
 obtain ⟨bv,lv,ho,_,hl⟩:=h.cells
 rw [ho] at h1
 cases h1
 simp at h2
 subst h2
 rcases hl with ⟨_,rfl⟩ | ⟨g,tos,rfl,hg,_⟩
 ·cases h3
 ·simp only [famOf,Option.some.injEq] at h3
  omega
theorem BV.byt {base β x s σ} (h : Rdr base β x s σ) {v bs} (hv : BV β v bs) : BytO σ v bs := by
 rcases hv with h1 | ⟨φ,h1,h2⟩
 ·exact .inl h1
 ·refine .inr ⟨φ,h2,?_⟩
  cases φ with
  | stat b=>exact trivial
  | fam f b =>
   obtain ⟨h3,h4⟩:=h.hβ f h1.symm
   exact ⟨by have:=h.hb.2; omega,h4⟩
theorem Rdr.set {base β x s σ bv lv s'} (h : Rdr base β x s σ) (hv : BV β bv s'.b) (hl : ToR base σ lv s'.ls) : Rdr base β x s' (σ.setO x [bv,lv,.int .i64 (s'.n : Int)]) := by
 refine ⟨h.hx,h.hb,h.h0,h.hβ,bv,lv,by simp,hv,?_⟩
 rcases hl with h1 | ⟨g,tos,h1,h2,h3,h4,h5⟩
 ·exact .inl h1
 ·exact .inr ⟨g,tos,h1,h2,h3,h4,h5⟩
theorem Rdr.adds {base β x s σ σ'} (h : Rdr base β x s σ) (A : Adds σ σ') : Rdr base β x s σ' := by
 obtain ⟨bv,lv,ho,hv,hl⟩:=h.cells
 have hn:=A.nf
 have hb:=h.hb
 refine ⟨Nat.lt_of_lt_of_le h.hx A.no,⟨hb.1,by omega⟩,(A.fam 0 (by omega)).trans h.h0,fun f hf=>?_,bv,lv,(A.obj x h.hx).trans ho,hv,?_⟩
 ·obtain ⟨h1,h2⟩:=h.hβ f hf
  exact ⟨h1,(A.fam f (by omega)).trans h2⟩
 ·rcases hl with h1 | ⟨g,tos,h1,h2,h3,h4,h5⟩
  ·exact .inl h1
  ·exact .inr ⟨g,tos,h1,h2,by omega,(A.fam g h3).trans h4,h5⟩
def errV (e : Int) : AV := .iface 28 (.int .i64 e)
def ErrV (v : AV) : Prop := v = errV 2 ∨ v = errV 3 ∨ v = errV 9
section
variable {G : Env} {σ : AS} {R : Out → AS → Prop}
theorem must_calls {b : Bool} {e : Int} (h1 : b = true → R (.ret (.tuple [])) σ) (h2 : b = false → R (.panic (errV e)) σ) : ACalls Tryz.prog G 30 [.bool b,.int .i64 e] σ R := by
 refine calls30 rfl ?_
 cases b with
 | true =>
  simp [pc30]
  exact h1 rfl
 | false =>
  simp [pc30]
  exact h2 rfl
def NoneR (R : Out → AS → Prop) (x : Nat) (σ : AS) : Prop := ∀ e σ',ErrV e → KeepR x σ σ' → R (.panic e) σ'
theorem NoneR.mono {R x σ σ'} (h : NoneR R x σ) (K : KeepR x σ σ') : NoneR R x σ' := fun e τ he k => h e τ he (K.trans k)
theorem famO_cut (φ : Go.Abs.Own) (b : Bool) : famO (cut φ b) = famO φ := by cases φ <;> rfl
theorem B_take (bs : List UInt8) (n : Nat) : (B bs).take n = B (bs.take n) := by simp [B]
theorem B_drop (bs : List UInt8) (n : Nat) : (B bs).drop n = B (bs.drop n) := by simp [B]
theorem take_callsS {base β x s} {n : Int} (h : Rdr base β x s σ) (hn : takeP n s = none → NoneR R x σ) (hs : ∀ p s',takeP n s = some (p,s') → ∀ v σ',BV β v p → Rdr base β x s' σ' → KeepS x σ σ' → R (.ret v) σ') : ACalls Tryz.prog G 57 [.ptr x 0,.int .i64 n] σ R := by
 refine calls57 rfl ?_
 obtain ⟨bv,lv,ho,hv,hl⟩:=h.cells
 have b1:=hv.one
 have l1:=hl.one
 have bl:=(BV.byt h hv).len
 have hx:=h.hx
 by_cases h0 : 0 ≤ n
 ·by_cases hlen : n ≤ s.b.length
  ·have ht : takeP n s = some (s.b.take n.toNat,{ s with b:=s.b.drop n.toNat }):=by unfold takeP; rw [if_pos ⟨h0,hlen⟩]
   simp [pc57,ho,bl,h0,hlen]
   refine must_calls (fun _=>?_) (fun q=>by cases q)
   obtain ⟨k,rfl⟩ : ∃ k : Nat,n = k:=⟨n.toNat,by omega⟩
   simp only [Int.toNat_natCast] at ht
   rcases hv with ⟨hs0,rfl⟩ | ⟨φ,hφ,rfl⟩
   ·have hk : k = 0:=by rw [hs0] at hlen; simp at hlen; exact hlen
    subst hk
    have hd : List.drop 0 s.b = s.b:=by simp
    simp [ho,splice]
    exact hs _ _ ht _ _ (.inl ⟨by simp,rfl⟩) (h.set (bv:=.nilsl) (.inl ⟨by simp [hs0],rfl⟩) hl) (.set ho rfl)
   ·simp [ho,splice]
    refine ⟨by omega,?_⟩
    have e1 : List.drop k (List.take s.b.length (B s.b)) = B (s.b.drop k):=by rw [List.take_of_length_le (by simp)]; exact B_drop _ _
    rw [e1,B_take]
    exact hs _ _ ht _ _ (.inr ⟨_,by rw [famO_cut]; exact hφ,rfl⟩) (h.set (s':={ s with b:=s.b.drop k }) (.inr ⟨_,by rw [famO_cut]; exact hφ,rfl⟩) hl) (.set ho rfl)
  ·have ht : takeP n s = none:=by unfold takeP; rw [if_neg (fun q=>hlen q.2)]
   simp [pc57,ho,bl,h0,hlen]
   refine must_calls (fun q=>by cases q) (fun _=>?_)
   simp
   exact hn ht _ _ (.inl rfl) (.refl ..)
 ·have ht : takeP n s = none:=by unfold takeP; rw [if_neg (fun q=>h0 q.1)]
  simp [pc57,ho,h0]
  refine must_calls (fun q=>by cases q) (fun _=>?_)
  simp
  exact hn ht _ _ (.inl rfl) (.refl ..)
theorem take_calls {base β x s} {n : Int} (h : Rdr base β x s σ) (hn : takeP n s = none → NoneR R x σ) (hs : ∀ p s',takeP n s = some (p,s') → ∀ v σ',BV β v p → Rdr base β x s' σ' → KeepR x σ σ' → R (.ret v) σ') : ACalls Tryz.prog G 57 [.ptr x 0,.int .i64 n] σ R :=
 take_callsS h hn fun p s' q v σ' a b c=>hs p s' q v σ' a b c.r
theorem take_one {s : Rs} : takeP 1 s = (byteP s).map fun p => ([p.1],p.2) := by
 unfold takeP byteP
 cases h : s.b with
 | nil=>simp
 | cons c r =>
  simp
  omega
theorem take1_callsS {base β x s} (h : Rdr base β x s σ) (hn : byteP s = none → NoneR R x σ) (hs : ∀ c s',byteP s = some (c,s') → ∀ v σ',(∃ φ,famO φ = β ∧ v = .sl φ 1 [.int .u8 (c.toNat : Int)]) → Rdr base β x s' σ' → KeepS x σ σ' → R (.ret v) σ') : ACalls Tryz.prog G 57 [.ptr x 0,.int .i64 1] σ R := by
 refine take_callsS h (fun q=>hn ?_) (fun p s' q v σ' hv hr hk=>?_)
 ·rw [take_one,Option.map_eq_none_iff] at q
  exact q
 ·rw [take_one,Option.map_eq_some_iff] at q
  obtain ⟨⟨c,s1⟩,h1,h2⟩:=q
  simp only [Prod.mk.injEq] at h2
  obtain ⟨rfl,rfl⟩:=h2
  refine hs c _ h1 v σ' ?_ hr hk
  rcases hv with ⟨h3,_⟩ | ⟨φ,h3,h4⟩
  ·cases h3
  ·exact ⟨φ,h3,h4⟩
theorem take1_calls {base β x s} (h : Rdr base β x s σ) (hn : byteP s = none → NoneR R x σ) (hs : ∀ c s',byteP s = some (c,s') → ∀ v σ',(∃ φ,famO φ = β ∧ v = .sl φ 1 [.int .u8 (c.toNat : Int)]) → Rdr base β x s' σ' → KeepR x σ σ' → R (.ret v) σ') : ACalls Tryz.prog G 57 [.ptr x 0,.int .i64 1] σ R :=
 take1_callsS h hn fun c s' q v σ' a b d=>hs c s' q v σ' a b d.r
theorem rd_of {base β x s} (h : Rdr base β x s σ) {φ : Go.Abs.Own} (hφ : famO φ = β) : Readable σ.F φ := by
 cases φ with
 | stat b=>exact trivial
 | fam f b=>exact (h.hβ f hφ.symm).2
theorem wrap_u64 (n : Nat) : IntKind.wrap .u64 (n : Int) = ((n % 2 ^ 64 : Nat) : Int) := by
 simp [IntKind.wrap,IntKind.signed,IntKind.bits]
theorem or_u64 {a b : Nat} (ha : a < 2 ^ 64) (hb : b < 2 ^ 64) : bits2 .u64 (fun x1 x2 => x1 ||| x2) (a : Int) (b : Int) = ((a ||| b : Nat) : Int) := by
 have e : ∀ n : Nat,n < 2 ^ 64 → (BitVec.ofInt 64 (n : Int)).toNat = n:=fun n hn=>by
  rw [BitVec.toNat_ofInt]
  omega
 show IntKind.wrap .u64 (((BitVec.ofInt 64 (a : Int) ||| BitVec.ofInt 64 (b : Int)).toNat : Nat) : Int) = _
 rw [BitVec.toNat_or,e a ha,e b hb,wrap_u64,Nat.mod_eq_of_lt (Nat.or_lt_two_pow ha hb)]
theorem orS_or {u x k : Nat} (hu : u < 2 ^ 64) : orS u x k = u ||| (x * 2 ^ k) % 2 ^ 64 := by
 unfold orS
 rw [Nat.or_mod_two_pow,Nat.mod_eq_of_lt hu,Nat.shiftLeft_eq]
theorem or_step {u i : Nat} {c : UInt8} (hu : u < 2 ^ 64) (hi : i < 10) : bits2 .u64 (fun x1 x2 => x1 ||| x2) (u : Int) (IntKind.u64.wrap (IntKind.u64.wrap (bits2 .u8 (fun x1 x2 => x1 &&& x2) (c.toNat : Int) 127) * 2 ^ min (7 * (i : Int)).toNat IntKind.u64.bits)) = ((orS u (c.toNat % 128) (7 * i) : Nat) : Int) := by
 have e1 : bits2 .u8 (fun x1 x2=>x1 &&& x2) (c.toNat : Int) 127 = ((c.toNat % 128 : Nat) : Int):=by
  have:=and_u8 c
  rw [and127] at this
  exact this
 have e2 : (7 * (i : Int)).toNat = 7 * i:=by omega
 have e3 : min (7 * i) IntKind.u64.bits = 7 * i:=by
  have : IntKind.u64.bits = 64:=rfl
  rw [this]
  omega
 have hp : ((2 : Int) ^ (7 * i)) = ((2 ^ (7 * i) : Nat) : Int):=by rw [Int.natCast_pow]; rfl
 rw [e1,wrap_u64,e2,e3,hp,← Int.natCast_mul,wrap_u64,Nat.mod_eq_of_lt (a:=c.toNat % 128) (by omega),or_u64 hu (Nat.mod_lt _ (by decide)),orS_or hu]
theorem orS_lt (u x k : Nat) : orS u x k < 2 ^ 64 := Nat.mod_lt _ (by decide)
theorem ext_step {u i : Nat} (hu : u < 2 ^ 64) (hi : i < 9) : bits2 .u64 (fun x1 x2 => x1 ||| x2) (u : Int) (IntKind.u64.wrap (18446744073709551615 * 2 ^ min (7 * (i : Int) + 7).toNat IntKind.u64.bits)) = ((orS u (2 ^ 64 - 1) (7 * i + 7) : Nat) : Int) := by
 have e2 : (7 * (i : Int) + 7).toNat = 7 * i + 7:=by omega
 have e3 : min (7 * i + 7) IntKind.u64.bits = 7 * i + 7:=by
  have : IntKind.u64.bits = 64:=rfl
  rw [this]
  omega
 have hp : ((2 : Int) ^ (7 * i + 7)) = ((2 ^ (7 * i + 7) : Nat) : Int):=by rw [Int.natCast_pow]; rfl
 have e4 : (18446744073709551615 : Int) = ((2 ^ 64 - 1 : Nat) : Int):=by decide
 rw [e2,e3,hp,e4,← Int.natCast_mul,wrap_u64,or_u64 hu (Nat.mod_lt _ (by decide)),orS_or hu]
def NuI (base : Nat) (β : Option Nat) (x : Nat) (sg : Bool) (s : Rs) (σ : AS) (a : Nat → AV) (τ : AS) : Prop := ∃ (i u : Nat) (r : List UInt8),i ≤ 10 ∧ numG sg 10 0 0 s.b = numG sg (10 - i) (7 * i) u r ∧ u < 2 ^ 64 ∧ a 0 = .ptr x 0 ∧ a 1 = .bool sg ∧ a 5 = .int .u64 (u : Int) ∧ a 6 = .int .i64 (7 * (i : Int)) ∧ Rdr base β x { s with b := r } τ ∧ KeepS x σ τ
theorem number_callsS {base β x s} {sg : Bool} (h : Rdr base β x s σ) (hn : numP false sg s = none → NoneR R x σ) (hs : ∀ n s',numP false sg s = some (n,s') → ∀ σ',Rdr base β x s' σ' → KeepS x σ σ' → R (.ret (.int .i64 n)) σ') : ACalls Tryz.prog G 60 [.ptr x 0,.bool sg] σ R := by
 refine calls60 rfl ?_
 have hnp : numP false sg s = (numG sg 10 0 0 s.b).map fun p=>(p.1,{ s with b:=p.2 }):=by
  unfold numP
  cases numG sg 10 0 0 s.b with
  | none=>rfl
  | some p=>simp
 simp [pc60]
 refine aloop (NuI base β x sg s σ) (fun a _=>match a 6 with | .int _ n=>100 - n.toNat | _=>0) ⟨0,0,s.b,by omega,rfl,by omega,by simp,by simp,by simp,by simp,h,.refl h.cells.choose_spec.choose_spec.1⟩ fun a τ hI=>?_
 obtain ⟨i,u,r,hi,hg,hu,a0,a1,a5,a6,hr,hk⟩:=hI
 by_cases hlt : i < 10
 ·have hlt' : 7 * (i : Int) < 70:=by omega
  obtain ⟨k,hk10⟩ : ∃ k,10 - i = k + 1:=⟨9 - i,by omega⟩
  rw [hk10] at hg
  simp [pc60_l1,a0,a1,a5,a6,hlt']
  refine must_calls (fun _=>?_) (fun q=>by cases q)
  simp [a0]
  refine take1_callsS hr (fun q=>?_) (fun c s' q v σ1 hv hr1 hk1=>?_)
  ·refine NoneR.mono (hn ?_) hk.r
   rw [hnp,hg]
   have : r = []:=by
    unfold byteP at q
    cases r with
    | nil=>rfl
    | cons c r=>cases q
   subst this
   rw [numG]
   rfl
  ·obtain ⟨φ,hφ,rfl⟩:=hv
   have hrd:=rd_of hr1 hφ
   obtain ⟨q1,q2,q3⟩:=byteP_some q
   simp only at q1 q2 q3
   rw [q1,numG] at hg
   have hE:=or_step (c:=c) hu hlt
   have hlv:=orS_lt u (c.toNat % 128) (7 * i)
   generalize orS u (c.toNat % 128) (7 * i) = u' at *
   by_cases hc : c.toNat < 128
   ·have hc' : (c.toNat : Int) < 128:=by omega
    simp only [hc,if_true] at hg
    have fin : ∀ (n : Nat) σ',i64U (if sg = true ∧ 64 ≤ c.toNat ∧ 7 * i < 57 then orS u' (2 ^ 64 - 1) (7 * i + 7) else u') = IntKind.wrap .i64 (n : Int) → Rdr base β x s' σ' → KeepS x τ σ' → R (.ret (.int .i64 (IntKind.wrap .i64 (n : Int)))) σ':=fun n σ' e1 e2 e3=>by
     refine hs _ { s with b:=s'.b } ?_ σ' ?_ (hk.trans e3)
     ·rw [hnp,hg,e1]
      rfl
     ·have : s' = { s with b:=s'.b }:=by
       obtain ⟨b',l',n'⟩:=s'
       try simp only at q2 q3
       rw [q2,q3]
      rw [← this]; exact e2
    cases sg with
    | false =>
     simp [hrd,a0,a1,a5,a6,hc',hE]
     exact ⟨by omega,fin _ _ (by simp [i64U]) hr1 hk1⟩
    | true =>
     by_cases h64 : 64 ≤ c.toNat
     ·have h64' : 64 ≤ (c.toNat : Int):=by omega
      by_cases h57 : 7 * i < 57
      ·have h57' : 7 * (i : Int) < 57:=by omega
       have w7 : IntKind.wrap .i64 (7 * (i : Int) + 7) = 7 * (i : Int) + 7:=by rw [wrap_i64] <;> omega
       have hX:=ext_step (i:=i) hlv (by omega)
       simp [hrd,a0,a1,a5,a6,hc',hE,h64',h57',w7,hX]
       exact ⟨by omega,by omega,fin _ _ (by rw [if_pos ⟨rfl,h64,h57⟩]; rfl) hr1 hk1⟩
      ·have h57' : ¬ 7 * (i : Int) < 57:=by omega
       simp [hrd,a0,a1,a5,a6,hc',hE,h64',h57']
       exact ⟨by omega,fin _ _ (by rw [if_neg (fun q=>h57 q.2.2)]; rfl) hr1 hk1⟩
     ·have h64' : ¬ 64 ≤ (c.toNat : Int):=by omega
      simp [hrd,a0,a1,a5,a6,hc',hE,h64']
      exact ⟨by omega,fin _ _ (by rw [if_neg (fun q=>h64 q.2.1)]; rfl) hr1 hk1⟩
   ·have hc' : ¬ (c.toNat : Int) < 128:=by omega
    simp only [hc,if_false] at hg
    have w7 : IntKind.wrap .i64 (7 * (i : Int) + 7) = 7 * (i : Int) + 7:=by rw [wrap_i64] <;> omega
    simp [hrd,a0,a1,a5,a6,hc',hE,w7]
    have e7 : 7 * (i : Int) + 7 = 7 * ((i + 1 : Nat) : Int):=by omega
    refine ⟨by omega,⟨i + 1,u',s'.b,by omega,?_,hlv,by simp [a0],by simp [a1],by simp,by simp [e7],?_,hk.trans hk1⟩,?_⟩
    ·rw [hg]
     have : 10 - (i + 1) = k:=by omega
     rw [this]
     rfl
    ·have : s' = { s with b:=s'.b }:=by
      obtain ⟨b',l',n'⟩:=s'
      try simp only at q2 q3
      rw [q2,q3]
     rw [← this]; exact hr1
    ·omega
 ·have : i = 10:=by omega
  subst this
  have hnone : numP false sg s = none:=by rw [hnp,hg]; rfl
  simp [pc60_l1,a0,a1,a5,a6]
  refine must_calls (fun q=>by cases q) (fun _=>?_)
  simp
  exact hn hnone _ _ (.inl rfl) hk.r
theorem number_calls {base β x s} {sg : Bool} (h : Rdr base β x s σ) (hn : numP false sg s = none → NoneR R x σ) (hs : ∀ n s',numP false sg s = some (n,s') → ∀ σ',Rdr base β x s' σ' → KeepR x σ σ' → R (.ret (.int .i64 n)) σ') : ACalls Tryz.prog G 60 [.ptr x 0,.bool sg] σ R :=
 number_callsS h hn fun n s' q σ' a b=>hs n s' q σ' a b.r
end
end Go.Proofs.YthejpoplbllcbaaGreatDoor
set_option linter.unusedSimpArgs false
set_option linter.unusedVariables false
namespace Go.Proofs.YthejpoplbllcbaaGreatDoor
open Go Go.Abs
def GrowR (σ0 : AS) (x sz : Nat) (τ : AS) (v : AV) (xs : List AV) : Prop := (xs = [] ∧ v = .nilsl) ∨ ∃ g,v = .sl (.fam g false) sz xs ∧ σ0.nf ≤ g ∧ g < τ.nf ∧ τ.F g = .alive ∧ ¬ UsesR τ x g
theorem GrowR.one {σ0 x sz τ v xs} (h : GrowR σ0 x sz τ v xs) : v.known = true ∧ v.one = true ∧ v.cells = [v] := by rcases h with ⟨_,rfl⟩ | ⟨b,rfl,_⟩ <;> simp
theorem GrowR.keep {σ0 x sz τ τ' v xs} (h : GrowR σ0 x sz τ v xs) (K : KeepR x τ τ') : GrowR σ0 x sz τ' v xs := by
 rcases h with h | ⟨g,h1,h2,h3,h4,h5⟩
 ·exact .inl h
 ·exact .inr ⟨g,h1,h2,Nat.lt_of_lt_of_le h3 K.nf,(K.fam g h3 h5).trans h4,fun u=>h5 (K.use g h3 u)⟩
theorem Rdr.lt {base β x s σ} (h : Rdr base β x s σ) {f : Nat} (u : UsesR σ x f) : f < σ.nf := by
 obtain ⟨cs,v,h1,h2,h3⟩:=u
 obtain ⟨bv,lv,ho,_,hl⟩:=h.cells
 rw [ho] at h1
 cases h1
 simp at h2
 subst h2
 rcases hl with ⟨_,rfl⟩ | ⟨g,tos,rfl,hg,hg2,_⟩
 ·cases h3
 ·simp only [famOf,Option.some.injEq] at h3
  omega
theorem Rdr.newF {base β x s τ} (h : Rdr base β x s τ) : Rdr base β x s τ.newF := h.adds (Adds.refl τ).newF
theorem Rdr.endF {base β x s τ} (h : Rdr base β x s τ) {g : Nat} (hg : base ≤ g) (hu : ¬ UsesR τ x g) : Rdr base β x s (τ.setF g .dead) := by
 obtain ⟨bv,lv,ho,hv,hl⟩:=h.cells
 have hb:=h.hb
 refine ⟨h.hx,hb,?_,fun f hf=>?_,bv,lv,ho,hv,?_⟩
 ·have : ¬ 0 = g:=by omega
  simp [this,h.h0]
 ·obtain ⟨h1,h2⟩:=h.hβ f hf
  have : ¬ f = g:=by omega
  exact ⟨h1,by simp [this,h2]⟩
 ·rcases hl with h1 | ⟨f,tos,h1,h2,h3,h4,h5⟩
  ·exact .inl h1
  ·have : ¬ f = g:=fun e=>hu ⟨_,_,ho,rfl,by rw [h1,← e]; rfl⟩
   exact .inr ⟨f,tos,h1,h2,h3,by simp [this,h4],h5⟩
theorem KeepR.endF {x σ τ} (K : KeepR x σ τ) {g : Nat} (hg : σ.nf ≤ g) : KeepR x σ (τ.setF g .dead) where
 no:=K.no
 nf:=K.nf
 obj:=K.obj
 fam f a b:=by
  have : ¬ f = g:=by omega
  simp [this]
  exact K.fam f a b
 use f a u:=K.use f a u
theorem KeepR.newF {x σ τ} (K : KeepR x σ τ) : KeepR x σ τ.newF where
 no:=K.no
 nf:=Nat.le_succ_of_le K.nf
 obj:=K.obj
 fam f a b:=by
  have:=K.nf
  have : ¬ f = τ.nf:=by omega
  simp [this]
  exact K.fam f a b
 use f a u:=K.use f a u
theorem grow_R {base β x s} {σ0 τ : AS} {v row : AV} {xs : List AV} {bsz sz : Nat} {K : AV → AS → Prop} (hG : GrowR σ0 x sz τ v xs) (hR : Rdr base β x s τ) (hK : KeepR x σ0 τ) (hb : base ≤ σ0.nf) (hrow : row.cells.length = sz) (hl : (xs.length + 1) * bsz ≤ 2 ^ 47)
  (h : ∀ v' τ',GrowR σ0 x sz τ' v' (xs ++ [row]) → Rdr base β x s τ' → KeepR x σ0 τ' → τ'.objs = τ.objs → τ'.no = τ.no → (KeepS x σ0 τ → KeepS x σ0 τ') → K v' τ') : grown bsz sz v [row] τ K:=by
 have hn:=hK.nf
 rcases hG with ⟨rfl,rfl⟩ | ⟨g,rfl,h2,h3,h4,h5⟩
 ·have hnu : ¬ UsesR τ.newF x τ.nf:=fun u=>by have:=hR.lt (f:=τ.nf) u; omega
  have:=h (.sl (.fam τ.nf false) sz [row]) τ.newF (.inr ⟨τ.nf,rfl,hn,by simp,by simp,hnu⟩) hR.newF hK.newF (by simp) (by simp) (fun q=>q.newF)
  simp at hl
  simp
  first | exact this | exact ⟨by omega,this⟩
 ·have hR':=(hR.endF (by omega) h5).newF
  have hK':=(hK.endF h2).newF
  have hnu : ¬ UsesR (τ.setF g .dead).newF x τ.nf:=fun u=>by have:=hR.lt (f:=τ.nf) u; omega
  have:=h (.sl (.fam τ.nf false) sz (xs ++ [row])) (τ.setF g .dead).newF (.inr ⟨τ.nf,rfl,hn,by simp,by simp,hnu⟩) hR' hK' (by simp) (by simp) (fun q=>(q.endF h2).newF)
  simp [h4]
  exact ⟨hl,this⟩
section
variable {G : Env} {σ : AS} {R : Out → AS → Prop}
theorem secRd_callsS {base β x s} {n : UInt8} (h : Rdr base β x s σ) (hn : sectionP n s = none → NoneR R x σ) (hs : ∀ s',sectionP n s = some s' → ∀ σ',Rdr base β x s' σ' → KeepS x σ σ' → R (.ret (.tuple [])) σ') : ACalls Tryz.prog G 59 [.ptr x 0,.int .u8 (n.toNat : Int)] σ R := by
 refine calls59 rfl ?_
 simp [pc59]
 refine take1_callsS h (fun q=>hn (by unfold sectionP; rw [q]; rfl)) (fun c s1 q v σ1 hv hr hk=>?_)
 obtain ⟨φ,hφ,rfl⟩:=hv
 have hrd:=rd_of hr hφ
 by_cases hc : c = n
 ·have hc' : (c.toNat : Int) = (n.toNat : Int):=by rw [hc]
  simp [hrd,hc']
  refine must_calls (fun _=>?_) (fun q=>by cases q)
  simp
  refine number_callsS hr (fun q2=>NoneR.mono (hn ?_) hk.r) (fun m s2 q2 σ2 hr2 hk2=>?_)
  ·unfold sectionP
   rw [q]
   simp only [Option.bind_some]
   rw [if_pos hc,q2]
   rfl
  ·simp
   refine hs s2 ?_ σ2 hr2 (hk.trans hk2)
   unfold sectionP
   rw [q]
   simp only [Option.bind_some]
   rw [if_pos hc,q2]
   rfl
 ·have hc' : ¬ (c.toNat : Int) = (n.toNat : Int):=fun e=>hc (UInt8.toNat_inj.1 (by omega))
  simp [hrd,hc']
  refine must_calls (fun q=>by cases q) (fun _=>?_)
  simp
  refine hn ?_ _ _ (.inl rfl) hk.r
  unfold sectionP
  rw [q]
  simp only [Option.bind_some]
  rw [if_neg hc]
theorem repP_none {α : Type} {f : Rs → Option (α × Rs)} {n : Nat} {s : Rs} (hn : 1 ≤ n) (h : f s = none) : repP f n s = none := by
 obtain ⟨n,rfl⟩ : ∃ k,n = k + 1:=⟨n - 1,by omega⟩
 rw [repP,h]
 rfl
theorem repP_step {α : Type} {f : Rs → Option (α × Rs)} {n : Nat} {s s' : Rs} {a : α} (hn : 1 ≤ n) (h : f s = some (a,s')) : repP f n s = (repP f (n - 1) s').map fun q => (a :: q.1,q.2) := by
 obtain ⟨n,rfl⟩ : ∃ k,n = k + 1:=⟨n - 1,by omega⟩
 rw [repP,h]
 rfl
def TyR (base : Nat) (β : Option Nat) (x : Nat) (N : Int) (s1 : Rs) (σ : AS) (a : Nat → AV) (τ : AS) : Prop := ∃ (i : Nat) (done : List Int) (s : Rs),(i : Int) ≤ max N 0 ∧ repP (typeP false) N.toNat s1 = (repP (typeP false) (N.toNat - i) s).map (fun q => (done ++ q.1,q.2)) ∧ s.b.length + done.length ≤ s1.b.length ∧ a 0 = .ptr x 0 ∧ a 4 = .int .i64 N ∧ a 5 = .int .i64 (i : Int) ∧ GrowR σ x 1 τ (a 2) (done.map (.int .i64)) ∧ Rdr base β x s τ ∧ KeepS x σ τ
theorem types_loop {base β x} {N : Int} {s1 : Rs} (hN : N < 2 ^ 63) (hb1 : s1.b.length ≤ 2 ^ 38) (hbase : base ≤ σ.nf) (hnone : repP (typeP false) N.toNat s1 = none → NoneR R x σ) (fin : ∀ l s',repP (typeP false) N.toNat s1 = some (l,s') → ∀ a τ,GrowR σ x 1 τ (a 2) (l.map (.int .i64)) → Rdr base β x s' τ → KeepS x σ τ → avc Tryz.prog G 18 pc94_r1 (afin Tryz.prog [.tmp 2] R) a τ)
  {a : Nat → AV} {τ : AS} (hI : TyR base β x N s1 σ a τ) : avc Tryz.prog G 18 pc94_l1 (athen (fun a' σ'=>TyR base β x N s1 σ a' σ' ∧ MU 5 (N.toNat + 1) a' σ' < MU 5 (N.toNat + 1) a τ) (ablock 0 (athen (avc Tryz.prog G 18 pc94_r1 (afin Tryz.prog [.tmp 2] R)) (afin Tryz.prog [.tmp 2] R)))) a τ:=by
 obtain ⟨i,done,s,hi,he,hlen,a0,a4,a5,hG,hR,hK⟩:=hI
 have g1:=hG.one
 by_cases hlt : (i : Int) < N
 ·have w1 : IntKind.wrap .i64 ((i : Int) + 1) = ((i + 1 : Nat) : Int):=by rw [wrap_i64] <;> omega
  simp [pc94_l1,a0,a4,a5,hlt,g1]
  refine take1_callsS hR (fun q=>?_) (fun c s' q v σ1 hv hr1 hk1=>?_)
  ·refine NoneR.mono (hnone ?_) hK.r
   rw [he,repP_none (by omega) (by unfold typeP; rw [q]; rfl)]
   rfl
  ·obtain ⟨φ,hφ,rfl⟩:=hv
   have hrd:=rd_of hr1 hφ
   obtain ⟨q1,q2,q3⟩:=byteP_some q
   have w2 : IntKind.wrap .i64 (c.toNat : Int) = (c.toNat : Int):=by have:=c.toNat_lt; rw [wrap_i64] <;> omega
   have w3 : IntKind.wrap .i64 (128 - (c.toNat : Int)) = 128 - (c.toNat : Int):=by have:=c.toNat_lt; rw [wrap_i64] <;> omega
   have hK1:=hK.trans hk1
   rw [q1] at hlen
   simp only [List.length_cons] at hlen
   simp [hrd,w2,w3,g1]
   refine grow_R (hG.keep hk1.r) hr1 hK1.r hbase (by simp) (by simp; omega) fun v' τ' e1 e2 e3 e4 e5 e6=>?_
   simp [a5,w1]
   refine ⟨⟨i + 1,done ++ [128 - (c.toNat : Int)],s',by omega,?_,by simp; omega,by simp [a0],by simp [a4],by simp,by simpa using e1,e2,e6 hK1⟩,?_⟩
   ·rw [he,repP_step (s':=s') (a:=128 - (c.toNat : Int)) (by omega) (by unfold typeP; rw [q]; simp)]
    have : N.toNat - i - 1 = N.toNat - (i + 1):=by omega
    rw [this]
    cases repP (typeP false) (N.toNat - (i + 1)) s' with
    | none=>rfl
    | some p=>simp
   ·simp only [MU,a5]; simp; omega
 ·simp [pc94_l1,a4,a5,hlt]
  have hz : N.toNat - i = 0:=by omega
  rw [hz] at he
  simp only [repP,Option.map_some,List.append_nil] at he
  exact fin _ _ he _ _ (by simpa using hG) hR hK
theorem Rdr.mrg {base β x s τ} (h : Rdr base β x s τ) {g : Nat} (hg : base ≤ g) (hu : ¬ UsesR τ x g) : Rdr base β x s (τ.mrg g fun _ => false) := by
 obtain ⟨bv,lv,ho,hv,hl⟩:=h.cells
 have hb:=h.hb
 refine ⟨h.hx,hb,?_,fun f hf=>?_,bv,lv,by simpa [AS.mrg] using ho,hv,?_⟩
 ·have : ¬ 0 = g:=by omega
  simp [AS.mrg,mrgF,this,h.h0]
 ·obtain ⟨h1,h2⟩:=h.hβ f hf
  have : ¬ f = g:=by omega
  exact ⟨h1,by simp [AS.mrg,mrgF,this,h2]⟩
 ·rcases hl with h1 | ⟨f,tos,h1,h2,h3,h4,h5⟩
  ·exact .inl h1
  ·have : ¬ f = g:=fun e=>hu ⟨_,_,ho,rfl,by rw [h1,← e]; rfl⟩
   exact .inr ⟨f,tos,h1,h2,h3,by simp [AS.mrg,mrgF,this,h4],h5⟩
theorem typesRd_callsS {base β x s} (h : Rdr base β x s σ) (hb1 : s.b.length ≤ 2 ^ 38) (hn : typesP false s = none → NoneR R x σ) (hs : ∀ l s',typesP false s = some (l,s') → ∀ v σ',Al.IntsE v l → Rdr base β x s' σ' → KeepS x σ σ' → R (.ret v) σ') : ACalls Tryz.prog G 94 [.ptr x 0] σ R := by
 refine Al.merging (calls94 rfl ?_)
 simp [pc94]
 refine number_callsS h (fun q=>?_) (fun N s1 q σ1 hr1 hk1=>?_)
 ·intro e σ' h1 h2
  exact .inl (hn (by unfold typesP; rw [q]; rfl) e σ' h1 h2)
 ·obtain ⟨⟨xx,_,hxx⟩,_,_,n1,n2,_⟩:=numP_some q
  have hsl:=sub_len hxx
  have hsplit : ∀ l s',repP (typeP false) N.toNat s1 = some (l,s') → typesP false s = some (l,s'):=fun l s' e=>by
   unfold typesP
   rw [q]
   exact e
  simp
  refine aloop (TyR base β x N s1 σ1) (MU 5 (N.toNat + 1)) ⟨0,[],s1,by omega,by cases hh : repP (typeP false) N.toNat s1 <;> simp [hh],by simp,by simp,by simp,by simp,.inl ⟨rfl,by simp⟩,hr1,.refl hr1.cells.choose_spec.choose_spec.1⟩ fun a τ hI=>?_
  refine types_loop n2 (by omega) hr1.hb.2 (fun q2=>?_) (fun l s' q2 a τ hG hR hK=>?_) hI
  ·intro e σ' h1 h2
   refine .inl (hn ?_ e σ' h1 (hk1.r.trans h2))
   unfold typesP
   rw [q]
   exact q2
  ·have g1:=hG.one
   have he:=hsplit l s' q2
   have hK':=hk1.trans hK
   rcases hG with ⟨h1,h2⟩ | ⟨g,h1,h2,h3,h4,h5⟩
   ·have hl : l = []:=by simpa using h1
    subst hl
    simp [pc94_r1,h2]
    exact .inl (hs _ _ he _ _ (.inl ⟨rfl,.inl rfl⟩) hR hK')
   ·have hb:=hr1.hb.2
    have hnf:=hk1.nf
    have:=hs _ _ he (.sl (.fam 0 false) 1 (l.map (.int .i64))) (τ.mrg g fun _=>false) (.inr ⟨_,rfl⟩) (hR.mrg (by omega) h5) (hK'.mrg (by omega))
    simp [pc94_r1,h1]
    refine Al.MrgOr.merged g (fun _=>false) (by omega) h4 ?_
    simpa [Function.comp_def] using this
end
end Go.Proofs.YthejpoplbllcbaaGreatDoor
set_option linter.unusedSimpArgs false
set_option linter.unusedVariables false
namespace Go.Proofs.YthejpoplbllcbaaGreatDoor
open Go Go.Abs
theorem indexB (l : List UInt8) (c : UInt8) : Lib.indexByte l c = match l.findIdx? (· == c) with | some i => (i : Int) | none => -1 := by
 induction l with
 | nil=>rfl
 | cons b l ih =>
  rw [Lib.indexByte,ih,List.findIdx?_cons]
  by_cases h : (b == c) = true
  ·simp [h]
  ·simp only [h,if_false,Bool.false_eq_true]
   cases hq : l.findIdx? (· == c) with
   | none=>simp
   | some i =>
    have : ¬ ((i : Int) == -1) = true:=by simp
    simp [this]
theorem find_key {l T : List (UInt8 × W)} (hp : l.Perm T) (hT : ∀ p ∈ T,findT T p.1 = some p.2) (c : UInt8) : findT l c = findT T c := by
 unfold findT
 cases h : l.find? (fun p=>p.1 == c) with
 | none =>
  have h1:=List.find?_eq_none.1 h
  have : T.find? (fun p=>p.1 == c) = none:=List.find?_eq_none.2 fun p hp'=>h1 p (hp.mem_iff.2 hp')
  rw [this]
 | some p =>
  have h1:=List.find?_some h
  have h2:=hp.mem_iff.1 (List.mem_of_find?_eq_some h)
  simp only [beq_iff_eq] at h1
  have h3:=hT p h2
  unfold findT at h3
  rw [h1] at h3
  rw [h3]
  rfl
theorem findK_keys (c : UInt8) : ∀ (l : List (UInt8 × W)) (i : Nat),findK (.int .u8 (c.toNat : Int)) (keysA l) i = some ((l.findIdx? (fun p => p.1 == c)).map (· + i))
 | [],i=>rfl
 | p :: l,i=>by
  have e : keysA (p :: l) = .int .u8 (p.1.toNat : Int) :: keysA l:=rfl
  rw [e,findK,List.findIdx?_cons]
  have hs : sameK (.int .u8 (c.toNat : Int)) (.int .u8 (p.1.toNat : Int)) = some (p.1 == c):=by
   simp only [sameK,if_true,Option.some.injEq]
   by_cases h : p.1 = c
   ·simp [h]
   ·have h' : ¬ (c.toNat : Int) = (p.1.toNat : Int):=fun e=>h (UInt8.toNat_inj.1 (by omega))
    rw [beq_eq_false_iff_ne.2 h,beq_eq_false_iff_ne.2 h']
  rw [hs]
  cases h : (p.1 == c) with
  | true=>simp
  | false =>
   simp only [Bool.false_eq_true,if_false]
   rw [findK_keys c l (i + 1)]
   cases l.findIdx? (fun p=>p.1 == c) with
   | none=>rfl
   | some j=>simp; omega
theorem zero73 : zeroOf Tryz.prog 73 = some (.agg [.int .i64 0,.int .i64 0,.int .i64 0,.int .i64 0,.int .i64 0,.str []]) := by kernel_rfl
theorem und125 : Tryz.prog.underlying 125 = some (.map 5 73) := by kernel_rfl
theorem keyOk5 (n : Int) : keyOk Tryz.prog 5 (.int .u8 n) = true := by
 have : Tryz.prog.underlying 5 = some (.int .u8):=by kernel_rfl
 simp [keyOk,this]
theorem lookup_eq {l T : List (UInt8 × W)} (hp : l.Perm T) (hT : ∀ p ∈ T,findT T p.1 = some p.2) (c : UInt8) (K : AV → Prop) : alookup Tryz.prog 125 (.mp (keysA l) (valsA l)) (.int .u8 (c.toNat : Int)) true K = (match findT T c with
  | some w=>K (.tuple [w.av,.bool true])
  | none=>K (.tuple [.agg [.int .i64 0,.int .i64 0,.int .i64 0,.int .i64 0,.int .i64 0,.str []],.bool false])):=by
 rw [← find_key hp hT c]
 unfold alookup
 rw [und125]
 simp only [keyOk5,true_and,findK_keys,Option.some.injEq,if_true,exists_eq_left']
 unfold findT
 cases h : l.findIdx? (fun p=>p.1 == c) with
 | none =>
  have : l.find? (fun p=>p.1 == c) = none:=by
   rw [List.findIdx?_eq_none_iff] at h
   exact List.find?_eq_none.2 fun p hp=>by simp [h p hp]
  rw [this]
  simp [zero73]
 | some i =>
  rw [List.findIdx?_eq_some_iff_getElem] at h
  obtain ⟨hi,h1,h2⟩:=h
  have : l.find? (fun p=>p.1 == c) = some l[i]:=by
   rw [List.find?_eq_some_iff_getElem]
   exact ⟨h1,i,hi,rfl,fun j hj=>by simpa using h2 j hj⟩
  rw [this]
  simp [valsA,hi]
section
variable {G : Env} {σ : AS} {R : Out → AS → Prop}
theorem indexByte_calls {s : List UInt8} {c : UInt8} (h : R (.ret (.int .i64 (match s.findIdx? (· == c) with | some i => (i : Int) | none => -1))) σ) : ACalls Tryz.prog G 133 [.str s,.int .u8 (c.toNat : Int)] σ R := by
 refine ACalls.of_below fun M w cargs S g hc=>?_
 obtain ⟨c0,e0,v0⟩:=hc.2 0 _ rfl
 obtain ⟨c1,e1,v1⟩:=hc.2 1 _ rfl
 obtain ⟨b0,rfl,rfl⟩:=v0.str_inv
 have : c1 = .int .u8 (c.toNat : Int):=by cases v1; rfl
 subst this
 have hcargs : cargs = #[.string b0,.int .u8 (c.toNat : Int)]:=by
  have hsz : cargs.size = 2:=hc.1
  apply Array.ext
  ·simpa using hsz
  ·intro i h1 h2
   match i,h1 with
   | 0,_=>simpa using (Array.getElem?_eq_some_iff.1 e0).2
   | 1,_=>simpa using (Array.getElem?_eq_some_iff.1 e1).2
   | i + 2,h=>omega
 rw [hcargs]
 refine (Tryz.strings_IndexByte b0 (c.toNat : Int) w).mono fun e w' ⟨he,hw⟩=>?_
 subst he hw
 have hcc : (c.toNat : Int).toNat.toUInt8 = c:=by simp
 rw [hcc,indexB]
 exact ⟨⟨.int .i64 _,_,rfl,fun M F w=>.int _ _,h⟩,rfl,rfl,rfl,Nat.le_refl _,fun _ _=>rfl⟩
end
theorem Rdr.setO {base β x s σ o cs} (h : Rdr base β x s σ) (ho : o ≠ x) : Rdr base β x s (σ.setO o cs) := by
 obtain ⟨bv,lv,hox,hv,hl⟩:=h.cells
 refine ⟨h.hx,h.hb,h.h0,h.hβ,bv,lv,?_,hv,?_⟩
 ·have : ¬ x = o:=fun e=>ho e.symm
  simp [this,hox]
 ·rcases hl with h1 | ⟨g,tos,h1,h2,h3,h4,h5⟩
  ·exact .inl h1
  ·exact .inr ⟨g,tos,h1,h2,h3,h4,h5⟩
theorem KeepR.setO {x σ τ o cs} (K : KeepR x σ τ) (ho : σ.no ≤ o) (hox : o ≠ x) : KeepR x σ (τ.setO o cs) where
 no:=K.no
 nf:=K.nf
 obj p a b:=by
  have : ¬ p = o:=by omega
  simp [this]
  exact K.obj p a b
 fam f a b:=K.fam f a b
 use f a u:=K.use f a (by
  obtain ⟨cs',v,h1,h2,h3⟩:=u
  have : ¬ x = o:=fun e=>hox e.symm
  simp [this] at h1
  exact ⟨cs',v,h1,h2,h3⟩)
abbrev zW : List AV := [.int .i64 0,.int .i64 0,.int .i64 0,.int .i64 0,.int .i64 0,.str []]
def ListOkR (G : Env) (base : Nat) (β : Option Nat) (x k : Nat) : Prop := ∀ (σ : AS) (R : Out → AS → Prop) (s : Rs) (d : Nat),Rdr base β x s σ → s.b.length < k → s.ls.length + s.b.length ≤ 2 ^ 38 → d ≤ 400 → (listP false k d [] s = none → NoneR R x σ) →
 (∀ n e s',listP false k d [] s = some ((n,e),s') → ∀ σ',Rdr base β x s' σ' → KeepR x σ σ' → R (.ret (.tuple [.int .i64 n,.int .u8 (e.toNat : Int)])) σ') → ACalls Tryz.prog G 96 [.ptr x 0,.int .i64 (d : Int)] σ R
section
variable {G : Env} {σ : AS} {R : Out → AS → Prop}
def FtI (c : UInt8) (o : Nat) (σ3 : AS) (a : Nat → AV) (τ : AS) : Prop := ∃ i : Nat,i ≤ 2 ∧ a 1 = .int .u8 (c.toNat : Int) ∧ a 6 = .ptr o 0 ∧ a 86 = .agg [.str ones,.str twos] ∧ a 87 = .int .i64 (i : Int) ∧ τ = σ3 ∧ (1 ≤ i → ones.findIdx? (· == c) = none) ∧ (2 ≤ i → twos.findIdx? (· == c) = none)
theorem sign_body (V : VarsB G) {c : UInt8} {o : Nat} {σ3 : AS} (ho : o < σ3.no) (hoo : σ3.objs o = some zW) (hn : signP c = none → ∀ σ',σ' = σ3 → R (.panic (errV 2)) σ') (hs : ∀ w,signP c = some w → ∀ σ',Adds σ3 σ' → R (.ret w.av) (σ'.setO o w.cs)) {a : Nat → AV} {τ : AS} (hI : FtI c o σ3 a τ) :
  avc Tryz.prog G 105 pc118_l1 (athen (fun a' σ'=>FtI c o σ3 a' σ' ∧ MU 87 3 a' σ' < MU 87 3 a τ) (ablock 0 (athen (avc Tryz.prog G 105 pc118_r1 (afin Tryz.prog [.cell 6 73] R)) (afin Tryz.prog [.cell 6 73] R)))) a τ:=by
 obtain ⟨i,hi,a1,a6,a86,a87,rfl,f1,f2⟩:=hI
 have hl : signNames.length = 16:=rfl
 have hit : ∀ (tab : List UInt8) (ty : Int) (j : Nat),tab.findIdx? (· == c) = some j → tab.length = 16 → j < 16:=fun tab ty j h ht=>by
  rw [List.findIdx?_eq_some_iff_getElem] at h
  obtain ⟨h,_⟩:=h
  omega
 rcases i with _ | _ | _ | i
 ·simp [pc118_l1,a1,a6,a86,a87]
  refine indexByte_calls ?_
  cases hf : ones.findIdx? (· == c) with
  | none =>
   simp [a87]
   refine ⟨⟨1,by omega,by simp [a1],by simp [a6],by simp [a86],by simp; rfl,rfl,fun _=>hf,fun h=>by omega⟩,?_⟩
   have w1 : IntKind.wrap .i64 1 = 1:=rfl
   simp only [MU,a87]; simp [w1]
  | some j =>
   have hj:=hit ones 1 j hf rfl
   have hg:=List.getElem?_eq_getElem (show j < signNames.length by omega)
   have hsp : signP c = some (signW 1 j):=by unfold signP; rw [hf]
   have hj0 : 0 ≤ (j : Int):=by omega
   simp [hj0]
   refine fields_calls V fun x σ' A h1 h2 h3=>?_
   have w1 : IntKind.wrap .i64 1 = 1:=rfl
   have o1:=(A.obj o ho).trans hoo
   generalize hnm : signNames[j] = nm at *
   simp [h3,hg,w1,a6,o1,splice]
   refine ⟨by omega,?_⟩
   have:=hs _ hsp σ' A
   simpa [signW,W.av,W.cs,hg] using this
 ·have f1:=f1 (by omega)
  simp only [Nat.zero_add,Int.natCast_one] at a87
  simp [pc118_l1,a1,a6,a86,a87]
  refine indexByte_calls ?_
  cases hf : twos.findIdx? (· == c) with
  | none =>
   simp [a87]
   refine ⟨⟨2,by omega,by simp [a1],by simp [a6],by simp [a86],by simp; rfl,rfl,fun _=>f1,fun _=>hf⟩,?_⟩
   have w1 : IntKind.wrap .i64 2 = 2:=rfl
   simp only [MU,a87]; simp [w1]
  | some j =>
   have hj:=hit twos 2 j hf rfl
   have hg:=List.getElem?_eq_getElem (show j < signNames.length by omega)
   have hsp : signP c = some (signW 2 j):=by unfold signP; rw [f1,hf]
   have hj0 : 0 ≤ (j : Int):=by omega
   simp [hj0]
   refine fields_calls V fun x σ' A h1 h2 h3=>?_
   have w1 : IntKind.wrap .i64 2 = 2:=rfl
   have o1:=(A.obj o ho).trans hoo
   generalize hnm : signNames[j] = nm at *
   simp [h3,hg,w1,a6,o1,splice]
   refine ⟨by omega,?_⟩
   have:=hs _ hsp σ' A
   simpa [signW,W.av,W.cs,hg] using this
 ·have f1:=f1 (by omega)
  have f2:=f2 (by omega)
  have hsp : signP c = none:=by unfold signP; rw [f1,f2]
  simp only [Nat.zero_add,Nat.reduceAdd] at a87
  simp [pc118_l1,pc118_r1,a87]
  exact hn hsp _ rfl
 ·omega
theorem instr_calls (V : VarsB G) {base β x s} {k d : Nat} {c : UInt8} (h : Rdr base β x s σ) (hd : d ≤ 400) (IH : ListOkR G base β x k) (hk : s.b.length ≤ k) (hz : s.ls.length + s.b.length ≤ 2 ^ 38) (hn : instrP false (fun d s => listP false k d [] s) d c s = none → NoneR R x σ)
  (hs : ∀ w s',instrP false (fun d s=>listP false k d [] s) d c s = some (w,s') → ∀ σ',Rdr base β x s' σ' → KeepR x σ σ' → R (.ret w.av) σ') : ACalls Tryz.prog G 118 [.ptr x 0,.int .u8 (c.toNat : Int),.int .i64 (d : Int)] σ R:=by
 obtain ⟨ln,hln,vn⟩:=V.nums
 obtain ⟨lp,hlp,vp⟩:=V.plain
 have v0:=V.bytes
 have hx:=h.hx
 have lkn:=fun c K=>lookup_eq hln (fun p hp=>(numT_fact p hp).1) c K
 have lkp:=fun c K=>lookup_eq hlp (fun p hp=>(plainT_fact p hp).2.1) c K
 refine calls118 rfl ?_
 have hc2 : ((2 : Int) ≤ (c.toNat : Int)) = (2 ≤ c.toNat):=by simp; omega
 have hc4 : ((c.toNat : Int) ≤ 4) = (c.toNat ≤ 4):=by simp; omega
 by_cases hc : 2 ≤ c.toNat ∧ c.toNat ≤ 4
 ·have h2 : (2 : Int) ≤ (c.toNat : Int):=by omega
  have h4 : (c.toNat : Int) ≤ 4:=by omega
  have hin : instrP false (fun d s=>listP false k d [] s) d c s = if d < 400 then withinP (fun d s=>listP false k d [] s) d c s else none:=by
   unfold instrP
   rw [if_pos hc]
  rw [hin] at hn
  simp only [hin] at hs
  have A1 : Adds σ (σ.newO zW):=(Adds.refl σ).newO
  have hA1n : (σ.newO zW).no = σ.no + 1:=by simp
  have hox : ¬ x = σ.no:=by omega
  have hox' : ¬ σ.no = x:=by omega
  by_cases hd2 : d < 400
  ·have hd2' : (d : Int) < 400:=by omega
   rw [if_pos hd2] at hn
   simp only [hd2,if_true] at hs
   simp [pc118,h2,h4,hd2']
   refine must_calls (fun _=>?_) (fun q=>by cases q)
   simp
   refine take1_calls (h.adds A1) (fun q=>?_) (fun c1 s2 q v σ2 hv hr2 hk2=>?_)
   ·exact NoneR.mono (hn (by unfold withinP; rw [q]; rfl)) (A1.keepR hx)
   ·obtain ⟨q1,q2,q3⟩:=byteP_some q
    have K2:=(A1.keepR hx).trans hk2
    have m2:=hk2.no
    simp at m2
    have o2:=hk2.obj σ.no (by simp) hox'
    have w1 : IntKind.wrap .i64 (c.toNat : Int) = (c.toNat : Int):=by rw [wrap_i64] <;> omega
    have w2 : IntKind.wrap .i64 (11 + (c.toNat : Int)) = 11 + (c.toNat : Int):=by rw [wrap_i64] <;> omega
    have w3 : IntKind.wrap .i64 (11 + (c.toNat : Int) - 2) = (c.toNat : Int) + 9:=by rw [wrap_i64] <;> omega
    have w4 : IntKind.wrap .i64 ((d : Int) + 1) = ((d + 1 : Nat) : Int):=by rw [wrap_i64] <;> omega
    have A3 : Adds σ2 ((σ2.newO zW).setO σ2.no [.int .i64 ((c.toNat : Int) + 9),.int .i64 0,.int .i64 0,.int .i64 0,.int .i64 0,.str []]):=.mk1
    have hx2:=hr2.hx
    have hr3:=hr2.adds A3
    have K3:=K2.trans (A3.keepR hx2)
    rw [q1] at hk hz
    simp only [List.length_cons] at hk hz
    simp at o2 hA1n
    have hox2 : ¬ x = σ2.no:=by omega
    have hox2' : ¬ σ2.no = x:=by omega
    have hne : ¬ σ.no = σ2.no:=by omega
    have hne' : ¬ σ2.no = σ.no:=by omega
    have o3 : ((σ2.newO zW).setO σ2.no [.int .i64 ((c.toNat : Int) + 9),.int .i64 0,.int .i64 0,.int .i64 0,.int .i64 0,.str []]).objs σ.no = some zW:=by simp [hne,o2]
    have o3' : ((σ2.newO zW).setO σ2.no [.int .i64 ((c.toNat : Int) + 9),.int .i64 0,.int .i64 0,.int .i64 0,.int .i64 0,.str []]).objs σ2.no = some [.int .i64 ((c.toNat : Int) + 9),.int .i64 0,.int .i64 0,.int .i64 0,.int .i64 0,.str []]:=by simp
    have n3 : ((σ2.newO zW).setO σ2.no [.int .i64 ((c.toNat : Int) + 9),.int .i64 0,.int .i64 0,.int .i64 0,.int .i64 0,.str []]).no = σ2.no + 1:=by simp
    simp [w1,w2,w3,w4,splice]
    generalize hσ3 : (σ2.newO zW).setO σ2.no [.int .i64 ((c.toNat : Int) + 9),.int .i64 0,.int .i64 0,.int .i64 0,.int .i64 0,.str []] = σ3 at *
    have wi : ∀ q5,listP false k (d + 1) [] s2 = q5 → withinP (fun d s=>listP false k d [] s) d c s = q5.bind fun q =>
      if c.toNat = 4 then
       if q.1.2 = 5 then (listP false k (d + 1) [] q.2).map fun r=>(nestP 13 q.1.1 r.1.1,r.2) else some (nestP 13 q.1.1 (-1),q.2)
      else some (nestP ((c.toNat : Int) + 9) q.1.1 0,q.2):=fun q5 e=>by
     unfold withinP
     rw [q]
     simp only [Option.bind_some]
     rw [e]
    refine IH σ3 _ s2 (d + 1) hr3 (by omega) (by rw [q2]; omega) (by omega) (fun q5=>?_) (fun n e s4 q5 σ4 hr4 hk4=>?_)
    ·exact NoneR.mono (hn (by rw [wi _ q5]; rfl)) K3
    ·have hw:=wi _ q5
     simp only [Option.bind_some] at hw
     obtain ⟨i1,i2,i3,_,i5,⟨xx,hxx0,i6⟩,_⟩:=listP_ls _ _ _ _ _ _ _ _ q5
     have i7:=sub_len i6
     have i8 : s4.b.length < s2.b.length:=by
      rw [i6]
      have:=List.length_pos_iff.2 hxx0
      simp
      omega
     have isz:=(listP_size _ _ _ _ _ _ _ _ q5).1
     rw [q2] at isz
     have K4:=K3.trans hk4
     have m4:=hk4.no
     rw [n3] at m4
     have o4:=(hk4.obj σ.no (by omega) hox').trans o3
     have o4':=(hk4.obj σ2.no (by omega) hox2').trans o3'
     by_cases hc4' : c.toNat = 4
     ·have hc4i : (c.toNat : Int) = 4:=by omega
      rw [if_pos hc4'] at hw
      simp [o4,o4',splice,hc4i]
      by_cases he5 : e = 5
      ·subst he5
       simp only [if_true] at hw
       have h5 : (UInt8.toNat 5 : Int) = 5:=rfl
       simp [hne,hne',o4,o4',splice,w4]
       have hr4a : Rdr base β x s4 ((σ4.setO σ2.no [.int .i64 13,.int .i64 0,.int .i64 0,.int .i64 n,.int .i64 0,.str []]).setO σ2.no [.int .i64 13,.int .i64 0,.int .i64 0,.int .i64 n,.int .i64 (-1),.str []]):=(hr4.setO hox2').setO hox2'
       have K4a : KeepR x σ ((σ4.setO σ2.no [.int .i64 13,.int .i64 0,.int .i64 0,.int .i64 n,.int .i64 0,.str []]).setO σ2.no [.int .i64 13,.int .i64 0,.int .i64 0,.int .i64 n,.int .i64 (-1),.str []]):=(K4.setO (by omega) hox2').setO (by omega) hox2'
       refine IH _ _ s4 (d + 1) hr4a (by omega) (by omega) (by omega) (fun q6=>?_) (fun n2 e2 s6 q6 σ6 hr6 hk6=>?_)
       ·exact NoneR.mono (hn (by rw [hw,q6]; rfl)) K4a
       ·rw [q6] at hw
        simp only [Option.map_some] at hw
        have o6:=(hk6.obj σ.no (by simp; omega) hox').trans (show _ = some zW by simp [hne,o4])
        have o6':=(hk6.obj σ2.no (by simp; omega) hox2').trans (show _ = some [.int .i64 13,.int .i64 0,.int .i64 0,.int .i64 n,.int .i64 (-1),.str []] by simp)
        simp [hne,hne',o6,o6',splice]
        refine hs _ s6 hw _ ((hr6.setO hox2').setO hox') (((K4a.trans hk6).setO (by omega) hox2').setO (by omega) hox')
      ·rw [if_neg he5] at hw
       have h5 : ¬ (e.toNat : Int) = 5:=fun q=>he5 (UInt8.toNat_inj.1 (show e.toNat = (5 : UInt8).toNat by have : (5 : UInt8).toNat = 5:=rfl; omega))
       simp [hne,hne',o4,o4',splice,w4,h5]
       exact hs _ s4 hw _ (((hr4.setO hox2').setO hox2').setO hox') (((K4.setO (by omega) hox2').setO (by omega) hox2').setO (by omega) hox')
     ·have hc4i : ¬ (c.toNat : Int) = 4:=by omega
      rw [if_neg hc4'] at hw
      simp [hne,hne',o4,o4',splice,hc4i]
      exact hs _ s4 hw _ ((hr4.setO hox2').setO hox') ((K4.setO (by omega) hox2').setO (by omega) hox')
  ·have hd2' : ¬ (d : Int) < 400:=by omega
   rw [if_neg hd2] at hn
   simp [pc118,h2,h4,hd2']
   refine must_calls (fun q=>by cases q) (fun _=>?_)
   simp
   exact hn rfl _ _ (.inr (.inl rfl)) (A1.keepR hx)
 ·have hin : instrP false (fun d s=>listP false k d [] s) d c s = leafP false c s:=by
   unfold instrP
   rw [if_neg hc]
  rw [hin] at hn
  simp only [hin] at hs
  have hlf : leafP false c s = match findT numT c with
   | some w=>(numP false (decide (w.op = 1)) s).map fun p=>({ w with n:=p.1 },p.2)
   | none=>match findT plainT c with
    | some w=>if w.op = 8 ∨ w.op = 9 then (takeP 2 s).map fun p=>(w,p.2) else some (w,s)
    | none=>(signP c).map fun w=>(w,s):=rfl
  have A1 : Adds σ (σ.newO zW):=(Adds.refl σ).newO
  have A2 : ∀ cs,Adds σ (((σ.newO zW).newO zW).setO (σ.no + 1) cs):=fun cs=>((Adds.refl σ).newO.newO).setO (by omega)
  have hox : ¬ x = σ.no:=by omega
  have hox' : ¬ σ.no = x:=by omega
  have hox1 : ¬ x = σ.no + 1:=by omega
  have hox1' : ¬ σ.no + 1 = x:=by omega
  have hbr : (2 ≤ (c.toNat : Int) ∧ (c.toNat : Int) ≤ 4) = False:=by simp; omega
  have start : ∀ (Q : Prop),(¬ (2 : Int) ≤ (c.toNat : Int) → Q) → ((2 : Int) ≤ (c.toNat : Int) → ¬ (c.toNat : Int) ≤ 4 → Q) → Q:=fun Q f g=>by
   by_cases h2 : (2 : Int) ≤ (c.toNat : Int)
   ·exact g h2 (by omega)
   ·exact f h2
  cases hf : findT numT c with
  | some w =>
   rw [hf] at hlf
   simp only at hlf
   have lk:=fun K=>lkn c K
   simp only [hf] at lk
   obtain ⟨_,_,_,_,_,_,_,_,_,hwn,hops⟩:=numT_fact _ (findT_mem hf)
   refine start _ (fun h2=>?_) (fun h2 h4=>?_)
   ·simp [pc118,h2,vn,lk,W.av,W.cs,splice]
    refine number_calls (h.adds (A2 _)) (fun q=>?_) (fun m s1 q σ1 hr1 hk1=>?_)
    ·exact NoneR.mono (hn (by rw [hlf,q]; rfl)) ((A2 _).keepR hx)
    ·rw [q] at hlf
     have m1:=hk1.no
     simp at m1
     have o1:=(hk1.obj σ.no (by simp; omega) hox').trans (show _ = some zW by simp)
     have o1':=(hk1.obj (σ.no + 1) (by simp) hox1').trans (show _ = some w.cs by simp [W.cs])
     simp only [W.cs] at o1'
     simp [o1,o1',splice]
     exact hs _ s1 hlf _ ((hr1.setO hox1').setO hox') (((((A2 _).keepR hx).trans hk1).setO (by omega) hox1').setO (by omega) hox')
   ·simp [pc118,h2,h4,vn,lk,W.av,W.cs,splice]
    refine number_calls (h.adds (A2 _)) (fun q=>?_) (fun m s1 q σ1 hr1 hk1=>?_)
    ·exact NoneR.mono (hn (by rw [hlf,q]; rfl)) ((A2 _).keepR hx)
    ·rw [q] at hlf
     have m1:=hk1.no
     simp at m1
     have o1:=(hk1.obj σ.no (by simp; omega) hox').trans (show _ = some zW by simp)
     have o1':=(hk1.obj (σ.no + 1) (by simp) hox1').trans (show _ = some w.cs by simp [W.cs])
     simp only [W.cs] at o1'
     simp [o1,o1',splice]
     exact hs _ s1 hlf _ ((hr1.setO hox1').setO hox') (((((A2 _).keepR hx).trans hk1).setO (by omega) hox1').setO (by omega) hox')
  | none =>
   rw [hf] at hlf
   simp only at hlf
   have lk:=fun K=>lkn c K
   simp only [hf] at lk
   have A3 : ∀ cs,Adds σ ((((σ.newO zW).newO zW).setO (σ.no + 1) zW).newO zW |>.setO (σ.no + 1 + 1) cs):=fun cs=>((((Adds.refl σ).newO.newO).setO (by omega)).newO).setO (by omega)
   have hox2' : ¬ σ.no + 1 + 1 = x:=by omega
   have hq : ¬ σ.no = σ.no + 1 + 1:=by omega
   cases hp : findT plainT c with
   | some w =>
    rw [hp] at hlf
    simp only at hlf
    have lk2:=fun K=>lkp c K
    simp only [hp] at lk2
    by_cases h89 : w.op = 8 ∨ w.op = 9
    ·rw [if_pos h89] at hlf
     rcases h89 with e8 | e8
     ·refine start _ (fun h2=>?_) (fun h2 h4=>?_)
      ·simp [pc118,h2,vn,lk,vp,lk2,W.av,W.cs,splice,e8]
       refine take_calls (h.adds (A3 _)) (fun q=>?_) (fun p s1 q v σ1 hv hr1 hk1=>?_)
       ·exact NoneR.mono (hn (by rw [hlf,q]; rfl)) ((A3 _).keepR hx)
       ·rw [q] at hlf
        have m1:=hk1.no
        simp at m1
        have o1:=(hk1.obj σ.no (by simp; omega) hox').trans (show _ = some zW by simp; omega)
        have o1':=(hk1.obj (σ.no + 1 + 1) (by simp) hox2').trans (show _ = some w.cs by simp [W.cs,e8])
        simp only [W.cs,e8] at o1'
        simp [o1,o1',splice]
        have:=hs w s1 hlf (σ1.setO σ.no w.cs) (hr1.setO hox') ((((A3 _).keepR hx).trans hk1).setO (by omega) hox')
        simpa [W.av,W.cs,e8] using this
      ·simp [pc118,h2,h4,vn,lk,vp,lk2,W.av,W.cs,splice,e8]
       refine take_calls (h.adds (A3 _)) (fun q=>?_) (fun p s1 q v σ1 hv hr1 hk1=>?_)
       ·exact NoneR.mono (hn (by rw [hlf,q]; rfl)) ((A3 _).keepR hx)
       ·rw [q] at hlf
        have m1:=hk1.no
        simp at m1
        have o1:=(hk1.obj σ.no (by simp; omega) hox').trans (show _ = some zW by simp; omega)
        have o1':=(hk1.obj (σ.no + 1 + 1) (by simp) hox2').trans (show _ = some w.cs by simp [W.cs,e8])
        simp only [W.cs,e8] at o1'
        simp [o1,o1',splice]
        have:=hs w s1 hlf (σ1.setO σ.no w.cs) (hr1.setO hox') ((((A3 _).keepR hx).trans hk1).setO (by omega) hox')
        simpa [W.av,W.cs,e8] using this
     ·refine start _ (fun h2=>?_) (fun h2 h4=>?_)
      ·simp [pc118,h2,vn,lk,vp,lk2,W.av,W.cs,splice,e8]
       refine take_calls (h.adds (A3 _)) (fun q=>?_) (fun p s1 q v σ1 hv hr1 hk1=>?_)
       ·exact NoneR.mono (hn (by rw [hlf,q]; rfl)) ((A3 _).keepR hx)
       ·rw [q] at hlf
        have m1:=hk1.no
        simp at m1
        have o1:=(hk1.obj σ.no (by simp; omega) hox').trans (show _ = some zW by simp; omega)
        have o1':=(hk1.obj (σ.no + 1 + 1) (by simp) hox2').trans (show _ = some w.cs by simp [W.cs,e8])
        simp only [W.cs,e8] at o1'
        simp [o1,o1',splice]
        have:=hs w s1 hlf (σ1.setO σ.no w.cs) (hr1.setO hox') ((((A3 _).keepR hx).trans hk1).setO (by omega) hox')
        simpa [W.av,W.cs,e8] using this
      ·simp [pc118,h2,h4,vn,lk,vp,lk2,W.av,W.cs,splice,e8]
       refine take_calls (h.adds (A3 _)) (fun q=>?_) (fun p s1 q v σ1 hv hr1 hk1=>?_)
       ·exact NoneR.mono (hn (by rw [hlf,q]; rfl)) ((A3 _).keepR hx)
       ·rw [q] at hlf
        have m1:=hk1.no
        simp at m1
        have o1:=(hk1.obj σ.no (by simp; omega) hox').trans (show _ = some zW by simp; omega)
        have o1':=(hk1.obj (σ.no + 1 + 1) (by simp) hox2').trans (show _ = some w.cs by simp [W.cs,e8])
        simp only [W.cs,e8] at o1'
        simp [o1,o1',splice]
        have:=hs w s1 hlf (σ1.setO σ.no w.cs) (hr1.setO hox') ((((A3 _).keepR hx).trans hk1).setO (by omega) hox')
        simpa [W.av,W.cs,e8] using this
    ·rw [if_neg h89] at hlf
     simp only [not_or] at h89
     obtain ⟨e8,e9⟩:=h89
     refine start _ (fun h2=>?_) (fun h2 h4=>?_)
     ·simp [pc118,h2,vn,lk,vp,lk2,W.av,W.cs,splice,e8,e9,hq]
      exact hs _ s hlf _ ((h.adds (A3 _)).setO hox') (((A3 _).keepR hx).setO (by omega) hox')
     ·simp [pc118,h2,h4,vn,lk,vp,lk2,W.av,W.cs,splice,e8,e9,hq]
      exact hs _ s hlf _ ((h.adds (A3 _)).setO hox') (((A3 _).keepR hx).setO (by omega) hox')
   | none =>
    rw [hp] at hlf
    simp only at hlf
    have lk2:=fun K=>lkp c K
    simp only [hp] at lk2
    have hq1 : ¬ σ.no = σ.no + 1:=by omega
    have go : ∀ a,a 1 = .int .u8 (c.toNat : Int) → a 6 = .ptr σ.no 0 → a 86 = .agg [.str ones,.str twos] → a 87 = .int .i64 0 →
      ALoop Tryz.prog G 105 pc118_l1 (ablock 0 (athen (avc Tryz.prog G 105 pc118_r1 (afin Tryz.prog [.cell 6 73] R)) (afin Tryz.prog [.cell 6 73] R))) a (((((σ.newO zW).newO zW).setO (σ.no + 1) zW).newO zW).setO (σ.no + 1 + 1) zW):=fun a e1 e6 e86 e87=>by
     refine aloop (FtI c σ.no _) (MU 87 3) ⟨0,by omega,e1,e6,e86,by simpa using e87,rfl,fun h=>by omega,fun h=>by omega⟩ fun b τ hI=>?_
     refine sign_body V (by simp; omega) (by simp [hq,hq1]) (fun q σ' e=>?_) (fun w q σ' A=>?_) hI
     ·subst e
      exact hn (by rw [hlf,q]; rfl) _ _ (.inl rfl) ((A3 _).keepR hx)
     ·have AA:=(A3 zW).trans A
      have:=AA.no
      exact hs w s (by rw [hlf,q]; rfl) _ ((h.adds AA).setO hox') ((AA.keepR hx).setO (by omega) hox')
    refine start _ (fun h2=>?_) (fun h2 h4=>?_)
    ·simp [pc118,h2,vn,lk,vp,lk2,v0,splice]
     exact go _ (by simp) (by simp) (by simp) (by simp)
    ·simp [pc118,h2,h4,vn,lk,vp,lk2,v0,splice]
     exact go _ (by simp) (by simp) (by simp) (by simp)
end
end Go.Proofs.YthejpoplbllcbaaGreatDoor
set_option linter.unusedSimpArgs false
set_option linter.unusedVariables false
namespace Go.Proofs.YthejpoplbllcbaaGreatDoor
open Go Go.Abs
section
variable {G : Env} {σ : AS} {R : Out → AS → Prop}
theorem Rdr.push {base β x s τ bv g tos lv l} (h : Rdr base β x s τ) (hv : BV β bv s.b) (ht : All2 Al.RepE tos s.ls) (hG : GrowR σ x 6 τ lv (l.map W.av)) (hσ : base ≤ σ.nf) {τ' : AS} (e1 : τ'.objs = upd τ.objs x (some [bv,.sl (.fam τ.nf false) 1 (tos ++ [lv]),.int .i64 (s.n : Int)])) (e2 : τ'.no = τ.no) (e3 : τ'.nf = τ.nf + 1) (e4 : τ'.F τ.nf = .alive)
  (e5 : ∀ f,f < τ.nf → ¬ UsesR τ x f → τ'.F f = τ.F f) (K : KeepR x σ τ) (hg : ∀ f,UsesR τ x f → f = g) {v : AV} (hmv : ∀ f,Go.Abs.mrg f v = v) (hR : ∀ σ',Rdr base β x { s with ls:=s.ls ++ [l] } σ' → KeepR x σ σ' → R (.ret v) σ') : Al.MrgOr R (.ret v) τ':=by
 have hb:=h.hb
 have hn:=K.nf
 have base0 : ∀ σ' : AS,σ'.no = τ.no → σ'.nf = τ.nf + 1 → (∀ o,o ≠ x → σ'.objs o = τ.objs o) → (∃ bv' tos',σ'.objs x = some [bv',.sl (.fam τ.nf false) 1 tos',.int .i64 (s.n : Int)] ∧ BV β bv' s.b ∧ All2 Al.RepE tos' (s.ls ++ [l])) → σ'.F τ.nf = .alive →
   (∀ f,f < τ.nf → ¬ UsesR τ x f → f < σ.nf ∨ f < base → σ'.F f = τ.F f) → R (.ret v) σ':=by
  intro σ' a1 a2 a3 ⟨bv',tos',a4,a5,a6⟩ a7 a8
  have nb : ∀ f,f < base → ¬ UsesR τ x f:=fun f hf=>h.uses hf
  refine hR σ' ⟨by rw [a1]; exact h.hx,⟨hb.1,by omega⟩,?_,fun f hf=>?_,bv',_,a4,a5,.inr ⟨τ.nf,tos',rfl,hb.2,by omega,a7,a6⟩⟩ ⟨by rw [a1]; exact K.no,by omega,fun o h1 h2=>(a3 o h2).trans (K.obj o h1 h2),fun f h1 h2=>?_,fun f h1 h2=>?_⟩
  ·rw [a8 0 (by omega) (nb 0 hb.1) (.inr hb.1)]; exact h.h0
  ·obtain ⟨h1,h2⟩:=h.hβ f hf
   exact ⟨h1,by rw [a8 f (by omega) (nb f h1) (.inr h1)]; exact h2⟩
  ·have hu : ¬ UsesR τ x f:=fun u=>h2 (K.use f h1 u)
   rw [a8 f (by omega) hu (.inl h1)]
   exact K.fam f h1 h2
  ·obtain ⟨cs,v,q1,q2,q3⟩:=h2
   rw [a4] at q1
   cases q1
   simp at q2
   subst q2
   simp [famOf] at q3
   omega
 rcases hG with ⟨h1,rfl⟩ | ⟨f,rfl,h2,h3,h4,h5⟩
 ·have hl : l = []:=by simpa using h1
  subst hl
  exact .inl (base0 τ' e2 e3 (fun o ho=>by rw [e1]; simp [ho]) ⟨bv,tos ++ [.nilsl],by rw [e1]; simp,hv,ht.append (.cons (.inl ⟨rfl,rfl⟩) .nil)⟩ e4 (fun f q1 q2 _=>e5 f q1 q2))
 ·refine Al.MrgOr.merged f (fun o=>o == x) (by omega) (by rw [e5 f h3 h5]; exact h4) ?_
  rw [hmv]
  have hbf : Go.Abs.mrg f bv = bv:=by
   rcases hv with ⟨_,rfl⟩ | ⟨φ,hφ,rfl⟩
   ·simp
   ·cases φ with
    | stat b=>simp [B,Function.comp_def]
    | fam g' b =>
     obtain ⟨q1,_⟩:=h.hβ g' hφ.symm
     have : ¬ g' = f:=by omega
     simp [this,B,Function.comp_def]
  refine base0 _ e2 e3 (fun o ho=>by simp [AS.mrg,e1,ho]) ⟨bv,tos ++ [.sl (.fam 0 false) 6 (l.map W.av)],?_,hv,ht.append (.cons (.inr ⟨_,rfl⟩) .nil)⟩ ?_ (fun f' q1 q2 q3=>?_)
  ·have : ¬ τ.nf = f:=by omega
   simp [AS.mrg,e1,hbf,Al.mrg_rows ht,this,Function.comp_def,Al.mrg_W]
  ·have : ¬ τ.nf = f:=by omega
   simp [AS.mrg,mrgF,this,e4]
  ·have : ¬ f' = f:=by omega
   simp only [AS.mrg,mrgF,upd_at,this,if_false]
   exact e5 f' q1 q2
theorem listP_one {st : Bool} {k d : Nat} {c : UInt8} {s s' : Rs} {w : W} (h : instrP st (fun d s => listP st k d [] s) d c s = some (w,s')) : s'.ls.length + s'.b.length ≤ s.ls.length + s.b.length ∧ s'.b.length ≤ s.b.length := by
 unfold instrP at h
 split at h
 ·split at h
  ·unfold withinP at h
   simp only [Option.bind_eq_some_iff] at h
   obtain ⟨⟨c1,s1⟩,h1,⟨⟨n,e⟩,s2⟩,h2,h3⟩:=h
   obtain ⟨f1,f2,f3⟩:=byteP_some h1
   have z1:=(listP_size _ _ _ _ _ _ _ _ h2).1
   obtain ⟨_,_,_,_,_,⟨xx,_,z3⟩,_⟩:=listP_ls _ _ _ _ _ _ _ _ h2
   have z4:=sub_len z3
   have f2' : s1.ls.length = s.ls.length:=congrArg List.length f2
   have f1' : s.b.length = s1.b.length + 1:=by rw [f1]; rfl
   simp only at z1 z4
   split at h3
   ·split at h3
    ·rw [Option.map_eq_some_iff] at h3
     obtain ⟨⟨⟨n2,e2⟩,s5⟩,h4,h5⟩:=h3
     simp only [Prod.mk.injEq] at h5
     obtain ⟨rfl,rfl⟩:=h5
     have y1:=(listP_size _ _ _ _ _ _ _ _ h4).1
     obtain ⟨_,_,_,_,_,⟨xx,_,y3⟩,_⟩:=listP_ls _ _ _ _ _ _ _ _ h4
     have y4:=sub_len y3
     simp only at y1 y4
     exact ⟨by omega,by omega⟩
    ·cases h3
     refine ⟨?_,?_⟩ <;> simp only <;> omega
   ·cases h3
    refine ⟨?_,?_⟩ <;> simp only <;> omega
  ·cases h
 ·obtain ⟨⟨xx,a1⟩,a2,_⟩:=leafP_some h
  have:=sub_len a1
  rw [a2]
  omega
def MBx (x : Nat) (_ : Nat → AV) (τ : AS) : Nat := match τ.objs x with
 | some (.sl _ _ xs :: _)=>xs.length
 | _=>0
theorem MBx_eq {base β x s τ} (h : Rdr base β x s τ) (a : Nat → AV) : MBx x a τ = s.b.length := by
 obtain ⟨bv,lv,ho,hv,hl⟩:=h.cells
 unfold MBx
 rw [ho]
 rcases hv with ⟨h1,rfl⟩ | ⟨φ,_,rfl⟩
 ·simp [h1]
 ·simp
def LsR (base : Nat) (β : Option Nat) (x d k0 : Nat) (s0 : Rs) (σ : AS) (a : Nat → AV) (τ : AS) : Prop := ∃ (k : Nat) (l : List W) (s : Rs),listP false k0 d [] s0 = listP false k d l s ∧ k ≤ k0 ∧ s.b.length < k ∧ l.length + s.b.length ≤ 2 ^ 38 ∧ s.ls.length + s.b.length ≤ 2 ^ 38 ∧ a 0 = .ptr x 0 ∧ a 1 = .int .i64 (d : Int) ∧ GrowR σ x 6 τ (a 6) (l.map W.av) ∧ Rdr base β x s τ ∧ KeepR x σ τ
theorem listRd_body (V : VarsB G) {base β x s0} {k0 d : Nat} (hd : d ≤ 400) (hσ : base ≤ σ.nf) (IH : ∀ j,j < k0 → ListOkR G base β x j) (hn : listP false k0 d [] s0 = none → NoneR R x σ) (hs : ∀ n e s',listP false k0 d [] s0 = some ((n,e),s') → ∀ σ',Rdr base β x s' σ' → KeepR x σ σ' → R (.ret (.tuple [.int .i64 n,.int .u8 (e.toNat : Int)])) σ')
  {a : Nat → AV} {τ : AS} (hI : LsR base β x d k0 s0 σ a τ) : avc Tryz.prog G 42 pc96_l1 (athen (fun a' σ'=>LsR base β x d k0 s0 σ a' σ' ∧ MBx x a' σ' < MBx x a τ) (ablock 0 (afin Tryz.prog [.tmp 4,.tmp 5] (Al.MrgOr R)))) a τ:=by
 obtain ⟨k,l,s,he,hk,hkb,hlb,hsb,a0,a1,hG,hR,hK⟩:=hI
 have hmb:=MBx_eq hR a
 obtain ⟨k,rfl⟩ : ∃ j,k = j + 1:=⟨k - 1,by omega⟩
 rw [listP] at he
 simp [pc96_l1,a0]
 refine take1_calls hR (fun q=>?_) (fun c s1 q v σ1 hv hr1 hk1=>?_)
 ·intro e σ' h1 h2
  exact .inl (hn (by rw [he,q]; rfl) e σ' h1 (hK.trans h2))
 ·obtain ⟨φ,hφ,rfl⟩:=hv
  have hrd:=rd_of hr1 hφ
  obtain ⟨q1,q2,q3⟩:=byteP_some q
  rw [q] at he
  simp only [Option.bind_some] at he
  have hK1:=hK.trans hk1
  have hG1:=hG.keep hk1
  have hmb1:=MBx_eq hr1 a
  rw [q1] at hkb hlb hsb hmb
  simp only [List.length_cons] at hkb hlb hsb hmb
  by_cases hc : c = 11 ∨ c = 5
  ·rw [if_pos hc] at he
   obtain ⟨bv,lv,ho,hbv,hlv⟩:=hr1.cells
   have l1:=hlv.one
   have b1:=hbv.one
   have g1:=hG1.one
   have wl : IntKind.wrap .i64 (s1.ls.length : Int) = (s1.ls.length : Int):=by rw [wrap_i64] <;> (rw [q2]; omega)
   have fin : ∀ τ' : AS,∀ tos g,All2 Al.RepE tos s1.ls → (∀ f,UsesR σ1 x f → f = g) → τ'.objs = upd σ1.objs x (some [bv,.sl (.fam σ1.nf false) 1 (tos ++ [a 6]),.int .i64 (s1.n : Int)]) → τ'.no = σ1.no → τ'.nf = σ1.nf + 1 → τ'.F σ1.nf = .alive → (∀ f,f < σ1.nf → ¬ UsesR σ1 x f → τ'.F f = σ1.F f) →
     Al.MrgOr R (.ret (.tuple [.int .i64 (s1.ls.length : Int),.int .u8 (c.toNat : Int)])) τ':=fun τ' tos g t1 t2 t3 t4 t5 t6 t7 =>
    Rdr.push hr1 hbv t1 hG1 hσ t3 t4 t5 t6 t7 hK1 t2 (by intro f; simp) fun σ' r1 r2=>hs _ _ _ he σ' r1 r2
   have hcc : (c.toNat : Int) = 11 ∨ ¬ (c.toNat : Int) = 11 ∧ (c.toNat : Int) = 5:=by
    rcases hc with rfl | rfl
    ·exact .inl rfl
    ·exact .inr ⟨by decide,rfl⟩
   have hlen : s1.ls.length ≤ 2 ^ 38:=by rw [q2]; omega
   rcases hlv with ⟨hl0,rfl⟩ | ⟨g,tos,rfl,t1,t2,t3,t4⟩
   ·have wl' : IntKind.wrap .i64 0 = 0:=rfl
    have key:=fin ((σ1.newF).setO x [bv,.sl (.fam σ1.nf false) 1 ([] ++ [a 6]),.int .i64 (s1.n : Int)]) [] 0 (by rw [hl0]; exact .nil) (fun f ⟨cs,v,u1,u2,u3⟩=>by rw [ho] at u1; cases u1; simp at u2; subst u2; cases u3) (by simp) (by simp) (by simp) (by simp) (fun f h1 h2=>by
     have : ¬ f = σ1.nf:=by omega
     simp [this])
    rw [hl0] at key
    rcases hcc with h1 | ⟨h1,h2⟩
    ·simp [hrd,a0,ho,h1,g1,splice,wl']
     simpa [h1] using key
    ·simp [hrd,a0,ho,h1,h2,g1,splice,wl']
     simpa [h2] using key
   ·have tl:=t4.length
    have key:=fin (((σ1.setF g .dead).newF).setO x [bv,.sl (.fam σ1.nf false) 1 (tos ++ [a 6]),.int .i64 (s1.n : Int)]) tos g t4 (fun f ⟨cs,v,u1,u2,u3⟩=>by rw [ho] at u1; cases u1; simp at u2; subst u2; simpa [famOf] using u3.symm) (by simp) (by simp) (by simp) (by simp) (fun f h1 h2=>by
     have : ¬ f = σ1.nf:=by omega
     have : ¬ f = g:=fun e=>h2 ⟨_,_,ho,rfl,by rw [e]; rfl⟩
     simp [*])
    rcases hcc with h1 | ⟨h1,h2⟩
    ·simp [hrd,a0,ho,h1,g1,splice,t3,tl,wl]
     refine ⟨by omega,?_⟩
     simpa [h1] using key
    ·simp [hrd,a0,ho,h1,h2,g1,splice,t3,tl,wl]
     refine ⟨by omega,?_⟩
     simpa [h2] using key
  ·rw [if_neg hc] at he
   have h11 : ¬ (c.toNat : Int) = 11:=fun e=>hc (.inl (UInt8.toNat_inj.1 (show c.toNat = (11 : UInt8).toNat by have : (11 : UInt8).toNat = 11:=rfl; omega)))
   have h5 : ¬ (c.toNat : Int) = 5:=fun e=>hc (.inr (UInt8.toNat_inj.1 (show c.toNat = (5 : UInt8).toNat by have : (5 : UInt8).toNat = 5:=rfl; omega)))
   have g1:=hG1.one
   simp [hrd,a0,a1,h11,h5,g1]
   refine instr_calls V hr1 hd (IH k (by omega)) (by omega) (by rw [q2]; omega) (fun q5=>?_) (fun w s2 q5 σ2 hr2 hk2=>?_)
   ·intro e σ' e1 e2
    exact .inl (hn (by rw [he,q5]; rfl) e σ' e1 (hK1.trans e2))
   ·rw [q5] at he
    simp only [Option.bind_some] at he
    have hin : s2.ls.length + s2.b.length ≤ s1.ls.length + s1.b.length ∧ s2.b.length ≤ s1.b.length:=by
     have hx:=listP_one q5
     exact hx
    rw [q2] at hin
    have hmb2:=MBx_eq hr2 a
    have g2:=(hG1.keep hk2).one
    simp [W.av,W.cs,g2]
    refine grow_R (row:=w.av) (hG1.keep hk2) hr2 (hK1.trans hk2) hσ (by simp [W.av,W.cs]) (by simp; omega) fun v' τ' e1 e2 e3 e4 e5 _=>?_
    simp
    refine ⟨⟨k,l ++ [w],s2,he,by omega,by omega,by simp; omega,by omega,by simp [a0],by simp [a1],by simpa using e1,e2,e3⟩,?_⟩
    rw [MBx_eq e2,hmb]
    omega
theorem list_okR (V : VarsB G) {base β x} : ∀ k j : Nat,j ≤ k → ListOkR G base β x j
 | 0,j,hj=>fun σ R s d h hk=>by omega
 | k + 1,j,hj=>by
  have IH:=list_okR V (base:=base) (β:=β) (x:=x) k
  intro σ R s d h hk hz hd hn hs
  refine Al.merging (calls96 rfl ?_)
  have hb:=h.hb
  simp [pc96]
  refine aloop (LsR base β x d j s σ) (MBx x) ⟨j,[],s,rfl,Nat.le_refl _,hk,by simp; omega,hz,by simp,by simp,.inl ⟨rfl,by simp⟩,h,.refl ..⟩ fun a τ hI=>?_
  exact listRd_body V hd hb.2 (fun i hi=>IH i (by omega)) hn hs hI
end
end Go.Proofs.YthejpoplbllcbaaGreatDoor
set_option linter.unusedSimpArgs false
set_option linter.unusedVariables false
namespace Go.Proofs.YthejpoplbllcbaaGreatDoor
open Go Go.Abs
section
variable {G : Env} {σ : AS} {R : Out → AS → Prop}
theorem mul_calls {x y : Nat} (hx : x < 18446744073709551616) (hy : y < 18446744073709551616) (h : R (.ret (.tuple [.int .u64 ((x * y / 18446744073709551616 : Nat) : Int),.int .u64 ((x * y % 18446744073709551616 : Nat) : Int)])) σ) : ACalls Tryz.prog G 117 [.int .u64 (x : Int),.int .u64 (y : Int)] σ R := by
 refine ACalls.of_below fun M w cargs S g hc=>?_
 obtain ⟨c0,e0,v0⟩:=hc.2 0 _ rfl
 obtain ⟨c1,e1,v1⟩:=hc.2 1 _ rfl
 have h0 : c0 = .int .u64 (x : Int):=by cases v0; rfl
 have h1 : c1 = .int .u64 (y : Int):=by cases v1; rfl
 subst h0
 subst h1
 have hcargs : cargs = #[.int .u64 (x : Int),.int .u64 (y : Int)]:=by
  have hsz : cargs.size = 2:=hc.1
  apply Array.ext
  ·simpa using hsz
  ·intro i h1 h2
   match i,h1 with
   | 0,_=>simpa using (Array.getElem?_eq_some_iff.1 e0).2
   | 1,_=>simpa using (Array.getElem?_eq_some_iff.1 e1).2
   | i + 2,h=>omega
 rw [hcargs]
 refine (Tryz.bits_Mul x y hx hy w).mono fun e w' ⟨he,hw⟩=>?_
 subst he hw
 refine ⟨⟨.tuple [.int .u64 _,.int .u64 _],_,rfl,fun M F w=>.tuple _ _ rfl fun j hj hj'=>?_,h⟩,rfl,rfl,rfl,Nat.le_refl _,fun _ _=>rfl⟩
 match j,hj with
 | 0,_=>exact .int _ _
 | 1,_=>exact .int _ _
 | j + 2,h=>simp at h; omega
theorem amake_ints {n : Nat} (hn : n < 2 ^ 40) {K : AV → AS → Prop} : amake Tryz.prog 38 (.int .i64 (n : Int)) (.int .i64 (n : Int)) σ K = K (.slm σ.no 0 1 n) (σ.newO (List.replicate n (.int .i64 0))) := by
 have e1 : elOf Tryz.prog 38 = some 1:=by kernel_rfl
 have e2 : elBytes Tryz.prog 38 = some 8:=by kernel_rfl
 have e3 : elZero Tryz.prog 38 = some (.int .i64 0):=by kernel_rfl
 have e5 : flat (List.replicate n (AV.int .i64 0)) = List.replicate n (AV.int .i64 0):=by
  induction n with
  | zero=>rfl
  | succ n ih =>
   have:=ih (by omega)
   simp only [flat,List.replicate_succ,List.flatMap_cons] at *
   rw [this]
   rfl
 simp [amake,e1,e2,e3,AV.cells,AV.known,e5]
 exact ⟨fun q=>q.2.2,fun q=>⟨by omega,by omega,q⟩⟩
theorem mul1_calls {n : Nat} (hn : n ≤ 65536) (h : R (.ret (.tuple [.int .u64 0,.int .u64 (n : Int)])) σ) : ACalls Tryz.prog G 117 [.int .u64 1,.int .u64 (n : Int)] σ R := by
 refine mul_calls (x:=1) (y:=n) (by decide) (by omega) ?_
 have e1 : 1 * n / 18446744073709551616 = 0:=by omega
 have e2 : 1 * n % 18446744073709551616 = n:=by omega
 rw [e1,e2]
 exact h
theorem rep_splice (t z : AV) {n k m : Nat} (h : k + m ≤ n) : splice (List.replicate k t ++ List.replicate (n - k) z) k (List.replicate m t) = List.replicate (k + m) t ++ List.replicate (n - (k + m)) z := by
 unfold splice
 rw [List.take_left' (by simp),List.drop_append,List.drop_eq_nil_of_le (by simp)]
 simp only [List.length_replicate,List.nil_append,List.drop_replicate,List.replicate_append_replicate]
 congr 2
 omega
theorem famOrV {P : Program} {f : FuncId} {args : List AV}
  (h : ACalls P G f args σ fun o σ'=>R o σ' ∨ ∃ ob sz rows,o = .ret (.slm ob 0 sz rows.length) ∧ σ'.objs ob = some (flat rows) ∧ (∀ x ∈ rows,x.cells.length = sz) ∧ R (.ret (.sl (.fam σ'.nf false) sz rows)) (σ'.famO ob)) : ACalls P G f args σ R:=by
 intro M w cargs S g c
 refine (h M w cargs S g c).mono fun e w' ⟨o,σ',M',hR,h2,h3,h4⟩=>?_
 rcases hR with hR | ⟨ob,sz,rows,ho,hob,hsz,hR⟩
 ·exact ⟨o,σ',M',hR,h2,h3,h4⟩
 subst ho
 cases e <;> simp only [OutRel] at h2
 have hrole:=(h3.obj ob _ hob).2.1
 have E:=ext_famO (M:=M') (F:=σ'.F) (w:=w') hrole
 have hF : (σ'.famO ob).F = upd σ'.F M'.nf .alive:=by rw [h3.nf]; rfl
 cases h2 with
 | slm _ _ _ _ cap hob' hcap hr =>
 obtain ⟨S',v'⟩:=h3.famO hob hsz hcap (fun j hj=>by simpa using hr j hj)
 exact ⟨_,_,M'.famO (M'.obj ob).1,hR,v',S',by rw [hF]; exact h4.trans E⟩
theorem flat_one : ∀ (l : List AV),(∀ x ∈ l,x.cells = [x]) → flat l = l
 | [],_=>rfl
 | x :: l,h=>by
  have:=flat_one l fun y hy=>h y (by simp [hy])
  simp only [flat,List.flatMap_cons] at *
  rw [this,h x (by simp)]
  rfl
def ReI (t : Int) (n o : Nat) (σ : AS) (a : Nat → AV) (τ : AS) : Prop := ∃ k : Nat,k ≤ n ∧ (1 ≤ n → 1 ≤ k) ∧ a 7 = .slm o 0 1 n ∧ a 8 = .int .i64 (k : Int) ∧ Adds σ τ ∧ o = σ.no ∧ o < τ.no ∧ τ.objs o = some (List.replicate k (.int .i64 t) ++ List.replicate (n - k) (.int .i64 0))
theorem repeat_calls {t : Int} {n : Nat} (hn : n ≤ 65536) (h : ∀ σ' g,Adds σ σ' → σ.nf ≤ g → g < σ'.nf → σ'.F g = .alive → R (.ret (.sl (.fam g false) 1 (List.replicate n (.int .i64 t)))) σ') : ACalls Tryz.prog G 95 [.sl (.stat true) 1 [.int .i64 t],.int .i64 (n : Int)] σ R := by
 refine famOrV (calls95 rfl ?_)
 have w0 : ¬ (n : Int) < 0:=by omega
 have w1 : IntKind.wrap .u64 1 = ((1 : Nat) : Int):=rfl
 have w2 : IntKind.wrap .u64 (n : Int) = ((n : Nat) : Int):=by rw [wrap_u64]; omega
 simp [pc95,w0,w1,w2]
 refine mul1_calls hn ?_
 have w3 : IntKind.wrap .i64 (n : Int) = (n : Int):=by rw [wrap_i64] <;> omega
 have w4 : ¬ (9223372036854775807 : Int) < (n : Int):=by omega
 simp [w3,w4,amake_ints (show n < 2 ^ 40 by omega),acopyTo_eq]
 have hst : ∀ cs,Adds σ ((σ.newO (List.replicate n (.int .i64 0))).setO σ.no cs):=fun cs=>.mk1
 have hmin : Nat.min 1 n = if n = 0 then 0 else 1:=by
  split
  ·rename_i h0; subst h0; rfl
  ·exact Nat.min_eq_left (by omega)
 refine aloop (ReI t n σ.no σ) (MU 8 (n + 1)) ⟨Nat.min 1 n,Nat.min_le_right _ _,fun h=>by rw [hmin,if_neg (by omega)]; omega,by simp,by simp,hst _,rfl,by simp,?_⟩ fun a τ hI=>?_
 ·have e1 : List.take n [AV.int .i64 t] = List.replicate (Nat.min 1 n) (.int .i64 t):=by
   rw [hmin]
   cases n with
   | zero=>rfl
   | succ n=>simp
  have:=rep_splice (.int .i64 t) (.int .i64 0) (n:=n) (k:=0) (m:=Nat.min 1 n) (by rw [hmin]; split <;> omega)
  simp at this
  simp [e1,this]
 ·obtain ⟨k,hk,hk1,a7,a8,hA,_,ho1,ho⟩:=hI
  by_cases hlt : k < n
  ·have hlt' : (k : Int) < (n : Int):=by omega
   have hk1:=hk1 (by omega)
   obtain ⟨m,hm,hm1,hm2,hm3⟩ : ∃ m,k.min (n - k) = m ∧ min (n - k) k = m ∧ k + m ≤ n ∧ 1 ≤ m:=by
    refine ⟨min k (n - k),rfl,Nat.min_comm _ _,?_,?_⟩ <;> omega
   have w5 : IntKind.wrap .i64 ((k : Int) + (m : Int)) = ((k + m : Nat) : Int):=by rw [wrap_i64] <;> omega
   simp [pc95_l1,a7,a8,hlt',acopyTo_eq,ho,hm,hm1,w5]
   refine ⟨by omega,.inl hlt,by omega,⟨k + m,hm2,fun _=>by omega,by simp [a7],by simp,hA.setO (Nat.le_refl _),rfl,by simpa using ho1,?_⟩,?_⟩
   ·rw [rep_splice _ _ hm2]
    simp
   ·simp only [MU,a8]; simp; omega
  ·have : k = n:=by omega
   subst this
   simp [pc95_l1,pc95_r1,a7,a8]
   refine .inr ⟨σ.no,1,List.replicate k (.int .i64 t),by simp,?_,fun x hx=>by rw [(List.mem_replicate.1 hx).2]; rfl,?_⟩
   ·rw [flat_one _ (fun x hx=>by rw [(List.mem_replicate.1 hx).2]; rfl)]
    simpa using ho
   ·have hn:=hA.nf
    refine h _ τ.nf ⟨by simpa using hA.no,by simp; omega,fun o ho=>?_,fun f hf=>?_⟩ hn (by simp) (by simp)
    ·have : ¬ o = σ.no:=by omega
     simp [this]
     exact hA.obj o ho
    ·have : ¬ f = τ.nf:=by omega
     simp [this]
     exact hA.fam f hf
end
end Go.Proofs.YthejpoplbllcbaaGreatDoor
set_option linter.unusedSimpArgs false
set_option linter.unusedVariables false
namespace Go.Proofs.YthejpoplbllcbaaGreatDoor
open Go Go.Abs
structure KeepF (x fo : Nat) (σ σ' : AS) : Prop where
 no : σ.no ≤ σ'.no
 nf : σ.nf ≤ σ'.nf
 obj : ∀ o,o < σ.no → o ≠ x → o ≠ fo → σ'.objs o = σ.objs o
 fam : ∀ f,f < σ.nf → σ'.F f = σ.F f
theorem KeepF.refl (x fo σ) : KeepF x fo σ σ := ⟨Nat.le_refl _,Nat.le_refl _,fun _ _ _ _ => rfl,fun _ _ => rfl⟩
theorem KeepF.trans {x fo σ σ1 σ2} (h : KeepF x fo σ σ1) (h' : KeepF x fo σ1 σ2) : KeepF x fo σ σ2 where
 no:=Nat.le_trans h.no h'.no
 nf:=Nat.le_trans h.nf h'.nf
 obj o a b c:=by rw [h'.obj o (Nat.lt_of_lt_of_le a h.no) b c,h.obj o a b c]
 fam f a:=by rw [h'.fam f (Nat.lt_of_lt_of_le a h.nf),h.fam f a]
theorem KeepS.f {x fo σ σ'} (h : KeepS x σ σ') : KeepF x fo σ σ' := ⟨h.no,h.nf,fun o a b _ => h.obj o a b,h.fam⟩
theorem KeepF.setO {x fo σ σ' o cs} (h : KeepF x fo σ σ') (ho : o = x ∨ o = fo ∨ σ.no ≤ o) : KeepF x fo σ (σ'.setO o cs) where
 no:=h.no
 nf:=h.nf
 obj p a b c:=by
  have : ¬ p = o:=by rcases ho with h | h | h <;> omega
  simp [this]
  exact h.obj p a b c
 fam:=h.fam
theorem KeepF.adds {x fo σ σ1 σ2} (h : KeepF x fo σ σ1) (A : Adds σ1 σ2) : KeepF x fo σ σ2 := h.trans ⟨A.no,A.nf,fun o a _ _ => A.obj o a,A.fam⟩
theorem KeepF.endF {x fo σ τ} (K : KeepF x fo σ τ) {g : Nat} (hg : σ.nf ≤ g) : KeepF x fo σ (τ.setF g .dead) where
 no:=K.no
 nf:=K.nf
 obj:=K.obj
 fam f a:=by
  have : ¬ f = g:=by omega
  simp [this]
  exact K.fam f a
theorem KeepF.newF {x fo σ τ} (K : KeepF x fo σ τ) : KeepF x fo σ τ.newF where
 no:=K.no
 nf:=Nat.le_succ_of_le K.nf
 obj:=K.obj
 fam f a:=by
  have:=K.nf
  have : ¬ f = τ.nf:=by omega
  simp [this]
  exact K.fam f a
def NoneA (R : Out → AS → Prop) (σ0 : AS) : Prop := ∀ e σ',ErrV e → Adds σ0 σ' → R (.panic e) σ'
theorem noneR_of {R σ0 σ base β x s} (h : NoneA R σ0) (A : Adds σ0 σ) (hx : σ0.no ≤ x) (hb : σ0.nf ≤ base) (hR : Rdr base β x s σ) : NoneR R x σ := fun e σ' he K => h e σ' he ⟨Nat.le_trans A.no K.no,Nat.le_trans A.nf K.nf,fun o ho => by
 have:=A.no
 rw [K.obj o (by omega) (by omega),A.obj o ho],fun f hf=>by
 have:=A.nf
 rw [K.fam f (by omega) (hR.uses (by omega)),A.fam f hf]⟩
theorem KeepF.adds0 {x fo σ0 σ σ'} (K : KeepF x fo σ σ') (A : Adds σ0 σ) (hx : σ0.no ≤ x) (hf : σ0.no ≤ fo) : Adds σ0 σ' := ⟨Nat.le_trans A.no K.no,Nat.le_trans A.nf K.nf,fun o ho => by
 have:=A.no
 rw [K.obj o (by omega) (by omega) (by omega),A.obj o ho],fun f hf=>by
 have:=A.nf
 rw [K.fam f (by omega),A.fam f hf]⟩
theorem splice_at {cs : List AV} {i : Nat} {v : AV} (h : i < cs.length) : (splice cs i [v])[i]? = some v := by
 unfold splice
 rw [List.append_assoc,List.getElem?_append_right (by simp; omega)]
 have : i - (cs.take i).length = 0:=by simp; omega
 rw [this]
 rfl
theorem splice_len {cs : List AV} {i : Nat} {v : AV} (h : i < cs.length) : (splice cs i [v]).length = cs.length := by
 unfold splice
 simp
 omega
theorem splice_set {cs : List AV} {i : Nat} {v : AV} (h : i < cs.length) : splice cs i [v] = cs.set i v := by
 unfold splice
 apply List.ext_getElem?
 intro j
 rw [List.append_assoc]
 rcases Nat.lt_trichotomy j i with h1 | h1 | h1
 ·rw [List.getElem?_append_left (by simp; omega),List.getElem?_take_of_lt h1,List.getElem?_set_ne (by omega)]
 ·subst h1
  rw [List.getElem?_append_right (by simp; omega),List.getElem?_set_self h]
  have : j - (cs.take j).length = 0:=by simp; omega
  rw [this]
  rfl
 ·rw [List.getElem?_append_right (by simp; omega),List.getElem?_set_ne (by omega)]
  have e : j - (cs.take i).length = (j - i - 1) + 1:=by simp; omega
  rw [e]
  simp only [List.singleton_append,List.getElem?_cons_succ,List.length_cons,List.length_nil,Nat.zero_add,List.getElem?_drop]
  congr 1
  omega
theorem grow_Rs {base β x s} {σ0 τ : AS} {v : AV} {xs ys : List AV} {bsz : Nat} {K : AV → AS → Prop} (hG : GrowR σ0 x 1 τ v xs) (hR : Rdr base β x s τ) (hn : σ0.nf ≤ τ.nf) (hb : base ≤ σ0.nf) (hl : (xs.length + ys.length) * bsz ≤ 2 ^ 47)
  (h : ∀ v' τ',GrowR σ0 x 1 τ' v' (xs ++ ys) → Rdr base β x s τ' → τ'.objs = τ.objs → τ'.no = τ.no → (∀ fo,KeepF x fo σ0 τ → KeepF x fo σ0 τ') → K v' τ') : grown bsz 1 v ys τ K:=by
 rcases hG with ⟨rfl,rfl⟩ | ⟨g,rfl,h2,h3,h4,h5⟩
 ·cases ys with
  | nil =>
   simp
   exact h _ _ (.inl ⟨rfl,rfl⟩) hR rfl rfl fun _ q=>q
  | cons y ys =>
   have hnu : ¬ UsesR τ.newF x τ.nf:=fun u=>by have:=hR.lt (f:=τ.nf) u; omega
   have:=h (.sl (.fam τ.nf false) 1 (y :: ys)) τ.newF (.inr ⟨τ.nf,rfl,hn,by simp,by simp,hnu⟩) hR.newF (by simp) (by simp) (fun _ q=>q.newF)
   simp at hl
   simp
   exact ⟨by omega,this⟩
 ·have hR':=(hR.endF (by omega) h5).newF
  have hnu : ¬ UsesR (τ.setF g .dead).newF x τ.nf:=fun u=>by have:=hR.lt (f:=τ.nf) u; omega
  have:=h (.sl (.fam τ.nf false) 1 (xs ++ ys)) (τ.setF g .dead).newF (.inr ⟨τ.nf,rfl,hn,by simp,by simp,hnu⟩) hR' (by simp) (by simp) (fun _ q=>(q.endF h2).newF)
  simp [h4]
  exact ⟨hl,this⟩
section
variable {G : Env} {σ : AS} {R : Out → AS → Prop}
theorem GrowR.setO {σ0 x sz τ v xs o cs} (h : GrowR σ0 x sz τ v xs) (ho : o ≠ x) : GrowR σ0 x sz (τ.setO o cs) v xs := by
 rcases h with h | ⟨g,h1,h2,h3,h4,h5⟩
 ·exact .inl h
 ·refine .inr ⟨g,h1,h2,h3,h4,fun ⟨cs',v,u1,u2,u3⟩=>h5 ?_⟩
  have : ¬ x = o:=fun e=>ho e.symm
  simp [this] at u1
  exact ⟨cs',v,u1,u2,u3⟩
def GpR (base : Nat) (β : Option Nat) (x fo off : Nat) (cs : List AV) (N : Int) (s1 : Rs) (σ : AS) (a : Nat → AV) (τ : AS) : Prop := ∃ (i : Nat) (done : List (List Int)) (s : Rs) (lv : AV),(i : Int) ≤ max N 0 ∧ repP (groupP false) N.toNat s1 = (repP (groupP false) (N.toNat - i) s).map (fun q => (done ++ q.1,q.2)) ∧ s.n = s1.n + done.flatten.length ∧ s.b.length ≤ s1.b.length ∧ s.n ≤ 65536 ∧ s.ls = s1.ls ∧
 a 0 = .ptr x 0 ∧ a 1 = .ptr fo off ∧ a 8 = .int .i64 N ∧ a 9 = .int .i64 (i : Int) ∧ τ.objs fo = some (splice cs (off + 2) [lv]) ∧ GrowR σ x 1 τ lv (done.flatten.map (.int .i64)) ∧ Rdr base β x s τ ∧ KeepF x fo σ τ ∧ fo < τ.no
theorem group_body {base β x fo off cs σ0} {N : Int} {s1 : Rs} (hN : N < 2 ^ 63) (hbase : base ≤ σ.nf) (hfx : fo ≠ x) (hlen : off + 5 ≤ cs.length) (hA : Adds σ0 σ) (hx0 : σ0.no ≤ x) (hf0 : σ0.no ≤ fo) (hb0 : σ0.nf ≤ base) (hnone : repP (groupP false) N.toNat s1 = none → NoneA R σ0)
  (fin : ∀ l s',repP (groupP false) N.toNat s1 = some (l,s') → ∀ a τ lv,a 0 = .ptr x 0 → a 1 = .ptr fo off → τ.objs fo = some (splice cs (off + 2) [lv]) → GrowR σ x 1 τ lv (l.flatten.map (.int .i64)) → Rdr base β x s' τ → KeepF x fo σ τ → fo < τ.no → s'.b.length ≤ s1.b.length → s'.ls = s1.ls → avc Tryz.prog G 63 pc61_r1 (afin Tryz.prog [] R) a τ)
  {a : Nat → AV} {τ : AS} (hI : GpR base β x fo off cs N s1 σ a τ) : avc Tryz.prog G 63 pc61_l1 (athen (fun a' σ'=>GpR base β x fo off cs N s1 σ a' σ' ∧ MU 9 (N.toNat + 1) a' σ' < MU 9 (N.toNat + 1) a τ) (ablock 0 (athen (avc Tryz.prog G 63 pc61_r1 (afin Tryz.prog [] R)) (afin Tryz.prog [] R)))) a τ:=by
 obtain ⟨i,done,s,lv,hi,he,hsn,hsb,hs65,hsl,a0,a1,a8,a9,hfo,hG,hR,hK,hfn⟩:=hI
 have g1:=hG.one
 have hNA : ∀ {τ' s'},Rdr base β x s' τ' → KeepF x fo σ τ' → repP (groupP false) N.toNat s1 = none → NoneR R x τ':=fun hr hk hq=>noneR_of (hnone hq) (hk.adds0 hA hx0 hf0) hx0 hb0 hr
 by_cases hlt : (i : Int) < N
 ·have w1 : IntKind.wrap .i64 ((i : Int) + 1) = ((i + 1 : Nat) : Int):=by rw [wrap_i64] <;> omega
  simp [pc61_l1,a0,a1,a8,a9,hlt]
  refine number_callsS hR (fun q=>?_) (fun m s2 q τ2 hr2 hk2=>?_)
  ·exact hNA hR hK (by rw [he,repP_none (by omega) (by unfold groupP; rw [q]; rfl)]; rfl)
  ·have hK2:=hK.trans hk2.f
   obtain ⟨⟨xx,_,hxx⟩,e1',e2,n1,n2,_⟩:=numP_some q
   have hsl2:=sub_len hxx
   obtain ⟨bv,lsv,ho2,hbv,hlv⟩:=hr2.cells
   have b1:=hbv.one
   have l1:=hlv.one
   have hfo2:=(hk2.obj fo hfn hfx).trans hfo
   have w6 : IntKind.wrap .i64 (65536 - (s2.n : Int)) = 65536 - (s2.n : Int):=by rw [wrap_i64] <;> omega
   have gno : ∀ q,¬ (0 ≤ m ∧ m ≤ 65536 - (s2.n : Int)) → groupP false s = q → q = none:=fun q' hno hq=>by
    rw [← hq]
    unfold groupP
    rw [q]
    simp only [Option.bind_some]
    rw [if_neg hno]
   by_cases hm0 : 0 ≤ m
   ·by_cases hm1 : m ≤ 65536 - (s2.n : Int)
    ·obtain ⟨k,rfl⟩ : ∃ k : Nat,m = k:=⟨m.toNat,by omega⟩
     have hk65 : s2.n + k ≤ 65536:=by omega
     have w7 : IntKind.wrap .i64 ((s2.n : Int) + (k : Int)) = ((s2.n + k : Nat) : Int):=by rw [wrap_i64] <;> omega
     have hgr : groupP false s = (typeP false { s2 with n:=s2.n + k }).map fun q=>(List.replicate k q.1,q.2):=by
      unfold groupP
      rw [q]
      simp only [Option.bind_some,Int.toNat_natCast]
      rw [if_pos ⟨hm0,hm1⟩]
     simp [a0,a1,hm0,ho2,w6,hm1]
     refine must_calls (fun _=>?_) (fun q=>by cases q)
     have hr3 : Rdr base β x { s2 with n:=s2.n + k } (τ2.setO x [bv,lsv,.int .i64 ((s2.n + k : Nat) : Int)]):=hr2.set (s':={ s2 with n:=s2.n + k }) hbv hlv
     have hK3 : KeepF x fo σ (τ2.setO x [bv,lsv,.int .i64 ((s2.n + k : Nat) : Int)]):=hK2.setO (.inl rfl)
     have hfx' : ¬ fo = x:=hfx
     have hxf' : ¬ x = fo:=fun e=>hfx e.symm
     have hfo3 : (τ2.setO x [bv,lsv,.int .i64 ((s2.n + k : Nat) : Int)]).objs fo = some (splice cs (off + 2) [lv]):=by simp [hfx',hfo2]
     have hfn2:=hk2.no
     have hget : (splice cs (off + 2) [lv])[off + 2]? = some lv:=splice_at (by omega)
     have hset : ∀ v',splice (splice cs (off + 2) [lv]) (off + 2) [v'] = splice cs (off + 2) [v']:=fun v'=>by
      rw [splice_set (by rw [splice_len (by omega)]; omega),splice_set (by omega),splice_set (by omega),List.set_set]
     have hCl : (splice cs (off + 2) [lv]).length = cs.length:=splice_len (by omega)
     generalize splice cs (off + 2) [lv] = C at *
     simp [a0,a1,ho2,b1,l1,w7,splice,hfx',hxf',hfo2,hget]
     generalize hτ3 : τ2.setO x [bv,lsv,.int .i64 ((s2.n : Int) + (k : Int))] = τ3 at *
     have hτ3' : τ2.setO x [bv,lsv,.int .i64 ((s2.n + k : Nat) : Int)] = τ3:=hτ3
     rw [hτ3'] at hr3 hK3 hfo3
     have hn3 : τ3.no = τ2.no:=by rw [← hτ3]; simp
     refine take1_callsS hr3 (fun q4=>?_) (fun c s4 q4 v τ4 hv hr4 hk4=>?_)
     ·refine hNA hr3 hK3 ?_
      rw [he,repP_none (by omega) (by rw [hgr]; unfold typeP; rw [q4]; rfl)]
      rfl
     ·obtain ⟨φ,hφ,rfl⟩:=hv
      have hrd:=rd_of hr4 hφ
      obtain ⟨z1,z2,z3⟩:=byteP_some q4
      simp only at z1 z2 z3
      have hfo4:=(hk4.obj fo (by omega) hfx).trans hfo3
      have hK4:=hK3.trans hk4.f
      have hn4:=hk4.no
      have w8 : IntKind.wrap .i64 (c.toNat : Int) = (c.toNat : Int):=by have:=c.toNat_lt; rw [wrap_i64] <;> omega
      have w9 : IntKind.wrap .i64 (128 - (c.toNat : Int)) = 128 - (c.toNat : Int):=by have:=c.toNat_lt; rw [wrap_i64] <;> omega
      simp [a0,a1,hfo4,hget,hrd,w8,w9]
      refine repeat_calls (by omega) fun τ5 g5 A5 ng5 lg5 al5=>?_
      have hr5:=hr4.adds A5
      have hK5:=hK4.adds A5
      have hfo5:=(A5.obj fo (by omega)).trans hfo4
      have hn5:=A5.no
      have hG5 : GrowR σ x 1 τ5 lv (done.flatten.map (.int .i64)):=by
       have h1 : GrowR σ x 1 τ2 lv (done.flatten.map (.int .i64)):=hG.keep hk2.r
       have h2 : GrowR σ x 1 τ3 lv (done.flatten.map (.int .i64)):=by
        rw [← hτ3]
        rcases h1 with h | ⟨g,q1,q2,q3,q4,q5⟩
        ·exact .inl h
        ·refine .inr ⟨g,q1,q2,q3,q4,fun ⟨cs',v,u1,u2,u3⟩=>q5 ?_⟩
         simp at u1
         subst u1
         exact ⟨_,_,ho2,u2,u3⟩
       exact (h2.keep hk4.r).keep (A5.keepR hr4.hx)
      have hmp : List.replicate k (AV.int .i64 (128 - (c.toNat : Int))) = (List.replicate k (128 - (c.toNat : Int))).map (.int .i64):=by simp
      have hdl : done.flatten.length ≤ 65536:=by omega
      simp [hfo5,hget,al5]
      rw [hmp]
      refine grow_Rs hG5 hr5 hK5.nf hbase (by rw [List.length_map,List.length_map,List.length_replicate]; omega) fun v' τ6 e1 e2' e3 e4 e5=>?_
      have hv1:=e1.one
      have hfo6 : τ6.objs fo = some C:=(congrFun e3 fo).trans hfo5
      simp [a1,a9,hfo6,hv1,w1,hCl]
      refine ⟨by omega,⟨i + 1,done ++ [List.replicate k (128 - (c.toNat : Int))],s4,v',by omega,?_,?_,?_,?_,?_,by simp [a0],by simp [a1],by simp [a8],by simp,?_,?_,?_,?_,?_⟩,?_⟩
      ·rw [he,repP_step (s':=s4) (a:=List.replicate k (128 - (c.toNat : Int))) (by omega) (by rw [hgr]; unfold typeP; rw [q4]; simp)]
       have : N.toNat - i - 1 = N.toNat - (i + 1):=by omega
       rw [this]
       cases repP (groupP false) (N.toNat - (i + 1)) s4 with
       | none=>rfl
       | some p=>simp
      ·rw [List.flatten_append,List.length_append,z3,e2,hsn]
       simp
       omega
      ·rw [z1] at hsl2
       simp only [List.length_cons] at hsl2
       omega
      ·omega
      ·rw [z2,e1',hsl]
      ·simp [hset]
      ·have e7 : (done ++ [List.replicate k (128 - (c.toNat : Int))]).flatten.map (AV.int .i64) = done.flatten.map (.int .i64) ++ (List.replicate k (128 - (c.toNat : Int))).map (.int .i64):=by simp
       rw [e7]
       exact e1.setO hfx
      ·exact e2'.setO hfx
      ·exact (e5 fo hK5).setO (.inr (.inl rfl))
      ·simp; omega
      ·simp only [MU,a9]; simp; omega
    ·have hg:=gno _ (fun h=>hm1 h.2) rfl
     simp [a0,a1,hm0,ho2,w6,hm1]
     refine must_calls (fun q=>by cases q) (fun _=>?_)
     simp
     exact hNA hr2 hK2 (by rw [he,repP_none (by omega) hg]; rfl) _ _ (.inr (.inr rfl)) (.refl ..)
   ·have hg:=gno _ (fun h=>hm0 h.1) rfl
    simp [a0,a1,hm0]
    refine must_calls (fun q=>by cases q) (fun _=>?_)
    simp
    exact hNA hr2 hK2 (by rw [he,repP_none (by omega) hg]; rfl) _ _ (.inr (.inr rfl)) (.refl ..)
 ·simp [pc61_l1,a8,a9,hlt]
  have hz : N.toNat - i = 0:=by omega
  rw [hz] at he
  simp only [repP,Option.map_some,List.append_nil] at he
  exact fin _ _ he _ _ lv (by simpa using a0) (by simpa using a1) hfo hG hR hK hfn hsb hsl
theorem Rdr.mrgP {base β x s τ} (h : Rdr base β x s τ) {g : Nat} {p : Nat → Bool} (hp : p x = false) (hg : base ≤ g) (hu : ¬ UsesR τ x g) : Rdr base β x s (τ.mrg g p) := by
 obtain ⟨bv,lv,ho,hv,hl⟩:=h.cells
 have hb:=h.hb
 refine ⟨h.hx,hb,?_,fun f hf=>?_,bv,lv,by simpa [AS.mrg,hp] using ho,hv,?_⟩
 ·have : ¬ 0 = g:=by omega
  simp [AS.mrg,mrgF,this,h.h0]
 ·obtain ⟨h1,h2⟩:=h.hβ f hf
  have : ¬ f = g:=by omega
  exact ⟨h1,by simp [AS.mrg,mrgF,this,h2]⟩
 ·rcases hl with h1 | ⟨f,tos,h1,h2,h3,h4,h5⟩
  ·exact .inl h1
  ·have : ¬ f = g:=fun e=>hu ⟨_,_,ho,rfl,by rw [h1,← e]; rfl⟩
   exact .inr ⟨f,tos,h1,h2,h3,by simp [AS.mrg,mrgF,this,h4],h5⟩
theorem KeepF.mrg {x fo σ τ} (K : KeepF x fo σ τ) {g : Nat} (hg : σ.nf ≤ g) : KeepF x fo σ (τ.mrg g fun o => o == fo) where
 no:=K.no
 nf:=K.nf
 obj o a b c:=by
  have : ¬ o = fo:=c
  simpa [AS.mrg,this] using K.obj o a b c
 fam f a:=by
  have : ¬ f = g:=by omega
  simp [AS.mrg,mrgF,this]
  exact K.fam f a
theorem map_splice (f : AV → AV) (cs : List AV) (i : Nat) (v : AV) : (splice cs i [v]).map f = splice (cs.map f) i [f v] := by
 simp [splice]
theorem function_calls (V : VarsB G) {base β x s fo off cs f σ0} (h : Rdr base β x s σ) (hfx : fo ≠ x) (hfn : fo < σ.no) (ho : σ.objs fo = some cs) (hc2 : cs[off + 2]? = some .nilsl) (hlen : off + 5 ≤ cs.length) (hfl : f.locals = []) (hsz : s.b.length ≤ 2 ^ 37) (hs65 : s.n ≤ 65536) (hmr : ∀ g,σ.nf ≤ g → cs.map (Go.Abs.mrg g) = cs)
  (hA : Adds σ0 σ) (hx0 : σ0.no ≤ x) (hf0 : σ0.no ≤ fo) (hb0 : σ0.nf ≤ base) (hn : functionP false f s = none → NoneA R σ0)
  (hs : ∀ f' s',functionP false f s = some (f',s') → ∀ σ' lv tv g,Al.IntsE lv f'.locals → Al.LstE g tv f'.lists → (f'.lists ≠ [] → σ.nf ≤ g ∧ g < σ'.nf ∧ σ'.F g = .alive) → Rdr base β x s' σ' → KeepF x fo σ σ' → σ'.objs fo = some (splice (splice cs (off + 2) [lv]) (off + 4) [tv]) → R (.ret (.tuple [])) σ') : ACalls Tryz.prog G 61 [.ptr x 0,.ptr fo off] σ R:=by
 have hnM : NoneA R σ0 → NoneA (Al.MrgOr R) σ0:=fun q e σ' a b=>.inl (q e σ' a b)
 refine Al.merging (calls61 rfl ?_)
 have hbase:=h.hb.2
 simp [pc61]
 refine number_callsS h (fun q=>noneR_of (hnM (hn (by unfold functionP; rw [q]; rfl))) hA hx0 hb0 h) (fun m1 s1 q1 σ1 hr1 hk1=>?_)
 have K1 : KeepF x fo σ σ1:=hk1.f
 simp
 refine number_callsS hr1 (fun q=>noneR_of (hnM (hn (by unfold functionP; rw [q1]; simp only [Option.bind_some]; rw [q]; rfl))) (K1.adds0 hA hx0 hf0) hx0 hb0 hr1) (fun N s2 q2 σ2 hr2 hk2=>?_)
 have K2 : KeepF x fo σ σ2:=K1.trans hk2.f
 obtain ⟨⟨xx,_,hxx⟩,z1,z2,_⟩:=numP_some q1
 obtain ⟨⟨yy,_,hyy⟩,z3,z4,n1,n2,_⟩:=numP_some q2
 have l1:=sub_len hxx
 have l2:=sub_len hyy
 have hfn1:=hk1.no
 have hfn2:=hk2.no
 have ho2 : σ2.objs fo = some cs:=(hk2.obj fo (by omega) hfx).trans ((hk1.obj fo hfn hfx).trans ho)
 have A2:=K2.adds0 hA hx0 hf0
 have hfp : functionP false f s = (repP (groupP false) N.toNat s2).bind fun l=>(listP false (l.2.b.length + 1) 0 [] { l.2 with ls:=[] }).map fun r=>({ f with locals:=f.locals ++ l.1.flatten,lists:=r.2.ls },r.2):=by
  unfold functionP
  rw [q1]
  simp only [Option.bind_some]
  rw [q2]
  rfl
 have hcs0 : splice cs (off + 2) [.nilsl] = cs:=by
  rw [splice_set (by omega)]
  apply List.ext_getElem?
  intro j
  by_cases hj : j = off + 2
  ·subst hj
   rw [List.getElem?_set_self (by omega),hc2]
  ·rw [List.getElem?_set_ne (by omega)]
 simp
 refine aloop (GpR base β x fo off cs N s2 σ2) (MU 9 (N.toNat + 1)) ⟨0,[],s2,.nilsl,by omega,by cases hh : repP (groupP false) N.toNat s2 <;> simp [hh],by simp,Nat.le_refl _,by omega,rfl,by simp,by simp,by simp,by simp,by rw [hcs0]; exact ho2,.inl ⟨rfl,rfl⟩,hr2,.refl ..,by omega⟩ fun a τ hI=>?_
 refine group_body n2 hr2.hb.2 hfx hlen A2 hx0 hf0 hb0 (fun q=>hnM (hn (by rw [hfp,q]; rfl))) (fun l s3 q3 a τ lv a0 a1 hfo hG hR hK hfn3 hl3 hls3=>?_) hI
 rw [q3] at hfp
 simp only [Option.bind_some] at hfp
 have K3:=K2.trans hK
 obtain ⟨bv,lsv,hox,hbv,hlv⟩:=hR.cells
 have b1:=hbv.one
 have hfx' : ¬ fo = x:=hfx
 have hxf' : ¬ x = fo:=fun e=>hfx e.symm
 simp [pc61_r1,a0,a1,hox,splice]
 have hr4 : Rdr base β x { s3 with ls:=[] } (τ.setO x [bv,.nilsl,.int .i64 (s3.n : Int)]):=hR.set (s':={ s3 with ls:=[] }) hbv (.inl ⟨rfl,rfl⟩)
 have K4 : KeepF x fo σ (τ.setO x [bv,.nilsl,.int .i64 (s3.n : Int)]):=K3.setO (.inl rfl)
 have nou : ∀ g,¬ UsesR (τ.setO x [bv,.nilsl,.int .i64 (s3.n : Int)]) x g:=fun g ⟨cs',v,u1,u2,u3⟩=>by
  simp at u1
  subst u1
  simp at u2
  subst u2
  cases u3
 have hfo4 : (τ.setO x [bv,.nilsl,.int .i64 (s3.n : Int)]).objs fo = some (splice cs (off + 2) [lv]):=by simp [hfx',hfo]
 have hG4 : GrowR σ2 x 1 (τ.setO x [bv,.nilsl,.int .i64 (s3.n : Int)]) lv (l.flatten.map (.int .i64)):=by
  rcases hG with h | ⟨g,h1,h2,h3,h4,h5⟩
  ·exact .inl h
  ·exact .inr ⟨g,h1,h2,h3,h4,nou g⟩
 have hn4 : (τ.setO x [bv,.nilsl,.int .i64 (s3.n : Int)]).no = τ.no:=by simp
 have hnf4 : (τ.setO x [bv,.nilsl,.int .i64 (s3.n : Int)]).nf = τ.nf:=by simp
 generalize τ.setO x [bv,.nilsl,.int .i64 (s3.n : Int)] = τ4 at *
 refine list_okR V (s3.b.length + 1) (s3.b.length + 1) (Nat.le_refl _) τ4 _ { s3 with ls:=[] } 0 hr4 (by simp) (by simp; omega) (by omega) (fun q4=>noneR_of (hnM (hn (by rw [hfp,q4]; rfl))) (K4.adds0 hA hx0 hf0) hx0 hb0 hr4) (fun n e s5 q5 τ5 hr5 hk5=>?_)
 rw [q5] at hfp
 simp only [Option.map_some] at hfp
 have K5 : KeepF x fo σ τ5:=K4.trans ⟨hk5.no,hk5.nf,fun o a b _=>hk5.obj o a b,fun f a=>hk5.fam f a (nou f)⟩
 have hn5:=hk5.no
 have hfo5:=(hk5.obj fo (by omega) hfx).trans hfo4
 obtain ⟨bv5,tv,hox5,hbv5,htv⟩:=hr5.cells
 have t1:=htv.one
 have hG5:=hG4.keep hk5
 have hLst : ∃ g,Al.LstE g tv s5.ls ∧ (s5.ls ≠ [] → τ4.nf ≤ g ∧ g < τ5.nf ∧ τ5.F g = .alive ∧ UsesR τ5 x g):=by
  rcases htv with ⟨h1,h2⟩ | ⟨g,tos,h1,h2,h3,h4,h5⟩
  ·exact ⟨0,.inl ⟨h1,h2⟩,fun q=>absurd h1 q⟩
  ·have hu : UsesR τ5 x g:=⟨_,_,hox5,rfl,by rw [h1]; rfl⟩
   refine ⟨g,.inr ⟨tos,h1,h5⟩,fun _=>⟨?_,h3,h4,hu⟩⟩
   by_cases hlt : g < τ4.nf
   ·exact absurd (hk5.use g hlt hu) (nou g)
   ·omega
 obtain ⟨g,hL,hLg⟩:=hLst
 have hsl : (splice cs (off + 2) [lv]).length = cs.length:=splice_len (by omega)
 have fin : ∀ (τ6 : AS) (lv' : AV),Al.IntsE lv' (f.locals ++ l.flatten) → Rdr base β x s5 τ6 → KeepF x fo σ τ6 → τ6.objs fo = some (splice (splice cs (off + 2) [lv']) (off + 4) [tv]) → (s5.ls ≠ [] → σ.nf ≤ g ∧ g < τ6.nf ∧ τ6.F g = .alive) → R (.ret (.tuple [])) τ6:=fun τ6 lv' e1 e2 e3 e4 e5 =>
  hs _ _ hfp τ6 lv' tv g e1 hL e5 e2 e3 e4
 simp [a0,a1,hox5,t1,hfo5]
 refine ⟨by rw [hsl]; omega,?_⟩
 have hr6:=hr5.setO (o:=fo) (cs:=splice (splice cs (off + 2) [lv]) (off + 4) [tv]) hfx
 have K6:=K5.setO (o:=fo) (cs:=splice (splice cs (off + 2) [lv]) (off + 4) [tv]) (.inr (.inl rfl))
 have hnfs : σ.nf ≤ σ2.nf:=K2.nf
 rcases hG5 with ⟨e1,rfl⟩ | ⟨gl,rfl,e2,e3,e4,e5⟩
 ·have hl0 : l.flatten = []:=by simpa using e1
  refine .inl (fin _ .nilsl (.inl ⟨by rw [hl0,hfl]; rfl,.inl rfl⟩) hr6 K6 (by simp) fun q=>?_)
  obtain ⟨u1,u2,u3,_⟩:=hLg q
  have:=K4.nf
  exact ⟨by omega,by simpa using u2,by simpa using u3⟩
 ·have hne : s5.ls ≠ [] → ¬ g = gl:=fun q e=>by
   subst e
   exact e5 (hLg q).2.2.2
  have hnu6 : ¬ UsesR (τ5.setO fo (splice (splice cs (off + 2) [AV.sl (.fam gl false) 1 (l.flatten.map (.int .i64))]) (off + 4) [tv])) x gl :=
   fun ⟨cs',v,u1,u2,u3⟩=>e5 ⟨cs',v,by simpa [hxf'] using u1,u2,u3⟩
  have hne5 : s5.ls ≠ []:=fun q=>by
   obtain ⟨_,y1,y2,_⟩:=listP_ls _ _ _ _ _ _ _ _ q5
   rw [q] at y1
   simp at y1 y2
   omega
  have htvm : Go.Abs.mrg gl tv = tv:=by
   rcases hL with ⟨_,rfl⟩ | ⟨tos,rfl,ht⟩
   ·simp
   ·rw [mrg_sl_fam,Al.mrg_rows ht]
    rw [if_neg (hne hne5)]
  refine Al.MrgOr.merged gl (fun o=>o == fo) (by simp; omega) (by simpa using e4) ?_
  have hmm : Go.Abs.mrg gl (.tuple []) = .tuple []:=by simp
  rw [hmm]
  refine fin _ (.sl (.fam 0 false) 1 (l.flatten.map (.int .i64))) (.inr ⟨false,by rw [hfl]; rfl⟩) (hr6.mrgP (by simpa using hxf') (by omega) hnu6) (K6.mrg (by omega)) ?_ fun q=>?_
  ·simp [AS.mrg,map_splice,hmr gl (by omega),htvm,Function.comp_def]
  ·obtain ⟨u1,u2,u3,_⟩:=hLg q
   have:=K4.nf
   have:=hne q
   exact ⟨by omega,by simpa [AS.mrg] using u2,by simpa [AS.mrg,mrgF,this] using u3⟩
end
end Go.Proofs.YthejpoplbllcbaaGreatDoor
set_option linter.unusedSimpArgs false
set_option linter.unusedVariables false
namespace Go.Proofs.YthejpoplbllcbaaGreatDoor
open Go Go.Abs
def HV (v : AV) (f : F) : Prop := ∃ pv,v = .agg [.str [],pv,.nilsl,.int .i64 f.type,.nilsl] ∧ Al.IntsE pv f.params ∧ f.name = [] ∧ f.locals = [] ∧ f.lists = []
theorem typesP_len {st : Bool} {s s' : Rs} {l : List Int} (h : typesP st s = some (l,s')) : s'.b.length + l.length ≤ s.b.length := by
 unfold typesP at h
 simp only [Option.bind_eq_some_iff] at h
 obtain ⟨⟨n,s1⟩,h1,h2⟩:=h
 obtain ⟨⟨xx,_,hx⟩,_⟩:=numP_some h1
 have hl:=sub_len hx
 have key : ∀ {n : Nat} {s s' : Rs} {l : List Int},repP (typeP st) n s = some (l,s') → s'.b.length + l.length ≤ s.b.length:=by
  intro n
  induction n with
  | zero=>intro s s' l h; cases h; simp
  | succ n ih =>
   intro s s' l h
   rw [repP] at h
   simp only [Option.bind_eq_some_iff,Option.map_eq_some_iff] at h
   obtain ⟨⟨t,s1⟩,h1,⟨l',s2⟩,h2,h3⟩:=h
   cases h3
   have:=ih h2
   unfold typeP at h1
   simp only [Option.bind_eq_some_iff] at h1
   obtain ⟨⟨c,s3⟩,h4,h5⟩:=h1
   obtain ⟨b1,_,_⟩:=byteP_some h4
   have b2 : s.b.length = s3.b.length + 1:=by rw [b1]; rfl
   split at h5
   ·cases h5
   ·cases h5
    simp only [List.length_cons] at *
    omega
 have:=key h2
 simp only at *
 omega
theorem headP_len {st : Bool} {s s' : Rs} {f : F} (h : headP st s = some (f,s')) : s'.b.length + 1 + f.params.length ≤ s.b.length := by
 unfold headP at h
 simp only [Option.bind_eq_some_iff,Option.map_eq_some_iff] at h
 obtain ⟨⟨c,s1⟩,h1,⟨l,s2⟩,h2,⟨r,s3⟩,h3,h4⟩:=h
 cases h4
 obtain ⟨a0,a1,a2⟩:=byteP_some h1
 have b2 : s.b.length = s1.b.length + 1:=by rw [a0]; rfl
 have:=typesP_len h2
 have:=typesP_len h3
 simp only at *
 omega
section
variable {G : Env} {σ : AS} {R : Out → AS → Prop}
def HdI (base : Nat) (β : Option Nat) (x : Nat) (N : Int) (s1 : Rs) (σ : AS) (a : Nat → AV) (τ : AS) : Prop := ∃ (i : Nat) (done : List F) (rows : List AV) (s : Rs),(i : Int) ≤ max N 0 ∧ repP (headP false) N.toNat s1 = (repP (headP false) (N.toNat - i) s).map (fun q => (done ++ q.1,q.2)) ∧ s.b.length + done.length ≤ s1.b.length ∧ a 0 = .ptr x 0 ∧ a 8 = .int .i64 N ∧ a 9 = .int .i64 (i : Int) ∧ All2 HV rows done ∧ GrowR σ x 5 τ (a 2) rows ∧ Rdr base β x s τ ∧ KeepS x σ τ
theorem heads_loop {base β x} {N : Int} {s1 : Rs} (hN : N < 2 ^ 63) (hb1 : s1.b.length ≤ 2 ^ 37) (hbase : base ≤ σ.nf) (hnone : repP (headP false) N.toNat s1 = none → NoneR R x σ) (fin : ∀ l s',repP (headP false) N.toNat s1 = some (l,s') → ∀ a τ rows,All2 HV rows l → GrowR σ x 5 τ (a 2) rows → Rdr base β x s' τ → KeepS x σ τ → s'.b.length + l.length ≤ s1.b.length → avc Tryz.prog G 36 pc58_r1 (afin Tryz.prog [.tmp 2] R) a τ)
  {a : Nat → AV} {τ : AS} (hI : HdI base β x N s1 σ a τ) : avc Tryz.prog G 36 pc58_l1 (athen (fun a' σ'=>HdI base β x N s1 σ a' σ' ∧ MU 9 (N.toNat + 1) a' σ' < MU 9 (N.toNat + 1) a τ) (ablock 0 (athen (avc Tryz.prog G 36 pc58_r1 (afin Tryz.prog [.tmp 2] R)) (afin Tryz.prog [.tmp 2] R)))) a τ:=by
 obtain ⟨i,done,rows,s,hi,he,hlen,a0,a8,a9,hrows,hG,hR,hK⟩:=hI
 have g1:=hG.one
 have hx:=hR.hx
 by_cases hlt : (i : Int) < N
 ·have w1 : IntKind.wrap .i64 ((i : Int) + 1) = ((i + 1 : Nat) : Int):=by rw [wrap_i64] <;> omega
  have hnn : headP false s = none → NoneR R x σ:=fun q=>hnone (by rw [he,repP_none (by omega) q]; rfl)
  simp [pc58_l1,a0,a8,a9,hlt]
  refine take1_callsS hR (fun q=>NoneR.mono (hnn (by unfold headP; rw [q]; rfl)) hK.r) (fun c s2 q v τ2 hv hr2 hk2=>?_)
  obtain ⟨z1,z2,z3⟩:=byteP_some q
  have hsl : s.b.length = s2.b.length + 1:=by rw [z1]; rfl
  have K2:=hK.trans hk2
  simp [a0]
  refine typesRd_callsS hr2 (by omega) (fun q3=>NoneR.mono (hnn (by unfold headP; rw [q]; simp only [Option.bind_some]; rw [q3]; rfl)) K2.r) (fun ps s3 q3 pv τ3 hpv hr3 hk3=>?_)
  have hl3:=typesP_len q3
  have K3:=K2.trans hk3
  have p1:=hpv.one
  have hx3:=hr3.hx
  obtain ⟨bv3,lsv3,ho3,_⟩:=hr3.cells
  have A4 : Adds τ3 ((τ3.newO [.str [],.nilsl,.nilsl,.int .i64 0,.nilsl]).setO τ3.no [.str [],pv,.nilsl,.int .i64 0,.nilsl]):=.mk1
  have K4:=K3.trans (A4.keepS hx3 ho3)
  have hr4:=hr3.adds A4
  simp [a0,p1,splice]
  refine typesRd_callsS hr4 (by omega) (fun q5=>NoneR.mono (hnn (by unfold headP; rw [q]; simp only [Option.bind_some]; rw [q3]; simp only [Option.bind_some]; rw [q5]; rfl)) K4.r) (fun gs s5 q5 gv τ5 hgv hr5 hk5=>?_)
  have hl5:=typesP_len q5
  have K5:=K4.trans hk5
  have gv1:=hgv.one
  have gvo:=Al.ints_e (σ:=τ5) ⟨by have:=hr5.hb; omega,hr5.h0⟩ hgv
  have gvl:=gvo.len
  have hxo : ¬ x = τ3.no:=by omega
  have hxo' : ¬ τ3.no = x:=by omega
  have o5:=(hk5.obj τ3.no (by simp) hxo').trans (show _ = some [.str [],pv,.nilsl,.int .i64 0,.nilsl] by simp)
  have n5:=hk5.no
  simp at n5
  have hh : headP false s = some ({ name:=[],params:=ps,locals:=[],type:=gs.headD 0,lists:=[] },s5):=by
   unfold headP
   rw [q]
   simp only [Option.bind_some]
   rw [q3]
   simp only [Option.bind_some]
   rw [q5]
   rfl
  have hG5 : GrowR σ x 5 τ5 (a 2) rows:=((hG.keep hk2.r).keep hk3.r).keep ((A4.keepR hx3).trans hk5.r)
  have next : ∀ (a' : Nat → AV) (τ' : AS) rows',a' 0 = .ptr x 0 → a' 8 = .int .i64 N → a' 9 = .int .i64 ((i + 1 : Nat) : Int) → All2 HV rows' (done ++ [{ name:=[],params:=ps,locals:=[],type:=gs.headD 0,lists:=[] }]) → GrowR σ x 5 τ' (a' 2) rows' → Rdr base β x s5 τ' → KeepS x σ τ' → HdI base β x N s1 σ a' τ' ∧ MU 9 (N.toNat + 1) a' τ' < MU 9 (N.toNat + 1) a τ:=by
   intro a' τ' rows' e0 e8 e9 eR eG eD eK
   refine ⟨⟨i + 1,_,rows',s5,by omega,?_,by simp; omega,e0,e8,e9,eR,eG,eD,eK⟩,?_⟩
   ·rw [he,repP_step (s':=s5) (a:=_) (by omega) hh]
    have : N.toNat - i - 1 = N.toNat - (i + 1):=by omega
    rw [this]
    cases repP (headP false) (N.toNat - (i + 1)) s5 with
    | none=>rfl
    | some p=>simp
   ·simp only [MU,e9,a9]; omega
  have hrl:=hrows.length
  cases gs with
  | nil =>
   simp at gvl
   simp [gvl,o5,p1]
   refine grow_R (row:=.agg [.str [],pv,.nilsl,.int .i64 0,.nilsl]) hG5 hr5 K5.r hbase (by simp) (by rw [hrl]; omega) fun v' τ6 e1 e2 e3 e4 e5 e6=>?_
   simp [a9,w1]
   exact next _ _ _ (by simp [a0]) (by simp [a8]) (by simp) (hrows.append (.cons ⟨pv,rfl,hpv,rfl,rfl,rfl⟩ .nil)) (by simpa using e1) e2 (e6 K5)
  | cons t gs =>
   obtain ⟨φ,hrd,hix⟩:=gvo.at (i:=0) (by simp)
   have hrd:=hrd.read
   simp at gvl hix
   have hpos : (0 : Int) < (gs.length : Int) + 1:=by omega
   simp [gvl,hpos,hix,hrd,o5,p1,splice]
   have hr6:=hr5.setO (o:=τ3.no) (cs:=[.str [],pv,.nilsl,.int .i64 t,.nilsl]) hxo'
   have K6 : KeepS x σ (τ5.setO τ3.no [.str [],pv,.nilsl,.int .i64 t,.nilsl]):=by
    refine ⟨K5.no,K5.nf,fun o h1 h2=>?_,K5.fam,fun cs' h1=>?_,K5.some⟩
    ·have:=K3.no
     have : ¬ o = τ3.no:=by omega
     simp [this]
     exact K5.obj o h1 h2
    ·obtain ⟨c1,h2,h3⟩:=K5.lst cs' h1
     exact ⟨c1,by simp [hxo,h2],h3⟩
   refine grow_R (row:=.agg [.str [],pv,.nilsl,.int .i64 t,.nilsl]) (hG5.setO hxo') hr6 K6.r hbase (by simp) (by rw [hrl]; omega) fun v' τ6 e1 e2 e3 e4 e5 e6=>?_
   simp [a9,w1]
   exact next _ _ _ (by simp [a0]) (by simp [a8]) (by simp) (hrows.append (.cons ⟨pv,rfl,hpv,rfl,rfl,rfl⟩ .nil)) (by simpa using e1) e2 (e6 K6)
 ·simp [pc58_l1,a8,a9,hlt]
  have hz : N.toNat - i = 0:=by omega
  rw [hz] at he
  simp only [repP,Option.map_some,List.append_nil] at he
  exact fin _ _ he _ _ rows hrows (by simpa using hG) hR hK hlen
theorem all2_drop {α β : Type} {Q : α → β → Prop} : ∀ {xs : List α} {ys : List β} (n : Nat),All2 Q xs ys → All2 Q (xs.drop n) (ys.drop n)
 | _,_,0,h=>by simpa using h
 | _,_,n + 1,.nil=>by simpa using All2.nil
 | _,_,n + 1,.cons h r=>by simpa using all2_drop n r
theorem headsRd_calls {base β x s} (h : Rdr base β x s σ) (hb1 : s.b.length ≤ 2 ^ 37) (hn : headsP s = none → NoneR R x σ) (hs : ∀ l s',headsP s = some (l,s') → ∀ σ' rows g,All2 HV rows l → σ.nf ≤ g → g < σ'.nf → σ'.F g = .alive → ¬ UsesR σ' x g → Rdr base β x s' σ' → KeepS x σ σ' → s'.b.length + l.length ≤ s.b.length → R (.ret (.sl (.fam g false) 5 rows)) σ') : ACalls Tryz.prog G 58 [.ptr x 0] σ R := by
 refine calls58 rfl ?_
 simp [pc58]
 refine secRd_callsS (n:=1) h (fun q=>hn (by unfold headsP; rw [q]; rfl)) (fun s1 q1 σ1 hr1 hk1=>?_)
 have hsl1 : s1.b.length ≤ s.b.length:=by
  unfold sectionP at q1
  simp only [Option.bind_eq_some_iff] at q1
  obtain ⟨⟨c,s2⟩,h1,h2⟩:=q1
  obtain ⟨b1,_⟩:=byteP_some h1
  split at h2
  ·rw [Option.map_eq_some_iff] at h2
   obtain ⟨⟨m,s3⟩,h3,rfl⟩:=h2
   obtain ⟨⟨xx,_,hxx⟩,_⟩:=numP_some h3
   have:=sub_len hxx
   have : s.b.length = s2.b.length + 1:=by rw [b1]; rfl
   simp only at *
   omega
  ·cases h2
 simp
 refine number_callsS hr1 (fun q=>NoneR.mono (hn (by unfold headsP; rw [q1]; simp only [Option.bind_some]; rw [q]; rfl)) hk1.r) (fun N s2 q2 σ2 hr2 hk2=>?_)
 obtain ⟨⟨xx,_,hxx⟩,_,_,n1,n2,_⟩:=numP_some q2
 have hsl2:=sub_len hxx
 have K2:=hk1.trans hk2
 have hh : headsP s = (repP (headP false) N.toNat s2).bind fun q=>if 3 ≤ q.1.length then some (q.1.drop 3,q.2) else none:=by
  unfold headsP
  rw [q1]
  simp only [Option.bind_some]
  rw [q2]
  rfl
 obtain ⟨_,_,ho2,_⟩:=hr2.cells
 simp
 refine aloop (HdI base β x N s2 σ2) (MU 9 (N.toNat + 1)) ⟨0,[],[],s2,by omega,by cases hq : repP (headP false) N.toNat s2 <;> simp [hq],by simp,by simp,by simp,by simp,.nil,.inl ⟨rfl,by simp⟩,hr2,.refl ho2⟩ fun a τ hI=>?_
 refine heads_loop n2 (by omega) hr2.hb.2 (fun q=>NoneR.mono (hn (by rw [hh,q]; rfl)) K2.r) (fun l s' q a τ rows hrows hG hR hK hlen=>?_) hI
 rw [q] at hh
 simp only [Option.bind_some] at hh
 have hrl:=hrows.length
 have K3:=K2.trans hK
 by_cases h3 : 3 ≤ l.length
 ·rw [if_pos h3] at hh
  rcases hG with ⟨e1,_⟩ | ⟨g,e1,e2,e3,e4,e5⟩
  ·rw [e1] at hrl
   simp at hrl
   omega
  ·have h3' : (3 : Int) ≤ (l.length : Int):=by omega
   simp [pc58_r1,e1,hrl,h3']
   refine must_calls (fun _=>?_) (fun q=>by cases q)
   have hcut : cut (.fam g false) false = .fam g false:=rfl
   have htk : List.take l.length rows = rows:=List.take_of_length_le (by omega)
   simp [e1,hrl,htk]
   refine ⟨by omega,?_⟩
   have:=K2.nf
   exact hs _ _ hh _ _ g (all2_drop 3 hrows) (by omega) e3 e4 e5 hR K3 (by simp; omega)
 ·have h3' : ¬ (3 : Int) ≤ (l.length : Int):=by omega
  rw [if_neg h3] at hh
  have hln : ∀ K : AV → Prop,alen Tryz.prog 25 (a 2) K = K (.int .i64 (l.length : Int)):=fun K=>by
   rcases hG with ⟨e1,e2⟩ | ⟨g,e1,_⟩
   ·rw [e2,← hrl,e1]; simp
   ·rw [e1,← hrl]; simp
  simp [pc58_r1,hln,h3']
  refine must_calls (fun q=>by cases q) (fun _=>?_)
  simp
  exact hn hh _ _ (.inl rfl) K3.r
end
end Go.Proofs.YthejpoplbllcbaaGreatDoor
set_option linter.unusedSimpArgs false
set_option linter.unusedVariables false
namespace Go.Proofs.YthejpoplbllcbaaGreatDoor
open Go Go.Abs
structure Md (σ0 : AS) (base : Nat) (β : Option Nat) (x mo : Nat) (mc : List AV) (s : Rs) (τ : AS) : Prop where
 rd : Rdr base β x s τ
 ad : Adds σ0 τ
 ob : τ.objs mo = some mc
 lt : mo < τ.no
 mx : mo ≠ x
 x0 : σ0.no ≤ x
 m0 : σ0.no ≤ mo
 b0 : σ0.nf ≤ base
 len : s.b.length ≤ 2 ^ 37
theorem KeepS.adds0 {x σ0 σ σ'} (K : KeepS x σ σ') (A : Adds σ0 σ) (hx : σ0.no ≤ x) : Adds σ0 σ' := ⟨Nat.le_trans A.no K.no,Nat.le_trans A.nf K.nf,fun o ho => by
 have:=A.no
 rw [K.obj o (by omega) (by omega),A.obj o ho],fun f hf=>by
 have:=A.nf
 rw [K.fam f (by omega),A.fam f hf]⟩
theorem Md.keepS {σ0 base β x mo mc s s' τ τ'} (M : Md σ0 base β x mo mc s τ) (K : KeepS x τ τ') (h : Rdr base β x s' τ') (hl : s'.b.length ≤ s.b.length) : Md σ0 base β x mo mc s' τ' :=
 ⟨h,K.adds0 M.ad M.x0,(K.obj mo M.lt M.mx).trans M.ob,Nat.lt_of_lt_of_le M.lt K.no,M.mx,M.x0,M.m0,M.b0,by have:=M.len; omega⟩
theorem Md.none {σ0 base β x mo mc s τ} (M : Md σ0 base β x mo mc s τ) {R : Out → AS → Prop} (h : NoneA R σ0) : NoneR R x τ := noneR_of h M.ad M.x0 M.b0 M.rd
theorem Md.setM {σ0 base β x mo mc mc' s τ} (M : Md σ0 base β x mo mc s τ) : Md σ0 base β x mo mc' s (τ.setO mo mc') :=
 ⟨M.rd.setO M.mx,M.ad.setO M.m0,by simp,M.lt,M.mx,M.x0,M.m0,M.b0,M.len⟩
theorem skip_none {n : Int} {s : Rs} (h : takeP n s = none) : skipP n s = none := by unfold skipP; rw [h]; rfl
theorem skip_some {n : Int} {s s' : Rs} {p : List UInt8} (h : takeP n s = some (p,s')) : skipP n s = some s' := by unfold skipP; rw [h]; rfl
theorem take_len {n : Int} {s s' : Rs} {p : List UInt8} (h : takeP n s = some (p,s')) : s'.b.length ≤ s.b.length := sub_len (takeP_some h).1
theorem num_len {st sg : Bool} {n : Int} {s s' : Rs} (h : numP st sg s = some (n,s')) : s'.b.length ≤ s.b.length := by
 obtain ⟨⟨xx,_,hx⟩,_⟩:=numP_some h
 exact sub_len hx
theorem sec_lenP {n : UInt8} {s s' : Rs} (h : sectionP n s = some s') : s'.b.length ≤ s.b.length := by
 unfold sectionP at h
 simp only [Option.bind_eq_some_iff] at h
 obtain ⟨⟨c,s2⟩,h1,h2⟩:=h
 obtain ⟨b1,_⟩:=byteP_some h1
 have : s.b.length = s2.b.length + 1:=by rw [b1]; rfl
 split at h2
 ·rw [Option.map_eq_some_iff] at h2
  obtain ⟨⟨m,s3⟩,h3,rfl⟩:=h2
  have:=num_len h3
  simp only at *
  omega
 ·cases h2
structure Fn (x mo fo : Nat) (C : List AV) (τ : AS) : Prop where
 ob : τ.objs fo = some C
 lt : fo < τ.no
 fx : fo ≠ x
 fm : fo ≠ mo
theorem Fn.keepS {x mo fo C τ τ'} (h : Fn x mo fo C τ) (K : KeepS x τ τ') : Fn x mo fo C τ' := ⟨(K.obj fo h.lt h.fx).trans h.ob,Nat.lt_of_lt_of_le h.lt K.no,h.fx,h.fm⟩
theorem Fn.setM {x mo fo C τ cs} (h : Fn x mo fo C τ) : Fn x mo fo C (τ.setO mo cs) := ⟨by have : ¬ fo = mo := h.fm; simp [this,h.ob],h.lt,h.fx,h.fm⟩
def frontC (h : List F) (s : Rs) : Option ((List F × Int × Int) × Rs) := (sectionP 5 s).bind fun s => (skipP 3 s).bind fun s => (sectionP 6 s).bind fun s => (skipP 4 s).bind fun s =>
 (numP false true s).bind fun mem=>(skipP 1 mem.2).bind fun s=>(sectionP 7 s).bind fun s=>(skipP 7 s).bind fun s=>(numP false false s).map fun mn=>((h,mem.1,mn.1),mn.2)
def frontB (h : List F) (s : Rs) : Option ((List F × Int × Int) × Rs) := (sectionP 3 s).bind fun s => (numP false false s).bind fun p => (repP (numP false false) p.1.toNat p.2).bind fun r => frontC h r.2
theorem frontP_eq (s : Rs) : frontP s = (skipP 8 s).bind fun s => (headsP s).bind fun h => (sectionP 2 h.2).bind fun s => (skipP 1 s).bind fun s => (skipP 9 s).bind fun s => (skipP 10 s).bind fun s => (skipP 11 s).bind fun s => frontB h.1 s := rfl
def endM (p : (List F × Int × Int) × Rs) : Option (M × Rs) := (backP p.1.1 p.2).map fun q => ({ funcs := q.1,memory := p.1.2.1,main := IntKind.wrap .i64 (p.1.2.2 - 3) },q.2)
theorem moduleP_eq (s : Rs) : moduleP s = (frontP s).bind endM := rfl
def namesK (h : List F) (fs : List F) (s : Rs) : Option (List F × Rs) := (sectionP 0 s).bind fun s => (skipP 6 s).bind fun s => (numP false false s).bind fun x => (numP false false x.2).bind fun y =>
  if y.1 = h.length then namesP false fs y.2 else none
def backK (h : List F) (s : Rs) : Option (List F × Rs) := (functionsP false h s).bind fun fs => namesK h fs.1 fs.2
theorem backP_eq (h : List F) (s : Rs) : backP h s = (sectionP 10 s).bind fun s => (numP false false s).bind fun c => if c.1 = h.length then backK h c.2 else none := rfl
section
variable {G : Env} {σ : AS} {R : Out → AS → Prop}
def imK (h : List F) (i : Nat) (s : Rs) : Option ((List F × Int × Int) × Rs) := match i with
 | 0=>(skipP 9 s).bind fun s=>(skipP 10 s).bind fun s=>(skipP 11 s).bind fun s=>frontB h s
 | 1=>(skipP 10 s).bind fun s=>(skipP 11 s).bind fun s=>frontB h s
 | 2=>(skipP 11 s).bind fun s=>frontB h s
 | _=>frontB h s
def Im1 (σ0 : AS) (base : Nat) (β : Option Nat) (x mo fo : Nat) (mc C : List AV) (h : List F) (res : Option (M × Rs)) (n0 : Nat) (a : Nat → AV) (τ : AS) : Prop := ∃ (i : Nat) (s : Rs),i ≤ 3 ∧ a 0 = .ptr x 0 ∧ a 2 = .ptr mo 0 ∧ a 16 = .sl (.stat true) 1 (wordsI.map AV.str) ∧ a 17 = .int .i64 3 ∧ a 18 = .int .i64 (i : Int) ∧ Md σ0 base β x mo mc s τ ∧ Fn x mo fo C τ ∧ s.n = n0 ∧ res = (imK h i s).bind endM
theorem import1_body {σ0 base β x mo fo mc C} {h : List F} {res : Option (M × Rs)} {n0 : Nat} (hn : res = none → NoneA R σ0) (fin : ∀ s a τ,a 0 = .ptr x 0 → a 2 = .ptr mo 0 → Md σ0 base β x mo mc s τ → Fn x mo fo C τ → s.n = n0 → res = (frontB h s).bind endM → avc Tryz.prog G 114 pc29_r4 (afin Tryz.prog [.cell 2 27] R) a τ)
  {a : Nat → AV} {τ : AS} (hI : Im1 σ0 base β x mo fo mc C h res n0 a τ) : avc Tryz.prog G 114 pc29_l1 (athen (fun a' σ'=>Im1 σ0 base β x mo fo mc C h res n0 a' σ' ∧ MU 18 4 a' σ' < MU 18 4 a τ) (ablock 0 (athen (avc Tryz.prog G 114 pc29_r4 (afin Tryz.prog [.cell 2 27] R)) (afin Tryz.prog [.cell 2 27] R)))) a τ:=by
 obtain ⟨i,s,hi,a0,a2,a16,a17,a18,hM,hF,hs,he⟩:=hI
 by_cases hlt : i < 3
 ·have hlt' : (i : Int) < 3:=by omega
  have w1 : IntKind.wrap .i64 ((i : Int) + 1) = ((i + 1 : Nat) : Int):=by rw [wrap_i64] <;> omega
  obtain ⟨w,k,hw,hk1,hk2,hk3⟩ : ∃ (w : List UInt8) (k : Nat),wordsI[i]? = some w ∧ IntKind.wrap .i64 (IntKind.wrap .i64 (5 + (w.length : Int)) + 2) = (k : Int) ∧ (skipP (k : Int) s = none → imK h i s = none) ∧ (∀ s',skipP (k : Int) s = some s' → imK h i s = imK h (i + 1) s'):=by
   rcases i with _ | _ | _ | i
   ·exact ⟨[105,110],9,rfl,rfl,fun q=>by unfold imK; rw [show ((9 : Nat) : Int) = 9 from rfl] at q; rw [q]; rfl,fun s' q=>by rw [show ((9 : Nat) : Int) = 9 from rfl] at q; simp only [imK]; rw [q]; rfl⟩
   ·exact ⟨[111,117,116],10,rfl,rfl,fun q=>by unfold imK; rw [show ((10 : Nat) : Int) = 10 from rfl] at q; rw [q]; rfl,fun s' q=>by rw [show ((10 : Nat) : Int) = 10 from rfl] at q; simp only [imK]; rw [q]; rfl⟩
   ·exact ⟨[116,114,97,112],11,rfl,rfl,fun q=>by unfold imK; rw [show ((11 : Nat) : Int) = 11 from rfl] at q; rw [q]; rfl,fun s' q=>by rw [show ((11 : Nat) : Int) = 11 from rfl] at q; simp only [imK]; rw [q]; rfl⟩
   ·omega
  have hw2 : (wordsI.map AV.str)[i]? = some (.str w):=by simp [hw]
  simp [pc29_l1,a0,a16,a17,a18,hlt',hw2,hk1]
  refine take_callsS hM.rd (fun q=>hM.none (hn (by rw [he,hk2 (skip_none q)]; rfl))) (fun p s1 q v τ1 _ hr hk=>?_)
  have hM1:=hM.keepS hk hr (take_len q)
  simp [a18,w1]
  refine ⟨⟨i + 1,s1,by omega,by simp [a0],by simp [a2],by simp [a16],by simp [a17],by simp,hM1,hF.keepS hk,by rw [(takeP_some q).2.2,hs],by rw [he,hk3 s1 (skip_some q)]⟩,?_⟩
  simp only [MU,a18]; simp; omega
 ·have : i = 3:=by omega
  subst this
  simp [pc29_l1,a17,a18]
  exact fin s _ _ (by simpa using a0) (by simpa using a2) hM hF hs he
def Nm2 (σ0 : AS) (base : Nat) (β : Option Nat) (x mo fo : Nat) (mc C : List AV) (h : List F) (res : Option (M × Rs)) (n0 : Nat) (N : Int) (a : Nat → AV) (τ : AS) : Prop := ∃ (i : Nat) (s : Rs),(i : Int) ≤ max N 0 ∧ a 0 = .ptr x 0 ∧ a 2 = .ptr mo 0 ∧ a 32 = .int .i64 N ∧ a 33 = .int .i64 (i : Int) ∧ Md σ0 base β x mo mc s τ ∧ Fn x mo fo C τ ∧ s.n = n0 ∧ res = ((repP (numP false false) (N.toNat - i) s).bind fun r => frontC h r.2).bind endM
theorem number2_body {σ0 base β x mo fo mc C} {h : List F} {res : Option (M × Rs)} {n0 : Nat} {N : Int} (hN : N < 2 ^ 63) (hn : res = none → NoneA R σ0) (fin : ∀ s a τ,a 0 = .ptr x 0 → a 2 = .ptr mo 0 → Md σ0 base β x mo mc s τ → Fn x mo fo C τ → s.n = n0 → res = (frontC h s).bind endM → avc Tryz.prog G 114 pc29_r3 (afin Tryz.prog [.cell 2 27] R) a τ)
  {a : Nat → AV} {τ : AS} (hI : Nm2 σ0 base β x mo fo mc C h res n0 N a τ) : avc Tryz.prog G 114 pc29_l2 (athen (fun a' σ'=>Nm2 σ0 base β x mo fo mc C h res n0 N a' σ' ∧ MU 33 (N.toNat + 1) a' σ' < MU 33 (N.toNat + 1) a τ) (ablock 2 (athen (avc Tryz.prog G 114 pc29_r3 (afin Tryz.prog [.cell 2 27] R)) (afin Tryz.prog [.cell 2 27] R)))) a τ:=by
 obtain ⟨i,s,hi,a0,a2,a32,a33,hM,hF,hs,he⟩:=hI
 by_cases hlt : (i : Int) < N
 ·have w1 : IntKind.wrap .i64 ((i : Int) + 1) = ((i + 1 : Nat) : Int):=by rw [wrap_i64] <;> omega
  simp [pc29_l2,a0,a32,a33,hlt]
  refine number_callsS hM.rd (fun q=>hM.none (hn (by rw [he,repP_none (by omega) q]; rfl))) (fun n s1 q τ1 hr hk=>?_)
  have hM1:=hM.keepS hk hr (num_len q)
  simp [a33,w1]
  refine ⟨⟨i + 1,s1,by omega,by simp [a0],by simp [a2],by simp [a32],by simp,hM1,hF.keepS hk,by rw [(numP_some q).2.2.1,hs],?_⟩,?_⟩
  ·rw [he,repP_step (s':=s1) (a:=n) (by omega) q]
   have : N.toNat - i - 1 = N.toNat - (i + 1):=by omega
   rw [this]
   cases repP (numP false false) (N.toNat - (i + 1)) s1 with
   | none=>rfl
   | some p=>rfl
  ·simp only [MU,a33]; simp; omega
 ·simp [pc29_l2,a32,a33,hlt]
  have hz : N.toNat - i = 0:=by omega
  rw [hz] at he
  exact fin s _ _ (by simpa using a0) (by simpa using a2) hM hF hs he
end
end Go.Proofs.YthejpoplbllcbaaGreatDoor
set_option linter.unusedSimpArgs false
set_option linter.unusedVariables false
namespace Go.Proofs.YthejpoplbllcbaaGreatDoor
open Go Go.Abs
theorem flat_cons5 (c0 c1 c2 c3 c4 : AV) (r : List AV) : flat (.agg [c0,c1,c2,c3,c4] :: r) = c0 :: c1 :: c2 :: c3 :: c4 :: flat r := by simp [flat]
theorem fve_cells {v p} (h : Al.FVE v p) : v.cells.length = 5 := by
 obtain ⟨pv,lv,tv,rfl,_⟩:=h
 rfl
theorem all2_len5 {α : Type} {Q : AV → α → Prop} (hq : ∀ v a,Q v a → v.cells.length = 5) : ∀ {rows : List AV} {l : List α},All2 Q rows l → ∀ x ∈ rows,x.cells.length = 5
 | _,_,.nil,x,h=>by cases h
 | _,_,.cons h r,x,hx=>by
  rcases List.mem_cons.1 hx with rfl | hx
  ·exact hq _ _ h
  ·exact all2_len5 hq r x hx
theorem flat_len5 {rows : List AV} (h : ∀ x ∈ rows,x.cells.length = 5) : (flat rows).length = rows.length * 5 := flat_length 5 rows h
theorem set_mid {X : List AV} {c0 c1 c2 c3 c4 v w : AV} {Y : List AV} {off : Nat} (ho : off = X.length) : splice (splice (X ++ c0 :: c1 :: c2 :: c3 :: c4 :: Y) (off + 2) [v]) (off + 4) [w] = X ++ c0 :: c1 :: v :: c3 :: w :: Y := by
 subst ho
 rw [splice_set (by rw [splice_len (by simp)]; simp),splice_set (by simp)]
 rw [List.set_append_right _ _ (by omega),List.set_append_right _ _ (by simp)]
 simp
theorem intsE_mrg {v : AV} {l : List Int} (h : Al.IntsE v l) (g : Nat) : Go.Abs.mrg g v = v := by
 rcases h with ⟨_,rfl | ⟨b,rfl⟩⟩ | ⟨b,rfl⟩
 ·simp
 ·simp
 ·rw [mrg_sl_fam]
  have : (l.map (AV.int .i64)).map (Go.Abs.mrg g) = l.map (AV.int .i64):=by simp [Function.comp_def]
  rw [this]
  split <;> rfl
theorem lstE_mrg {v : AV} {k g : Nat} {l : To} (h : Al.LstE k v l) (hg : k ≠ g) : Go.Abs.mrg g v = v := by
 rcases h with ⟨_,rfl⟩ | ⟨tos,rfl,ht⟩
 ·simp
 ·rw [mrg_sl_fam,Al.mrg_rows ht]
  rw [if_neg hg]
theorem fve_mrg {v p} (h : Al.FVE v p) {g : Nat} (hg : p.2 ≠ g) : v.cells.map (Go.Abs.mrg g) = v.cells := by
 obtain ⟨pv,lv,tv,rfl,h1,h2,h3⟩:=h
 simp [intsE_mrg h1,intsE_mrg h2,lstE_mrg h3 hg]
theorem hv_mrg {v f} (h : HV v f) (g : Nat) : v.cells.map (Go.Abs.mrg g) = v.cells := by
 obtain ⟨pv,rfl,h1,_⟩:=h
 simp [intsE_mrg h1]
theorem flat_mrg5 {α : Type} {Q : AV → α → Prop} {g : Nat} : ∀ {rows : List AV} {l : List α},All2 Q rows l → (∀ v a,a ∈ l → Q v a → v.cells.map (Go.Abs.mrg g) = v.cells) → (flat rows).map (Go.Abs.mrg g) = flat rows
 | _,_,.nil,_=>rfl
 | _,_,.cons (x:=x) (xs:=xs) h r,hq=>by
  have ih:=flat_mrg5 r fun v a ha=>hq v a (by simp [ha])
  simp only [flat,List.flatMap_cons,List.map_append] at *
  rw [ih,hq x _ (by simp) h]
theorem groups_len {st : Bool} : ∀ {n : Nat} {s s' : Rs} {l : List (List Int)},repP (groupP st) n s = some (l,s') → s'.b.length ≤ s.b.length
 | 0,s,s',l,h=>by cases h; exact Nat.le_refl _
 | n + 1,s,s',l,h=>by
  rw [repP] at h
  simp only [Option.bind_eq_some_iff,Option.map_eq_some_iff] at h
  obtain ⟨⟨g,s1⟩,h1,⟨l',s2⟩,h2,h3⟩:=h
  cases h3
  have:=groups_len h2
  unfold groupP at h1
  simp only [Option.bind_eq_some_iff] at h1
  obtain ⟨⟨m,s3⟩,h4,h5⟩:=h1
  have h6:=num_len h4
  split at h5
  ·rw [Option.map_eq_some_iff] at h5
   obtain ⟨⟨t,s4⟩,h6',h7⟩:=h5
   simp only [Prod.mk.injEq] at h7
   obtain ⟨_,rfl⟩:=h7
   unfold typeP at h6'
   simp only [Option.bind_eq_some_iff] at h6'
   obtain ⟨⟨c,s5⟩,h8,h9⟩:=h6'
   obtain ⟨b1,_,_⟩:=byteP_some h8
   simp only at b1
   have : s3.b.length = s5.b.length + 1:=by rw [b1]; rfl
   split at h9
   ·cases h9
   ·cases h9
    simp only at *
    omega
  ·cases h5
theorem functionP_len {st : Bool} {f f' : F} {s s' : Rs} (h : functionP st f s = some (f',s')) : s'.b.length ≤ s.b.length := by
 unfold functionP at h
 simp only [Option.bind_eq_some_iff,Option.map_eq_some_iff] at h
 obtain ⟨⟨n1,s1⟩,h1,⟨n2,s2⟩,h2,⟨gs,s3⟩,h3,⟨⟨n,e⟩,s4⟩,h4,h5⟩:=h
 simp only [Prod.mk.injEq] at h5
 obtain ⟨_,rfl⟩:=h5
 have:=num_len h1
 have:=num_len h2
 have:=groups_len h3
 obtain ⟨_,_,_,_,_,⟨xx,_,z⟩,_⟩:=listP_ls _ _ _ _ _ _ _ _ h4
 have:=sub_len z
 simp only at *
 omega
section
variable {G : Env} {σ : AS} {R : Out → AS → Prop}
structure FnL (σ0 : AS) (x mo fo : Nat) (h0 : List F) (dps : List (F × Nat)) (drows hrows : List AV) (τ : AS) : Prop where
 fn : Fn x mo fo (flat (drows ++ hrows)) τ
 f0 : σ0.no ≤ fo
 dl : dps.length ≤ h0.length
 dr : All2 Al.FVE drows dps
 hr : All2 HV hrows (h0.drop dps.length)
 nd : (dps.map Prod.snd).Nodup
 each : ∀ p ∈ dps,σ0.nf ≤ p.2 ∧ p.2 < τ.nf ∧ τ.F p.2 = .alive
 nm : ∀ p ∈ dps,p.1.name = []
def mcells (fo n : Nat) (mem mn : Int) : List AV := [.slm fo 0 5 n,.int .i64 mem,.int .i64 mn]
def FL3 (σ0 : AS) (base : Nat) (β : Option Nat) (x mo fo : Nat) (mem mn : Int) (h0 : List F) (res : Option (M × Rs)) (a : Nat → AV) (τ : AS) : Prop := ∃ (dps : List (F × Nat)) (drows hrows : List AV) (s : Rs),a 0 = .ptr x 0 ∧ a 2 = .ptr mo 0 ∧ a 70 = .int .i64 (h0.length : Int) ∧ a 71 = .int .i64 (dps.length : Int) ∧ Md σ0 base β x mo (mcells fo h0.length mem mn) s τ ∧ FnL σ0 x mo fo h0 dps drows hrows τ ∧ s.n ≤ 65536 ∧
 res = (((functionsP false (h0.drop dps.length) s).bind fun fs=>namesK h0 (dps.map Prod.fst ++ fs.1) fs.2).map fun q=>({ funcs:=q.1,memory:=mem,main:=mn },q.2))
theorem func3_body (V : VarsB G) {σ0 base β x mo fo mem mn} {h0 : List F} {res : Option (M × Rs)} (hn : res = none → NoneA R σ0) (hh : ∀ f ∈ h0,f.locals = [] ∧ f.name = [])
  (fin : ∀ dps drows s a τ,a 0 = .ptr x 0 → a 2 = .ptr mo 0 → Md σ0 base β x mo (mcells fo h0.length mem mn) s τ → FnL σ0 x mo fo h0 dps drows [] τ → dps.length = h0.length → res = ((namesK h0 (dps.map Prod.fst) s).map fun q=>({ funcs:=q.1,memory:=mem,main:=mn },q.2)) → avc Tryz.prog G 114 pc29_r2 (afin Tryz.prog [.cell 2 27] R) a τ)
  (hlen : h0.length ≤ 2 ^ 37) {a : Nat → AV} {τ : AS} (hI : FL3 σ0 base β x mo fo mem mn h0 res a τ) : avc Tryz.prog G 114 pc29_l3 (athen (fun a' σ'=>FL3 σ0 base β x mo fo mem mn h0 res a' σ' ∧ MU 71 (h0.length + 1) a' σ' < MU 71 (h0.length + 1) a τ) (ablock 4 (athen (avc Tryz.prog G 114 pc29_r2 (afin Tryz.prog [.cell 2 27] R)) (afin Tryz.prog [.cell 2 27] R)))) a τ:=by
 obtain ⟨dps,drows,hrows,s,a0,a2,a70,a71,hM,hF,hs65,he⟩:=hI
 have hdrl:=hF.dr.length
 have hmo:=hM.ob
 simp only [mcells] at hmo
 by_cases hlt : dps.length < h0.length
 ·have hlt' : (dps.length : Int) < (h0.length : Int):=by omega
  have w1 : IntKind.wrap .i64 ((dps.length : Int) + 1) = ((dps.length + 1 : Nat) : Int):=by rw [wrap_i64] <;> omega
  have hdr:=List.drop_eq_getElem_cons hlt
  have hhr:=hF.hr
  have hfh:=hh _ (List.getElem_mem hlt)
  rw [hdr] at hhr he
  generalize h0[dps.length] = f at *
  cases hhr with
  | cons hv hrest =>
  rename_i row hrows
  have hv':=hv
  obtain ⟨pv,rfl,hpv,e1,e2,e3⟩:=hv
  have hd5:=all2_len5 (fun v a h=>fve_cells h) hF.dr
  have hfl : (flat drows).length = dps.length * 5:=by rw [flat_len5 hd5,hdrl]
  have hC : flat (drows ++ .agg [.str [],pv,.nilsl,.int .i64 f.type,.nilsl] :: hrows) = flat drows ++ .str [] :: pv :: .nilsl :: .int .i64 f.type :: .nilsl :: flat hrows:=by
   rw [flat_append,flat_cons5]
  have hfn:=hF.fn
  simp [pc29_l3,a0,a2,a70,a71,hlt',hmo]
  refine function_calls V (cs:=flat (drows ++ .agg [.str [],pv,.nilsl,.int .i64 f.type,.nilsl] :: hrows)) (f:=f) (σ0:=σ0) hM.rd hfn.fx hfn.lt hfn.ob ?_ ?_ hfh.1 hM.len hs65 ?_ hM.ad hM.x0 hF.f0 hM.b0 ?_ ?_
  ·rw [hC,List.getElem?_append_right (by omega)]
   have : dps.length * 5 + 2 - (flat drows).length = 2:=by omega
   rw [this]
   rfl
  ·rw [hC]
   simp
   omega
  ·intro g hg
   rw [flat_append,List.map_append,flat_mrg5 hF.dr (fun v p hp h=>fve_mrg h (by have:=(hF.each p hp).2.1; omega)),flat_mrg5 (.cons hv' hrest) (fun v p _ h=>hv_mrg h g)]
  ·intro q
   exact hn (by rw [he,functionsP,q]; rfl)
  ·intro f' s' q τ1 lv tv g hlv htv hg hr hk ho
   obtain ⟨p1,p2,p3,p4⟩:=functionP_some q hfh.1
   have hne : f'.lists ≠ []:=by
    obtain ⟨st,k,s0,e,s1,k1,k2,k3⟩:=p1.2.2.1
    intro e0
    obtain ⟨_,y1,y2,_⟩:=listP_ls _ _ _ _ _ _ _ _ k1
    simp only [e0,List.length_nil] at y2
    omega
   obtain ⟨g1,g2,g3⟩:=hg hne
   have hnf:=hM.ad.nf
   rw [hC,set_mid (by omega)] at ho
   simp [a71,w1]
   refine ⟨⟨dps ++ [(f',g)],drows ++ [.agg [.str [],pv,lv,.int .i64 f.type,tv]],hrows,s',by simp [a0],by simp [a2],by simp [a70],by simp,?_,?_,p3 hs65,?_⟩,?_⟩
   ·have hmfo : mo ≠ fo:=fun e=>hfn.fm e.symm
    have hno:=hk.no
    have:=hM.lt
    exact ⟨hr,hk.adds0 hM.ad hM.x0 hF.f0,(hk.obj mo hM.lt hM.mx hmfo).trans hM.ob,by omega,hM.mx,hM.x0,hM.m0,hM.b0,by have:=functionP_len q; have:=hM.len; omega⟩
   ·have hno:=hk.no
    have:=hfn.lt
    refine ⟨⟨?_,by omega,hfn.fx,hfn.fm⟩,hF.f0,by simp; omega,hF.dr.append (.cons ⟨pv,lv,tv,?_,?_,hlv,htv⟩ .nil),by simpa using hrest,?_,fun p hp=>?_,fun p hp=>?_⟩
    ·rw [ho,List.append_assoc,List.singleton_append,flat_append,flat_cons5]
    ·rw [p4,hfh.2,p1.2.1]
    ·rw [p1.1]
     exact hpv
    ·rw [List.map_append,List.nodup_append]
     refine ⟨hF.nd,by simp,fun y hy z hz e=>?_⟩
     obtain ⟨p,hp,rfl⟩:=List.mem_map.1 hy
     have:=(hF.each p hp).2.1
     simp at hz
     omega
    ·rcases List.mem_append.1 hp with hp | hp
     ·obtain ⟨u1,u2,u3⟩:=hF.each p hp
      have:=hk.nf
      exact ⟨u1,by omega,(hk.fam _ u2).trans u3⟩
     ·simp only [List.mem_singleton] at hp
      subst hp
      exact ⟨by simp only; omega,g2,g3⟩
    ·rcases List.mem_append.1 hp with hp | hp
     ·exact hF.nm p hp
     ·simp only [List.mem_singleton] at hp
      subst hp
      exact p4.trans hfh.2
   ·rw [he,functionsP,q]
    simp only [Option.bind_some,List.length_append,List.length_cons,List.length_nil,Nat.zero_add]
    cases functionsP false (h0.drop (dps.length + 1)) s' with
    | none=>rfl
    | some r=>simp
   ·simp only [MU,a71]; simp; omega
 ·have hdl:=hF.dl
  have hde : dps.length = h0.length:=by omega
  have hhr:=hF.hr
  rw [hde,List.drop_length] at hhr he
  cases hhr
  simp [pc29_l3,a70,a71,hde]
  exact fin dps drows s _ _ (by simpa using a0) (by simpa using a2) hM hF hde (by rw [he]; simp [functionsP])
end
end Go.Proofs.YthejpoplbllcbaaGreatDoor
set_option linter.unusedSimpArgs false
set_option linter.unusedVariables false
namespace Go.Proofs.YthejpoplbllcbaaGreatDoor
open Go Go.Abs
theorem set_first {X : List AV} {c v : AV} {Y : List AV} {off : Nat} (ho : off = X.length) : splice (X ++ c :: Y) off [v] = X ++ v :: Y := by
 subst ho
 rw [splice_set (by simp),List.set_append_right _ _ (by omega)]
 simp
structure FnN (σ0 : AS) (x mo fo : Nat) (dps rps : List (F × Nat)) (drows rrows : List AV) (τ : AS) : Prop where
 fn : Fn x mo fo (flat (drows ++ rrows)) τ
 f0 : σ0.no ≤ fo
 dr : All2 Al.FVE drows dps
 rr : All2 Al.FVE rrows rps
 nd : ((dps ++ rps).map Prod.snd).Nodup
 each : ∀ p ∈ dps ++ rps,σ0.nf ≤ p.2 ∧ p.2 < τ.nf ∧ τ.F p.2 = .alive
theorem FnN.keepS {σ0 x mo fo dps rps drows rrows τ τ'} (h : FnN σ0 x mo fo dps rps drows rrows τ) (K : KeepS x τ τ') : FnN σ0 x mo fo dps rps drows rrows τ' :=
 ⟨h.fn.keepS K,h.f0,h.dr,h.rr,h.nd,fun p hp=>by
  obtain ⟨a,b,c⟩:=h.each p hp
  exact ⟨a,Nat.lt_of_lt_of_le b K.nf,(K.fam _ b).trans c⟩⟩
section
variable {G : Env} {σ : AS} {R : Out → AS → Prop}
def NL4 (σ0 : AS) (base : Nat) (β : Option Nat) (x mo fo n : Nat) (mem mn : Int) (res : Option (M × Rs)) (a : Nat → AV) (τ : AS) : Prop := ∃ (dps rps : List (F × Nat)) (drows rrows : List AV) (s : Rs),a 0 = .ptr x 0 ∧ a 2 = .ptr mo 0 ∧ a 96 = .int .i64 (n : Int) ∧ a 97 = .int .i64 (dps.length : Int) ∧ dps.length + rps.length = n ∧ Md σ0 base β x mo (mcells fo n mem mn) s τ ∧ FnN σ0 x mo fo dps rps drows rrows τ ∧
 res = ((namesP false (rps.map Prod.fst) s).map fun q=>({ funcs:=dps.map Prod.fst ++ q.1,memory:=mem,main:=mn },q.2))
theorem name4_body {σ0 base β x mo fo n mem mn} {res : Option (M × Rs)} (hn : res = none → NoneA R σ0) (hnn : n ≤ 2 ^ 37)
  (fin : ∀ dps drows s a τ,a 0 = .ptr x 0 → a 2 = .ptr mo 0 → Md σ0 base β x mo (mcells fo n mem mn) s τ → FnN σ0 x mo fo dps [] drows [] τ → dps.length = n → res = some ({ funcs:=dps.map Prod.fst,memory:=mem,main:=mn },s) → avc Tryz.prog G 114 pc29_r1 (afin Tryz.prog [.cell 2 27] R) a τ)
  {a : Nat → AV} {τ : AS} (hI : NL4 σ0 base β x mo fo n mem mn res a τ) : avc Tryz.prog G 114 pc29_l4 (athen (fun a' σ'=>NL4 σ0 base β x mo fo n mem mn res a' σ' ∧ MU 97 (n + 1) a' σ' < MU 97 (n + 1) a τ) (ablock 6 (athen (avc Tryz.prog G 114 pc29_r1 (afin Tryz.prog [.cell 2 27] R)) (afin Tryz.prog [.cell 2 27] R)))) a τ:=by
 obtain ⟨dps,rps,drows,rrows,s,a0,a2,a96,a97,hnl,hM,hF,he⟩:=hI
 have hdrl:=hF.dr.length
 have hmo:=hM.ob
 simp only [mcells] at hmo
 cases rps with
 | cons p rps =>
  simp only [List.length_cons] at hnl
  have hlt' : (dps.length : Int) < (n : Int):=by omega
  have w1 : IntKind.wrap .i64 ((dps.length : Int) + 1) = ((dps.length + 1 : Nat) : Int):=by rw [wrap_i64] <;> omega
  have hrr:=hF.rr
  cases hrr with
  | cons hv hrest =>
  rename_i row rrows
  obtain ⟨pv,lv,tv,rfl,hpv,hlv,htv⟩:=hv
  have hd5:=all2_len5 (fun v a h=>fve_cells h) hF.dr
  have hfl : (flat drows).length = dps.length * 5:=by rw [flat_len5 hd5,hdrl]
  have hC : flat (drows ++ .agg [.str p.1.name,pv,lv,.int .i64 p.1.type,tv] :: rrows) = flat drows ++ .str p.1.name :: pv :: lv :: .int .i64 p.1.type :: tv :: flat rrows:=by
   rw [flat_append,flat_cons5]
  simp only [List.map_cons] at he
  rw [namesP] at he
  simp [pc29_l4,a0,a2,a96,a97,hlt',hmo]
  refine number_callsS hM.rd (fun q=>hM.none (hn (by rw [he,q]; rfl))) (fun k1 s1 q1 τ1 hr1 hk1=>?_)
  rw [q1] at he
  simp only [Option.bind_some] at he
  have hM1:=hM.keepS hk1 hr1 (num_len q1)
  have hF1:=hF.keepS hk1
  have hmo1:=hM1.ob
  simp only [mcells] at hmo1
  simp [a0,a2,hmo1]
  refine number_callsS hr1 (fun q=>hM1.none (hn (by rw [he,q]; rfl))) (fun k2 s2 q2 τ2 hr2 hk2=>?_)
  rw [q2] at he
  simp only [Option.bind_some] at he
  have hM2:=hM1.keepS hk2 hr2 (num_len q2)
  have hF2:=hF1.keepS hk2
  have hmo2:=hM2.ob
  simp only [mcells] at hmo2
  simp [a0,a2,hmo2]
  refine take_callsS hr2 (fun q=>hM2.none (hn (by rw [he,q]; rfl))) (fun bs s3 q3 v τ3 hv hr3 hk3=>?_)
  rw [q3] at he
  simp only [Option.bind_some] at he
  have hM3:=hM2.keepS hk3 hr3 (take_len q3)
  have hF3:=hF2.keepS hk3
  have hmo3:=hM3.ob
  simp only [mcells] at hmo3
  have hfn:=hF3.fn
  have hfo:=hfn.ob
  rw [hC] at hfo
  have hbound : dps.length * 5 + 1 ≤ (flat drows ++ .str p.1.name :: pv :: lv :: .int .i64 p.1.type :: tv :: flat rrows).length:=by simp; omega
  have hset:=set_first (X:=flat drows) (c:=.str p.1.name) (v:=.str bs) (Y:=pv :: lv :: .int .i64 p.1.type :: tv :: flat rrows) (off:=dps.length * 5) (by omega)
  generalize flat drows ++ .str p.1.name :: pv :: lv :: .int .i64 p.1.type :: tv :: flat rrows = C at *
  have next : ∀ (a' : Nat → AV),a' 0 = .ptr x 0 → a' 2 = .ptr mo 0 → a' 96 = .int .i64 (n : Int) → a' 97 = .int .i64 ((dps.length + 1 : Nat) : Int) → NL4 σ0 base β x mo fo n mem mn res a' (τ3.setO fo (splice C (dps.length * 5) [.str bs])) ∧ MU 97 (n + 1) a' (τ3.setO fo (splice C (dps.length * 5) [.str bs])) < MU 97 (n + 1) a τ:=by
   intro a' e0 e2 e96 e97
   have hfm : ¬ mo = fo:=fun e=>hfn.fm e.symm
   refine ⟨⟨dps ++ [({ p.1 with name:=bs },p.2)],rps,drows ++ [.agg [.str bs,pv,lv,.int .i64 p.1.type,tv]],rrows,s3,e0,e2,e96,by rw [e97]; simp,by simp; omega,⟨hr3.setO hfn.fx,hM3.ad.setO hF.f0,by simp [hfm,hM3.ob],hM3.lt,hM3.mx,hM3.x0,hM3.m0,hM3.b0,hM3.len⟩,⟨⟨?_,hfn.lt,hfn.fx,hfn.fm⟩,hF.f0,hF3.dr.append (.cons ⟨pv,lv,tv,rfl,hpv,hlv,htv⟩ .nil),hrest,by simpa using hF3.nd,fun y hy=>?_⟩,?_⟩,?_⟩
   ·simp only [setO_objs,upd_at,if_true]
    rw [hset,List.append_assoc,List.singleton_append,flat_append,flat_cons5]
   ·simp only [List.mem_append,List.mem_singleton] at hy
    rcases hy with (hy | rfl) | hy
    ·exact hF3.each y (by simp [hy])
    ·exact hF3.each p (by simp)
    ·exact hF3.each y (by simp [hy])
   ·rw [he]
    cases namesP false (rps.map Prod.fst) s3 with
    | none=>rfl
    | some u=>simp
   ·simp only [MU,e97,a97]; omega
  rcases hv with ⟨hb0,rfl⟩ | ⟨φ,hφ,rfl⟩
  ·subst hb0
   simp [a2,hmo3,hfo,a97,w1,hlt']
   exact ⟨hbound,next _ (by simp [a0]) (by simp [a2]) (by simp [a96]) (by simp)⟩
  ·have hrd:=rd_of hr3 hφ
   simp [a2,hmo3,hfo,a97,w1,hlt',hrd]
   exact ⟨hbound,next _ (by simp [a0]) (by simp [a2]) (by simp [a96]) (by simp)⟩
 | nil =>
  have hlt : ¬ (dps.length : Int) < (n : Int):=by simp at hnl; omega
  have hrr:=hF.rr
  cases hrr
  simp [pc29_l4,a96,a97,hlt]
  exact fin dps drows s _ _ (by simpa using a0) (by simpa using a2) hM hF (by simpa using hnl) (by rw [he]; simp [namesP])
theorem Rdr.famO {base β x s τ} (h : Rdr base β x s τ) {fo : Nat} (hf : fo ≠ x) : Rdr base β x s (τ.famO fo) := by
 obtain ⟨bv,lv,ho,hv,hl⟩:=h.cells
 have hb:=h.hb
 refine ⟨h.hx,⟨hb.1,by simp; omega⟩,?_,fun f q=>?_,bv,lv,?_,hv,?_⟩
 ·have : ¬ 0 = τ.nf:=by omega
  simp [this,h.h0]
 ·obtain ⟨h1,h2⟩:=h.hβ f q
  have : ¬ f = τ.nf:=by omega
  exact ⟨h1,by simp [this,h2]⟩
 ·have : ¬ x = fo:=fun e=>hf e.symm
  simp [this,ho]
 ·rcases hl with h1 | ⟨g,tos,h1,h2,h3,h4,h5⟩
  ·exact .inl h1
  ·have : ¬ g = τ.nf:=by omega
   exact .inr ⟨g,tos,h1,h2,by simp; omega,by simp [this,h4],h5⟩
theorem Adds.famO {σ0 τ : AS} (A : Adds σ0 τ) {fo : Nat} (hf : σ0.no ≤ fo) : Adds σ0 (τ.famO fo) := ⟨A.no,by have := A.nf; simp; omega,fun o ho => by
 have : ¬ o = fo:=by omega
 simp [this]
 exact A.obj o ho,fun f hf'=>by
 have:=A.nf
 have : ¬ f = τ.nf:=by omega
 simp [this]
 exact A.fam f hf'⟩
def OwnR (R : Out → AS → Prop) (o : Out) (σ' : AS) : Prop := R o σ' ∨ ∃ ob sz rows rest,o = .ret (.agg (.slm ob 0 sz rows.length :: rest)) ∧ σ'.objs ob = some (flat rows) ∧ (∀ x ∈ rows,x.cells.length = sz) ∧ R (.ret (.agg (.sl (.fam σ'.nf false) sz rows :: rest))) (σ'.famO ob)
theorem module_end {σ0 base β x mo fo n mem mn dps drows s} (hs : ∀ σ' mv,Al.ME σ' σ0.nf mv ⟨dps.map Prod.fst,mem,mn⟩ → Adds σ0 σ' → Rdr base β x s σ' → R (.ret mv) σ') {a : Nat → AV} {τ : AS} (a2 : a 2 = .ptr mo 0) (hM : Md σ0 base β x mo (mcells fo n mem mn) s τ) (hF : FnN σ0 x mo fo dps [] drows [] τ) (hl : dps.length = n) : avc Tryz.prog G 114 pc29_r1 (afin Tryz.prog [.cell 2 27] (OwnR R)) a τ := by
 have hmo:=hM.ob
 simp only [mcells] at hmo
 have hdrl:=hF.dr.length
 have hfn:=hF.fn
 have hmf : ¬ fo = mo:=hfn.fm
 have hM' : Md σ0 base β x mo (mcells fo n mem mn) s (τ.setO mo (mcells fo n mem mn)):=hM.setM
 simp only [mcells] at hM'
 simp [pc29_r1,a2,hmo,splice]
 refine .inr ⟨fo,5,drows,[.int .i64 mem,.int .i64 mn],by simp [hdrl,hl],?_,all2_len5 (fun v a h=>fve_cells h) hF.dr,?_⟩
 ·simp [hmf]
  simpa using hfn.ob
 ·have hA:=hM'.ad
  refine hs _ _ ⟨_,rfl,.inr ⟨τ.nf,drows,dps,by simp,hM.ad.nf,by simp,by simp,rfl,hF.dr,by simpa using hF.nd,fun y hy=>?_⟩⟩ (hA.famO hF.f0) (hM'.rd.famO hfn.fx)
  obtain ⟨p,hp,rfl⟩:=List.mem_map.1 hy
  obtain ⟨u1,u2,u3⟩:=hF.each p (by simpa using hp)
  have : ¬ p.2 = τ.nf:=by omega
  exact ⟨u1,by simp; omega,by simp [this,u3],by omega⟩
theorem module_r2 {σ0 base β x mo fo mem mn} {h0 : List F} {res : Option (M × Rs)} (hlen : h0.length ≤ 2 ^ 37) (hn : res = none → NoneA R σ0) (hs : ∀ m s',res = some (m,s') → ∀ σ' mv,Al.ME σ' σ0.nf mv m → Adds σ0 σ' → Rdr base β x s' σ' → R (.ret mv) σ')
  {dps : List (F × Nat)} {drows : List AV} {s : Rs} {a : Nat → AV} {τ : AS} (a0 : a 0 = .ptr x 0) (a2 : a 2 = .ptr mo 0) (hM : Md σ0 base β x mo (mcells fo h0.length mem mn) s τ) (hF : FnL σ0 x mo fo h0 dps drows [] τ) (hl : dps.length = h0.length) (he : res = ((namesK h0 (dps.map Prod.fst) s).map fun q=>({ funcs:=q.1,memory:=mem,main:=mn },q.2))) :
  avc Tryz.prog G 114 pc29_r2 (afin Tryz.prog [.cell 2 27] (OwnR R)) a τ:=by
 have hnO : res = none → NoneA (OwnR R) σ0:=fun q e σ' a b=>.inl (hn q e σ' a b)
 have hF0 : FnN σ0 x mo fo [] dps [] drows τ:=⟨by simpa using hF.fn,hF.f0,.nil,hF.dr,by simpa using hF.nd,by simpa using hF.each⟩
 unfold namesK at he
 simp [pc29_r2,a0]
 refine secRd_callsS (n:=0) hM.rd (fun q=>hM.none (hnO (by rw [he,q]; rfl))) (fun s1 q τ1 hr hk=>?_)
 rw [q] at he
 simp only [Option.bind_some] at he
 have hM1:=hM.keepS hk hr (sec_lenP q)
 have hF1:=hF0.keepS hk
 simp [a0]
 refine take_callsS hM1.rd (fun q=>hM1.none (hnO (by rw [he,skip_none q]; rfl))) (fun p s2 q v τ2 _ hr hk=>?_)
 rw [skip_some q] at he
 simp only [Option.bind_some] at he
 have hM2:=hM1.keepS hk hr (take_len q)
 have hF2:=hF1.keepS hk
 simp [a0]
 refine number_callsS hM2.rd (fun q=>hM2.none (hnO (by rw [he,q]; rfl))) (fun k3 s3 q τ3 hr hk=>?_)
 rw [q] at he
 simp only [Option.bind_some] at he
 have hM3:=hM2.keepS hk hr (num_len q)
 have hF3:=hF2.keepS hk
 have hmo3:=hM3.ob
 simp only [mcells] at hmo3
 simp [a0,a2,hmo3]
 refine number_callsS hM3.rd (fun q=>hM3.none (hnO (by rw [he,q]; rfl))) (fun k4 s4 q τ4 hr hk=>?_)
 rw [q] at he
 simp only [Option.bind_some] at he
 have hM4:=hM3.keepS hk hr (num_len q)
 have hF4:=hF3.keepS hk
 have hmo4:=hM4.ob
 simp only [mcells] at hmo4
 by_cases hk4 : k4 = (h0.length : Int)
 ·rw [if_pos hk4] at he
  simp [a2,hmo4,hk4]
  refine must_calls (fun _=>?_) (fun q=>by cases q)
  simp [a2,hmo4]
  refine aloop (NL4 σ0 base β x mo fo h0.length mem mn res) (MU 97 (h0.length + 1)) ⟨[],dps,[],drows,s4,by simp [a0],by simp [a2],by simp,by simp,by simp [hl],hM4,hF4,by rw [he]; rfl⟩ fun a τ hI=>?_
  refine name4_body hnO hlen (fun dps drows s a τ b0 b2 hM hF hl he=>?_) hI
  exact module_end (fun σ' mv h1 h2 h3=>hs _ _ he σ' mv h1 h2 h3) b2 hM hF hl
 ·rw [if_neg hk4] at he
  simp [a2,hmo4,hk4]
  refine must_calls (fun q=>by cases q) (fun _=>?_)
  simp
  exact hM4.none (hnO (by rw [he]; rfl)) _ _ (.inl rfl) (.refl ..)
end
end Go.Proofs.YthejpoplbllcbaaGreatDoor
set_option linter.unusedSimpArgs false
set_option linter.unusedVariables false
namespace Go.Proofs.YthejpoplbllcbaaGreatDoor
open Go Go.Abs
section
variable {G : Env} {σ : AS} {R : Out → AS → Prop}
theorem module_r3 (V : VarsB G) {σ0 base β x mo fo mem0 mn0} {h0 : List F} {res : Option (M × Rs)} {hrows : List AV} (hlen : h0.length ≤ 2 ^ 37) (hh : ∀ f ∈ h0,f.locals = [] ∧ f.name = []) (hhr : All2 HV hrows h0) (hf0 : σ0.no ≤ fo) (hn : res = none → NoneA R σ0) (hs : ∀ m s',res = some (m,s') → ∀ σ' mv,Al.ME σ' σ0.nf mv m → Adds σ0 σ' → Rdr base β x s' σ' → R (.ret mv) σ')
  {s : Rs} {a : Nat → AV} {τ : AS} (a0 : a 0 = .ptr x 0) (a2 : a 2 = .ptr mo 0) (hM : Md σ0 base β x mo (mcells fo h0.length mem0 mn0) s τ) (hF : Fn x mo fo (flat hrows) τ) (hs65 : s.n ≤ 65536) (he : res = (frontC h0 s).bind endM) :
  avc Tryz.prog G 114 pc29_r3 (afin Tryz.prog [.cell 2 27] (OwnR R)) a τ:=by
 have hnO : res = none → NoneA (OwnR R) σ0:=fun q e σ' a b=>.inl (hn q e σ' a b)
 unfold frontC at he
 simp [pc29_r3,a0]
 refine secRd_callsS (n:=5) hM.rd (fun q=>hM.none (hnO (by rw [he,q]; rfl))) (fun s1 q τ1 hr hk=>?_)
 rw [q] at he
 simp only [Option.bind_some] at he
 have n1:=secP_n q
 have hM1:=hM.keepS hk hr (sec_lenP q)
 have hF1:=hF.keepS hk
 simp [a0]
 refine take_callsS hM1.rd (fun q=>hM1.none (hnO (by rw [he,skip_none q]; rfl))) (fun p s2 q v τ2 _ hr hk=>?_)
 rw [skip_some q] at he
 simp only [Option.bind_some] at he
 have n2:=(takeP_some q).2.2
 have hM2:=hM1.keepS hk hr (take_len q)
 have hF2:=hF1.keepS hk
 simp [a0]
 refine secRd_callsS (n:=6) hM2.rd (fun q=>hM2.none (hnO (by rw [he,q]; rfl))) (fun s3 q τ3 hr hk=>?_)
 rw [q] at he
 simp only [Option.bind_some] at he
 have n3:=secP_n q
 have hM3:=hM2.keepS hk hr (sec_lenP q)
 have hF3:=hF2.keepS hk
 simp [a0]
 refine take_callsS hM3.rd (fun q=>hM3.none (hnO (by rw [he,skip_none q]; rfl))) (fun p s4 q v τ4 _ hr hk=>?_)
 rw [skip_some q] at he
 simp only [Option.bind_some] at he
 have n4:=(takeP_some q).2.2
 have hM4:=hM3.keepS hk hr (take_len q)
 have hF4:=hF3.keepS hk
 simp [a0]
 refine number_callsS hM4.rd (fun q=>hM4.none (hnO (by rw [he,q]; rfl))) (fun mem s5 q τ5 hr hk=>?_)
 rw [q] at he
 simp only [Option.bind_some] at he
 have n5:=(numP_some q).2.2.1
 have hM5:=hM4.keepS hk hr (num_len q)
 have hF5:=hF4.keepS hk
 have hmo5:=hM5.ob
 simp only [mcells] at hmo5
 have hM5' : Md σ0 base β x mo (mcells fo h0.length mem mn0) s5 (τ5.setO mo (mcells fo h0.length mem mn0)):=hM5.setM
 have hF5' : Fn x mo fo (flat hrows) (τ5.setO mo (mcells fo h0.length mem mn0)):=hF5.setM
 have hmo5':=hM5'.ob
 simp only [mcells] at hM5' hF5' hmo5'
 simp [a0,a2,hmo5,splice]
 refine take_callsS hM5'.rd (fun q=>hM5'.none (hnO (by rw [he,skip_none q]; rfl))) (fun p s6 q v τ6 _ hr hk=>?_)
 rw [skip_some q] at he
 simp only [Option.bind_some] at he
 have n6:=(takeP_some q).2.2
 have hM6:=hM5'.keepS hk hr (take_len q)
 have hF6:=hF5'.keepS hk
 simp [a0]
 refine secRd_callsS (n:=7) hM6.rd (fun q=>hM6.none (hnO (by rw [he,q]; rfl))) (fun s7 q τ7 hr hk=>?_)
 rw [q] at he
 simp only [Option.bind_some] at he
 have n7:=secP_n q
 have hM7:=hM6.keepS hk hr (sec_lenP q)
 have hF7:=hF6.keepS hk
 simp [a0]
 refine take_callsS hM7.rd (fun q=>hM7.none (hnO (by rw [he,skip_none q]; rfl))) (fun p s8 q v τ8 _ hr hk=>?_)
 rw [skip_some q] at he
 simp only [Option.bind_some] at he
 have n8:=(takeP_some q).2.2
 have hM8:=hM7.keepS hk hr (take_len q)
 have hF8:=hF7.keepS hk
 simp [a0]
 refine number_callsS hM8.rd (fun q=>hM8.none (hnO (by rw [he,q]; rfl))) (fun mn s9 q τ9 hr hk=>?_)
 rw [q] at he
 simp only [Option.map_some,Option.bind_some] at he
 have n9:=(numP_some q).2.2.1
 have hM9:=hM8.keepS hk hr (num_len q)
 have hF9:=hF8.keepS hk
 have hmo9:=hM9.ob
 have hM9' : Md σ0 base β x mo (mcells fo h0.length mem (IntKind.wrap .i64 (mn - 3))) s9 (τ9.setO mo (mcells fo h0.length mem (IntKind.wrap .i64 (mn - 3)))):=hM9.setM
 have hF9' : Fn x mo fo (flat hrows) (τ9.setO mo (mcells fo h0.length mem (IntKind.wrap .i64 (mn - 3)))):=hF9.setM
 have he9 : res = (backP h0 s9).map fun q=>({ funcs:=q.1,memory:=mem,main:=IntKind.wrap .i64 (mn - 3) },q.2):=he
 rw [backP_eq] at he9
 simp only [mcells] at hM9' hF9'
 simp [a0,a2,hmo9,splice]
 refine secRd_callsS (n:=10) hM9'.rd (fun q=>hM9'.none (hnO (by rw [he9,q]; rfl))) (fun s10 q τ10 hr hk=>?_)
 rw [q] at he9
 simp only [Option.bind_some] at he9
 have n10:=secP_n q
 have hM10:=hM9'.keepS hk hr (sec_lenP q)
 have hF10:=hF9'.keepS hk
 have hmo10:=hM10.ob
 simp [a0,a2,hmo10]
 refine number_callsS hM10.rd (fun q=>hM10.none (hnO (by rw [he9,q]; rfl))) (fun k s11 q τ11 hr hk=>?_)
 rw [q] at he9
 simp only [Option.bind_some] at he9
 have n11:=(numP_some q).2.2.1
 have hM11:=hM10.keepS hk hr (num_len q)
 have hF11:=hF10.keepS hk
 have hmo11:=hM11.ob
 by_cases hk' : k = (h0.length : Int)
 ·rw [if_pos hk'] at he9
  simp [a2,hmo11,hk']
  refine must_calls (fun _=>?_) (fun q=>by cases q)
  simp [a2,hmo11]
  refine aloop (FL3 σ0 base β x mo fo mem (IntKind.wrap .i64 (mn - 3)) h0 res) (MU 71 (h0.length + 1)) ⟨[],[],hrows,s11,by simp [a0],by simp [a2],by simp,by simp,hM11,⟨by simpa using hF11,hf0,by simp,.nil,by simpa using hhr,by simp,by simp,by simp⟩,by omega,by rw [he9]; rfl⟩ fun a τ hI=>?_
  refine func3_body V hnO hh (fun dps drows s a τ b0 b2 hM hF hl he=>?_) hlen hI
  exact module_r2 hlen hn hs b0 b2 hM hF hl he
 ·rw [if_neg hk'] at he9
  simp [a2,hmo11,hk']
  refine must_calls (fun q=>by cases q) (fun _=>?_)
  simp
  exact hM11.none (hnO (by rw [he9]; rfl)) _ _ (.inl rfl) (.refl ..)
theorem module_r4 (V : VarsB G) {σ0 base β x mo fo mem0 mn0} {h0 : List F} {res : Option (M × Rs)} {hrows : List AV} (hlen : h0.length ≤ 2 ^ 37) (hh : ∀ f ∈ h0,f.locals = [] ∧ f.name = []) (hhr : All2 HV hrows h0) (hf0 : σ0.no ≤ fo) (hn : res = none → NoneA R σ0) (hs : ∀ m s',res = some (m,s') → ∀ σ' mv,Al.ME σ' σ0.nf mv m → Adds σ0 σ' → Rdr base β x s' σ' → R (.ret mv) σ')
  {s : Rs} {a : Nat → AV} {τ : AS} (a0 : a 0 = .ptr x 0) (a2 : a 2 = .ptr mo 0) (hM : Md σ0 base β x mo (mcells fo h0.length mem0 mn0) s τ) (hF : Fn x mo fo (flat hrows) τ) (hs65 : s.n ≤ 65536) (he : res = (frontB h0 s).bind endM) :
  avc Tryz.prog G 114 pc29_r4 (afin Tryz.prog [.cell 2 27] (OwnR R)) a τ:=by
 have hnO : res = none → NoneA (OwnR R) σ0:=fun q e σ' a b=>.inl (hn q e σ' a b)
 unfold frontB at he
 simp [pc29_r4,a0]
 refine secRd_callsS (n:=3) hM.rd (fun q=>hM.none (hnO (by rw [he,q]; rfl))) (fun s1 q τ1 hr hk=>?_)
 rw [q] at he
 simp only [Option.bind_some] at he
 have n1:=secP_n q
 have hM1:=hM.keepS hk hr (sec_lenP q)
 have hF1:=hF.keepS hk
 simp [a0]
 refine number_callsS hM1.rd (fun q=>hM1.none (hnO (by rw [he,q]; rfl))) (fun N s2 q τ2 hr hk=>?_)
 rw [q] at he
 simp only [Option.bind_some] at he
 have n2:=(numP_some q).2.2.1
 have hM2:=hM1.keepS hk hr (num_len q)
 have hF2:=hF1.keepS hk
 have hNr:=(numP_some q).2.2.2.2.1
 simp
 refine aloop (Nm2 σ0 base β x mo fo (mcells fo h0.length mem0 mn0) (flat hrows) h0 res s2.n N) (MU 33 (N.toNat + 1)) ⟨0,s2,by omega,by simp [a0],by simp [a2],by simp,by simp,hM2,hF2,rfl,he⟩ fun a τ hI=>?_
 refine number2_body hNr hnO (fun s a τ b0 b2 hM hF hsn he=>?_) hI
 exact module_r3 V hlen hh hhr hf0 hn hs b0 b2 hM hF (by omega) he
theorem module_calls (V : VarsB G) {σ0 base β x s} (h : Rdr base β x s σ) (hA : Adds σ0 σ) (hx0 : σ0.no ≤ x) (hb0 : σ0.nf ≤ base) (hl : s.b.length ≤ 2 ^ 37) (hs65 : s.n ≤ 65536) (hn : moduleP s = none → NoneA R σ0) (hs : ∀ m s',moduleP s = some (m,s') → ∀ σ' mv,Al.ME σ' σ0.nf mv m → Adds σ0 σ' → Rdr base β x s' σ' → R (.ret mv) σ') : ACalls Tryz.prog G 29 [.ptr x 0] σ R := by
 refine famOr (calls29 rfl ?_)
 show avc Tryz.prog G 114 pc29 (afin Tryz.prog [.cell 2 27] (OwnR R)) _ σ
 generalize hres : moduleP s = res at *
 have he:=hres.symm
 rw [moduleP_eq,frontP_eq] at he
 have hnO : res = none → NoneA (OwnR R) σ0:=fun q e σ' a b=>.inl (hn q e σ' a b)
 have hx:=h.hx
 have hmx : ¬ σ.no = x:=by omega
 have hno:=hA.no
 have hM : Md σ0 base β x σ.no [.nilsl,.int .i64 0,.int .i64 0] s (σ.newO [.nilsl,.int .i64 0,.int .i64 0]):=⟨h.adds (Adds.refl σ).newO,hA.newO,by simp,by simp,hmx,hx0,hno,hb0,hl⟩
 simp [pc29]
 refine take_callsS hM.rd (fun q=>hM.none (hnO (by rw [he,skip_none q]; rfl))) (fun p s1 q v τ1 _ hr hk=>?_)
 rw [skip_some q] at he
 simp only [Option.bind_some] at he
 have n1:=(takeP_some q).2.2
 have hM1:=hM.keepS hk hr (take_len q)
 simp
 refine headsRd_calls hM1.rd hM1.len (fun q=>hM1.none (hnO (by rw [he,q]; rfl))) (fun h0 s2 q τ2 hrows g hhr hg1 hg2 hg3 hg4 hr hk hlen2=>?_)
 rw [q] at he
 simp only [Option.bind_some] at he
 have n2:=heads_n q
 have hh:=headsP_some q
 have hM2:=hM1.keepS hk hr (by omega)
 have hmo2:=hM2.ob
 have hrl:=hhr.length
 have hl1:=hM1.len
 simp [hmo2,splice]
 have hM2' : Md σ0 base β x σ.no [.sl (.fam g false) 5 hrows,.int .i64 0,.int .i64 0] s2 (τ2.setO σ.no [.sl (.fam g false) 5 hrows,.int .i64 0,.int .i64 0]):=hM2.setM
 refine ownAt (secRd_callsS (n:=2) hM2'.rd (fun q e σ' b1 b2=>.inl (hM2'.none (hnO (by rw [he,q]; rfl)) e σ' b1 b2)) (fun s3 q τ3 hr3 hk3=>.inr ⟨g,σ.no,0,5,false,[.sl (.fam g false) 5 hrows,.int .i64 0,.int .i64 0],hrows,?_,?_,rfl,?_⟩))
 ·rw [hk3.fam g (by simpa using hg2)]
  simpa using hg3
 ·exact (hk3.obj σ.no (by simpa using hM2.lt) hmx).trans (by simp)
 ·rw [q] at he
  simp only [Option.bind_some] at he
  have n3:=secP_n q
  have hM3:=hM2'.keepS hk3 hr3 (sec_lenP q)
  have hno3:=hM3.lt
  have hnf3:=hk3.nf
  have hnu3 : ¬ UsesR τ3 x g:=fun u=>hg4 (by
   have:=hk3.r.use g (by simpa using hg2) u
   obtain ⟨cs',v,u1,u2,u3⟩:=this
   have hxm : ¬ x = σ.no:=fun e=>hmx e.symm
   simp [hxm] at u1
   exact ⟨cs',v,u1,u2,u3⟩)
  have hgb : base ≤ g:=by have:=hM1.rd.hb.2; omega
  simp at hnf3
  have hM4 : Md σ0 base β x σ.no (mcells τ3.no h0.length 0 0) s3 (τ3.own g σ.no ([.sl (.fam g false) 5 hrows,.int .i64 0,.int .i64 0].set 0 (.slm τ3.no 0 5 hrows.length)) (flat hrows)):=by
   have r1:=hM3.rd.endF hgb hnu3
   obtain ⟨bv,lv,ho,hv,hl⟩:=r1.cells
   have hxm : ¬ x = σ.no:=fun e=>hmx e.symm
   have hxn:=hM3.rd.hx
   have hx3 : ¬ x = τ3.no:=by omega
   have hm3 : ¬ σ.no = τ3.no:=by omega
   refine ⟨⟨by simp; omega,r1.hb,by simpa using r1.h0,fun f hf=>by simpa using r1.hβ f hf,bv,lv,by simpa [hxm,hx3] using ho,hv,?_⟩,⟨by have:=hM3.ad.no; simp; omega,hM3.ad.nf,fun o ho=>?_,fun f hf=>?_⟩,by simp [hm3,mcells,hrl],by simp; omega,hmx,hx0,hno,hb0,hM3.len⟩
   ·rcases hl with h1 | ⟨f,tos,h1,h2,h3,h4,h5⟩
    ·exact .inl h1
    ·exact .inr ⟨f,tos,h1,h2,h3,by simpa using h4,h5⟩
   ·have h1 : ¬ o = τ3.no:=by omega
    have h2 : ¬ o = σ.no:=by omega
    simp [h1,h2]
    exact hM3.ad.obj o ho
   ·have : ¬ f = g:=by omega
    simp [this]
    exact hM3.ad.fam f hf
  have hF4 : Fn x σ.no τ3.no (flat hrows) (τ3.own g σ.no ([.sl (.fam g false) 5 hrows,.int .i64 0,.int .i64 0].set 0 (.slm τ3.no 0 5 hrows.length)) (flat hrows)):=⟨by simp,by simp,by have:=hM3.rd.hx; omega,by omega⟩
  generalize τ3.own g σ.no ([.sl (.fam g false) 5 hrows,.int .i64 0,.int .i64 0].set 0 (.slm τ3.no 0 5 hrows.length)) (flat hrows) = τ4 at *
  have hh' : ∀ f ∈ h0,f.locals = [] ∧ f.name = []:=fun f hf=>⟨(hh f hf).1,by
   have key : ∀ {rows : List AV} {l : List F},All2 HV rows l → ∀ f ∈ l,f.name = []:=fun {rows l} hr=>by
    induction hr with
    | nil=>intro f hf; cases hf
    | cons h r ih =>
     intro f hf
     rcases List.mem_cons.1 hf with rfl | hf
     ·obtain ⟨_,_,_,e,_⟩:=h
      exact e
     ·exact ih f hf
   exact key hhr f hf⟩
  have hf0 : σ0.no ≤ τ3.no:=by omega
  simp
  refine take_callsS hM4.rd (fun q=>hM4.none (hnO (by rw [he,skip_none q]; rfl))) (fun p s5 q v τ5 _ hr hk=>?_)
  rw [skip_some q] at he
  simp only [Option.bind_some] at he
  have n5:=(takeP_some q).2.2
  have hM5:=hM4.keepS hk hr (take_len q)
  have hF5:=hF4.keepS hk
  simp
  refine aloop (Im1 σ0 base β x σ.no τ3.no (mcells τ3.no h0.length 0 0) (flat hrows) h0 res s5.n) (MU 18 4) ⟨0,s5,by omega,by simp,by simp,by simp [wordsI],by simp,by simp,hM5,hF5,rfl,he⟩ fun a τ hI=>?_
  refine import1_body hnO (fun s a τ b0 b2 hM hF hsn he=>?_) hI
  exact module_r4 V (by omega) hh' hhr hf0 hn hs b0 b2 hM hF (by omega) he
end
end Go.Proofs.YthejpoplbllcbaaGreatDoor
set_option linter.unusedSimpArgs false
set_option linter.unusedVariables false
namespace Go.Proofs.YthejpoplbllcbaaGreatDoor
open Go Go.Abs
def ixI (o : Option Nat) : Int := match o with
 | some i=>(i : Int)
 | none=>-1
theorem ixI_ge (o : Option Nat) : decide (0 ≤ ixI o) = o.isSome := by
 cases o with
 | none=>rfl
 | some i=>simp [ixI]
theorem any_find {α : Type} (P : α → Bool) (l : List α) : (l.findIdx? P).isSome = l.any P := by
 rw [List.findIdx?_isSome]
theorem find_at {α : Type} {P : α → Bool} {l : List α} {i : Nat} (hi : i < l.length) (hp : P l[i] = true) (hn : ∀ j (h : j < l.length),j < i → P l[j] = false) : l.findIdx? P = some i := by
 rw [List.findIdx?_eq_some_iff_getElem]
 exact ⟨hi,hp,fun j hj=>by simp [hn j (by omega) hj]⟩
theorem find_no {α : Type} {P : α → Bool} {l : List α} (hn : ∀ j (h : j < l.length),P l[j] = false) : l.findIdx? P = none := by
 rw [List.findIdx?_eq_none_iff]
 intro x hx
 obtain ⟨j,hj,rfl⟩:=List.getElem_of_mem hx
 exact hn j hj
section
variable {G : Env} {σ : AS} {R : Out → AS → Prop}
def IxA {α : Type} (P : α → Bool) (v fv : AV) (l : List α) (σ : AS) (a : Nat → AV) (τ : AS) : Prop := ∃ i : Nat,i ≤ l.length ∧ a 0 = v ∧ a 1 = fv ∧ a 7 = .int .i64 (l.length : Int) ∧ a 8 = .int .i64 (i : Int) ∧ Adds σ τ ∧ ∀ j (h : j < l.length),j < i → P l[j] = false
theorem ix98 {n : Nat} {caps : List AV} {P : Int → Bool} {l : List Int} {v : AV} (hv : Al.IntsO σ v l) (hl : l.length ≤ 2 ^ 40) (hc : callable Tryz.prog n = true)
  (hcall : ∀ x ∈ l,∀ rv τ (R' : Out → AS → Prop),Adds σ τ → rv = .int .i64 x → (∀ τ',Adds τ τ' → R' (.ret (.bool (P x))) τ') → ACalls Tryz.prog G n (rv :: caps) τ R') (h : ∀ σ',Adds σ σ' → R (.ret (.int .i64 (ixI (l.findIdx? P)))) σ') : ACalls Tryz.prog G 98 [v,.fn (.func n) [] caps] σ R:=by
 refine calls98 rfl ?_
 have v1:=hv.one
 have v2:=hv.len
 simp [pc98,v1,v2]
 refine aloop (IxA P v (.fn (.func n) [] caps) l σ) (MU 8 (l.length + 1)) ⟨0,by omega,by simp,by simp,by simp,by simp,.refl _,fun j _ h=>by omega⟩ fun a τ hI=>?_
 obtain ⟨i,hi,a0,a1,a7,a8,hA,hno⟩:=hI
 by_cases hlt : i < l.length
 ·have hlt' : (i : Int) < (l.length : Int):=by omega
  obtain ⟨φ,hrd,hix⟩:=(hv.keep hA).at hlt
  have hrd:=hrd.read
  have hmem:=List.getElem_mem hlt
  have w1 : IntKind.wrap .i64 ((i : Int) + 1) = ((i + 1 : Nat) : Int):=by rw [wrap_i64] <;> omega
  skip
  simp [pc98_l1,a0,a1,a7,a8,hlt',hix,hrd,hc ]
  refine hcall _ hmem _ τ _ hA rfl fun τ' A'=>?_
  cases hp : P l[i] with
  | true =>
   have e:=find_at hlt hp hno
   have:=h _ (hA.trans A')
   rw [e] at this
   simp
   exact this
  | false =>
   simp [a8,w1]
   refine ⟨⟨i + 1,by omega,by simp [a0],by simp [a1],by simp [a7],by simp,hA.trans A',fun j hj hji=>?_⟩,?_⟩
   ·rcases Nat.lt_or_ge j i with h1 | h1
    ·exact hno j hj h1
    ·have : j = i:=by omega
     subst this
     exact hp
   ·simp only [MU,a8]; simp; omega
 ·have he:=find_no (P:=P) (l:=l) fun j hj=>hno j hj (by omega)
  have:=h _ hA
  rw [he] at this
  simp [pc98_l1,pc98_r1,a7,a8,hlt]
  exact this
theorem has65 {n : Nat} {caps : List AV} {P : Int → Bool} {l : List Int} {v : AV} (hv : Al.IntsO σ v l) (hl : l.length ≤ 2 ^ 40) (hc : callable Tryz.prog n = true)
  (hcall : ∀ x ∈ l,∀ rv τ (R' : Out → AS → Prop),Adds σ τ → rv = .int .i64 x → (∀ τ',Adds τ τ' → R' (.ret (.bool (P x))) τ') → ACalls Tryz.prog G n (rv :: caps) τ R') (h : ∀ σ',Adds σ σ' → R (.ret (.bool (l.any P))) σ') : ACalls Tryz.prog G 65 [v,.fn (.func n) [] caps] σ R:=by
 refine calls65 rfl ?_
 have v1:=hv.one
 simp [pc65,v1]
 refine ix98 hv hl hc hcall fun σ' A=>?_
 have e : decide (0 ≤ ixI (l.findIdx? P)) = l.any P:=by rw [ixI_ge,any_find]
 simp [e]
 exact h _ A
theorem ix100 {n : Nat} {caps : List AV} {P : W → Bool} {l : List W} {v : AV} (hv : Al.RepO σ v l) (hl : l.length ≤ 2 ^ 40) (hc : callable Tryz.prog n = true)
  (hcall : ∀ x ∈ l,∀ rv τ (R' : Out → AS → Prop),Adds σ τ → rv = x.av → (∀ τ',Adds τ τ' → R' (.ret (.bool (P x))) τ') → ACalls Tryz.prog G n (rv :: caps) τ R') (h : ∀ σ',Adds σ σ' → R (.ret (.int .i64 (ixI (l.findIdx? P)))) σ') : ACalls Tryz.prog G 100 [v,.fn (.func n) [] caps] σ R:=by
 refine calls100 rfl ?_
 have v1:=hv.one
 have v2:=RepO.len hv
 simp [pc100,v1,v2]
 refine aloop (IxA P v (.fn (.func n) [] caps) l σ) (MU 8 (l.length + 1)) ⟨0,by omega,by simp,by simp,by simp,by simp,.refl _,fun j _ h=>by omega⟩ fun a τ hI=>?_
 obtain ⟨i,hi,a0,a1,a7,a8,hA,hno⟩:=hI
 by_cases hlt : i < l.length
 ·have hlt' : (i : Int) < (l.length : Int):=by omega
  obtain ⟨φ,hrd,hix⟩:=RepO.at (hv.keep hA) hlt
  have hrd:=hrd.read
  have hmem:=List.getElem_mem hlt
  have w1 : IntKind.wrap .i64 ((i : Int) + 1) = ((i + 1 : Nat) : Int):=by rw [wrap_i64] <;> omega
  skip
  simp [pc100_l1,a0,a1,a7,a8,hlt',hix,hrd,hc ,W.av,W.cs]
  refine hcall _ hmem _ τ _ hA rfl fun τ' A'=>?_
  cases hp : P l[i] with
  | true =>
   have e:=find_at hlt hp hno
   have:=h _ (hA.trans A')
   rw [e] at this
   simp
   exact this
  | false =>
   simp [a8,w1]
   refine ⟨⟨i + 1,by omega,by simp [a0],by simp [a1],by simp [a7],by simp,hA.trans A',fun j hj hji=>?_⟩,?_⟩
   ·rcases Nat.lt_or_ge j i with h1 | h1
    ·exact hno j hj h1
    ·have : j = i:=by omega
     subst this
     exact hp
   ·simp only [MU,a8]; simp; omega
 ·have he:=find_no (P:=P) (l:=l) fun j hj=>hno j hj (by omega)
  have:=h _ hA
  rw [he] at this
  simp [pc100_l1,pc100_r1,a7,a8,hlt]
  exact this
theorem has70 {n : Nat} {caps : List AV} {P : W → Bool} {l : List W} {v : AV} (hv : Al.RepO σ v l) (hl : l.length ≤ 2 ^ 40) (hc : callable Tryz.prog n = true)
  (hcall : ∀ x ∈ l,∀ rv τ (R' : Out → AS → Prop),Adds σ τ → rv = x.av → (∀ τ',Adds τ τ' → R' (.ret (.bool (P x))) τ') → ACalls Tryz.prog G n (rv :: caps) τ R') (h : ∀ σ',Adds σ σ' → R (.ret (.bool (l.any P))) σ') : ACalls Tryz.prog G 70 [v,.fn (.func n) [] caps] σ R:=by
 refine calls70 rfl ?_
 have v1:=hv.one
 simp [pc70,v1]
 refine ix100 hv hl hc hcall fun σ' A=>?_
 have e : decide (0 ≤ ixI (l.findIdx? P)) = l.any P:=by rw [ixI_ge,any_find]
 simp [e]
 exact h _ A
theorem ix99 {n : Nat} {caps : List AV} {P : (List W) → Bool} {l : List (List W)} {v : AV} (hv : Al.LstO σ v l) (hl : l.length ≤ 2 ^ 40) (hc : callable Tryz.prog n = true)
  (hcall : ∀ x ∈ l,∀ rv τ (R' : Out → AS → Prop),Adds σ τ → Al.RepO τ rv x → (∀ τ',Adds τ τ' → R' (.ret (.bool (P x))) τ') → ACalls Tryz.prog G n (rv :: caps) τ R') (h : ∀ σ',Adds σ σ' → R (.ret (.int .i64 (ixI (l.findIdx? P)))) σ') : ACalls Tryz.prog G 99 [v,.fn (.func n) [] caps] σ R:=by
 refine calls99 rfl ?_
 have v1:=hv.one
 have v2:=hv.len
 simp [pc99,v1,v2]
 refine aloop (IxA P v (.fn (.func n) [] caps) l σ) (MU 8 (l.length + 1)) ⟨0,by omega,by simp,by simp,by simp,by simp,.refl _,fun j _ h=>by omega⟩ fun a τ hI=>?_
 obtain ⟨i,hi,a0,a1,a7,a8,hA,hno⟩:=hI
 by_cases hlt : i < l.length
 ·have hlt' : (i : Int) < (l.length : Int):=by omega
  obtain ⟨φ,rv,hrd,hel,hix⟩:=(hv.keep hA).at hlt
  have hrd:=hrd.read
  have hmem:=List.getElem_mem hlt
  have w1 : IntKind.wrap .i64 ((i : Int) + 1) = ((i + 1 : Nat) : Int):=by rw [wrap_i64] <;> omega
  have o1:=hel.one
  simp [pc99_l1,a0,a1,a7,a8,hlt',hix,hrd,hc ,o1]
  refine hcall _ hmem _ τ _ hA hel fun τ' A'=>?_
  cases hp : P l[i] with
  | true =>
   have e:=find_at hlt hp hno
   have:=h _ (hA.trans A')
   rw [e] at this
   simp
   exact this
  | false =>
   simp [a8,w1]
   refine ⟨⟨i + 1,by omega,by simp [a0],by simp [a1],by simp [a7],by simp,hA.trans A',fun j hj hji=>?_⟩,?_⟩
   ·rcases Nat.lt_or_ge j i with h1 | h1
    ·exact hno j hj h1
    ·have : j = i:=by omega
     subst this
     exact hp
   ·simp only [MU,a8]; simp; omega
 ·have he:=find_no (P:=P) (l:=l) fun j hj=>hno j hj (by omega)
  have:=h _ hA
  rw [he] at this
  simp [pc99_l1,pc99_r1,a7,a8,hlt]
  exact this
theorem has68 {n : Nat} {caps : List AV} {P : (List W) → Bool} {l : List (List W)} {v : AV} (hv : Al.LstO σ v l) (hl : l.length ≤ 2 ^ 40) (hc : callable Tryz.prog n = true)
  (hcall : ∀ x ∈ l,∀ rv τ (R' : Out → AS → Prop),Adds σ τ → Al.RepO τ rv x → (∀ τ',Adds τ τ' → R' (.ret (.bool (P x))) τ') → ACalls Tryz.prog G n (rv :: caps) τ R') (h : ∀ σ',Adds σ σ' → R (.ret (.bool (l.any P))) σ') : ACalls Tryz.prog G 68 [v,.fn (.func n) [] caps] σ R:=by
 refine calls68 rfl ?_
 have v1:=hv.one
 simp [pc68,v1]
 refine ix99 hv hl hc hcall fun σ' A=>?_
 have e : decide (0 ≤ ixI (l.findIdx? P)) = l.any P:=by rw [ixI_ge,any_find]
 simp [e]
 exact h _ A
theorem ix97 {n : Nat} {caps : List AV} {P : F → Bool} {l : List F} {v : AV} (hv : Al.FsO σ v l) (hl : l.length ≤ 2 ^ 40) (hc : callable Tryz.prog n = true)
  (hcall : ∀ x ∈ l,∀ rv τ (R' : Out → AS → Prop),Adds σ τ → Al.FVO τ rv x → (∀ τ',Adds τ τ' → R' (.ret (.bool (P x))) τ') → ACalls Tryz.prog G n (rv :: caps) τ R') (h : ∀ σ',Adds σ σ' → R (.ret (.int .i64 (ixI (l.findIdx? P)))) σ') : ACalls Tryz.prog G 97 [v,.fn (.func n) [] caps] σ R:=by
 refine calls97 rfl ?_
 have v1:=hv.one
 have v2:=hv.len
 simp [pc97,v1,v2]
 refine aloop (IxA P v (.fn (.func n) [] caps) l σ) (MU 8 (l.length + 1)) ⟨0,by omega,by simp,by simp,by simp,by simp,.refl _,fun j _ h=>by omega⟩ fun a τ hI=>?_
 obtain ⟨i,hi,a0,a1,a7,a8,hA,hno⟩:=hI
 by_cases hlt : i < l.length
 ·have hlt' : (i : Int) < (l.length : Int):=by omega
  obtain ⟨φ,rv,hrd,hel,hix⟩:=(hv.keep hA).at hlt
  have hrd:=hrd.read
  have hmem:=List.getElem_mem hlt
  have w1 : IntKind.wrap .i64 ((i : Int) + 1) = ((i + 1 : Nat) : Int):=by rw [wrap_i64] <;> omega
  obtain ⟨pv,lv,tv,hrv,hpv,hlv,htv⟩:=id hel
  have o1:=hpv.one
  have o2:=hlv.one
  have o3:=htv.one
  subst hrv
  simp [pc97_l1,a0,a1,a7,a8,hlt',hix,hrd,hc ,o1,o2,o3]
  refine hcall _ hmem _ τ _ hA hel fun τ' A'=>?_
  cases hp : P l[i] with
  | true =>
   have e:=find_at hlt hp hno
   have:=h _ (hA.trans A')
   rw [e] at this
   simp
   exact this
  | false =>
   simp [a8,w1]
   refine ⟨⟨i + 1,by omega,by simp [a0],by simp [a1],by simp [a7],by simp,hA.trans A',fun j hj hji=>?_⟩,?_⟩
   ·rcases Nat.lt_or_ge j i with h1 | h1
    ·exact hno j hj h1
    ·have : j = i:=by omega
     subst this
     exact hp
   ·simp only [MU,a8]; simp; omega
 ·have he:=find_no (P:=P) (l:=l) fun j hj=>hno j hj (by omega)
  have:=h _ hA
  rw [he] at this
  simp [pc97_l1,pc97_r1,a7,a8,hlt]
  exact this
theorem has63 {n : Nat} {caps : List AV} {P : F → Bool} {l : List F} {v : AV} (hv : Al.FsO σ v l) (hl : l.length ≤ 2 ^ 40) (hc : callable Tryz.prog n = true)
  (hcall : ∀ x ∈ l,∀ rv τ (R' : Out → AS → Prop),Adds σ τ → Al.FVO τ rv x → (∀ τ',Adds τ τ' → R' (.ret (.bool (P x))) τ') → ACalls Tryz.prog G n (rv :: caps) τ R') (h : ∀ σ',Adds σ σ' → R (.ret (.bool (l.any P))) σ') : ACalls Tryz.prog G 63 [v,.fn (.func n) [] caps] σ R:=by
 refine calls63 rfl ?_
 have v1:=hv.one
 simp [pc63,v1]
 refine ix97 hv hl hc hcall fun σ' A=>?_
 have e : decide (0 ≤ ixI (l.findIdx? P)) = l.any P:=by rw [ixI_ge,any_find]
 simp [e]
 exact h _ A
end
end Go.Proofs.YthejpoplbllcbaaGreatDoor
set_option linter.unusedSimpArgs false
set_option linter.unusedVariables false
namespace Go.Proofs.YthejpoplbllcbaaGreatDoor
open Go Go.Abs
section
variable {G : Env} {σ : AS} {R : Out → AS → Prop}
theorem odd_calls {t : Int} (h : R (.ret (.bool (oddT t))) σ) : ACalls Tryz.prog G 62 [.int .i64 t] σ R := by
 refine calls62 rfl ?_
 by_cases h1 : t = 1
 ·subst h1
  simp [pc62]
  simpa [oddT] using h
 ·by_cases h2 : t = 2
  ·subst h2
   simp [pc62]
   simpa [oddT] using h
  ·simp [pc62,h1,h2]
   simpa [oddT,h1,h2] using h
theorem call62 : callable Tryz.prog 62 = true := by kernel_rfl
theorem call64 : callable Tryz.prog 64 = true := by kernel_rfl
theorem call66 : callable Tryz.prog 66 = true := by kernel_rfl
theorem call67 : callable Tryz.prog 67 = true := by kernel_rfl
theorem call69 : callable Tryz.prog 69 = true := by kernel_rfl
theorem hasOdd {l : List Int} {v : AV} (hv : Al.IntsO σ v l) (hl : l.length ≤ 2 ^ 40) (h : ∀ σ',Adds σ σ' → R (.ret (.bool (l.any oddT))) σ') : ACalls Tryz.prog G 65 [v,.fn (.func 62) [] []] σ R := by
 refine has65 (P:=oddT) hv hl call62 (fun x _ rv τ R' A e h=>?_) h
 subst e
 exact odd_calls (h _ (.refl _))
theorem typedF_calls {f : F} {fv : AV} {o : Nat} (hf : Al.FVO σ fv f) (hs : SzB f) (ho : σ.objs o = some [.fn (.func 62) [] []]) (hol : o < σ.no) (h : ∀ σ',Adds σ σ' → R (.ret (.bool (!typedF f))) σ') : ACalls Tryz.prog G 64 [fv,.ptr o 0] σ R := by
 refine calls64 rfl ?_
 obtain ⟨pv,lv,tv,rfl,hp,hl,ht⟩:=hf
 have p1:=hp.one
 have l1:=hl.one
 have t1:=ht.one
 have A0 : Adds σ (σ.newO [.str f.name,pv,lv,.int .i64 f.type,tv]):=(Adds.refl σ).newO
 have hne : ¬ o = σ.no:=by omega
 have hs1:=hs.params
 have hs2:=hs.locals
 have eF : (!typedF f) = (f.params.any oddT || (f.locals.any oddT || (decide (f.type ≠ 0) && oddT f.type))):=by simp [typedF]
 rw [eF] at h
 simp [pc64,p1,l1,t1,hne,ho]
 refine hasOdd (hp.keep A0) (by omega) fun σ1 A1=>?_
 have o1:=(A1.obj σ.no (by simp)).trans (show _ = some [.str f.name,pv,lv,.int .i64 f.type,tv] by simp)
 have o2:=(A1.obj o (by simp; omega)).trans (show _ = some [.fn (.func 62) [] []] by simp [hne,ho])
 have n1:=A1.no
 simp at n1
 cases hq : f.params.any oddT with
 | true =>
  rw [hq] at h
  simp
  exact h _ (A0.trans A1)
 | false =>
  rw [hq] at h
  simp [o1,o2,l1]
  refine hasOdd (hl.keep (A0.trans A1)) (by omega) fun σ2 A2=>?_
  have o3:=(A2.obj σ.no (by omega)).trans o1
  have o4:=(A2.obj o (by omega)).trans o2
  cases hq2 : f.locals.any oddT with
  | true =>
   rw [hq2] at h
   simp
   exact h _ ((A0.trans A1).trans A2)
  | false =>
   rw [hq2] at h
   by_cases h0 : f.type = 0
   ·simp [o3,o4,h0]
    have:=h _ ((A0.trans A1).trans A2)
    simpa [h0] using this
   ·simp [o3,o4,h0,call62]
    refine odd_calls ?_
    have:=h _ ((A0.trans A1).trans A2)
    simpa [h0] using this
theorem typed_calls {m : M} {mv : AV} (hm : Al.MO σ mv m) (hl : m.funcs.length ≤ 2 ^ 40) (hs : ∀ f ∈ m.funcs,SzB f) (h : ∀ σ',Adds σ σ' → R (.ret (.bool (m.funcs.all typedF))) σ') : ACalls Tryz.prog G 31 [mv] σ R := by
 refine calls31 rfl ?_
 obtain ⟨fv,rfl,hf⟩:=hm
 have f1:=hf.one
 have A0 : Adds σ (((σ.newO [fv,.int .i64 m.memory,.int .i64 m.main]).newO [.nilfn]).setO (σ.no + 1) [.fn (.func 62) [] []]):=((Adds.refl σ).newO.newO).setO (by omega)
 have e : (m.funcs.any fun f=>!typedF f) = !(m.funcs.all typedF):=by simp [List.any_eq_not_all_not]
 simp [pc31,f1,splice]
 refine has63 (P:=fun f=>!typedF f) (hf.keep A0) hl call64 (fun x hx rv τ R' A e h'=>?_) fun σ' A'=>?_
 ·refine typedF_calls e (hs x hx) (o:=σ.no + 1) ((A.obj _ (by simp)).trans (by simp)) (by have:=A.no; simp at this; omega) h'
 ·rw [e]
  simp
  exact h _ (A0.trans A')
theorem below_calls {w : W} (h : ∀ σ',Adds σ σ' → R (.ret (.bool (belowW w))) σ') : ACalls Tryz.prog G 66 [w.av] σ R := by
 refine calls66 rfl ?_
 have A0 : Adds σ (σ.newO w.cs):=(Adds.refl σ).newO
 simp only [W.cs] at A0
 by_cases h0 : w.n < 0
 ·simp [pc66,W.av,W.cs,h0]
  have:=h _ A0
  simpa [belowW,h0] using this
 ·simp [pc66,W.av,W.cs,h0]
  have:=h _ A0
  simpa [belowW,h0] using this
theorem belowL_calls {l : List W} {v : AV} {o : Nat} (hv : Al.RepO σ v l) (hl : l.length ≤ 2 ^ 40) (ho : σ.objs o = some [.fn (.func 66) [] []]) (h : ∀ σ',Adds σ σ' → R (.ret (.bool (l.any belowW))) σ') : ACalls Tryz.prog G 69 [v,.ptr o 0] σ R := by
 refine calls69 rfl ?_
 have v1:=hv.one
 simp [pc69,ho,v1]
 refine has70 (P:=belowW) hv hl call66 (fun x _ rv τ R' A e h'=>?_) fun σ' A'=>?_
 ·subst e
  exact below_calls h'
 ·simp
  exact h _ A'
theorem belowF_calls {f : F} {fv : AV} {o : Nat} (hf : Al.FVO σ fv f) (hs : SzB f) (ho : σ.objs o = some [.fn (.func 66) [] []]) (hol : o < σ.no) (h : ∀ σ',Adds σ σ' → R (.ret (.bool (f.lists.any fun l => l.any belowW))) σ') : ACalls Tryz.prog G 67 [fv,.ptr o 0] σ R := by
 refine calls67 rfl ?_
 obtain ⟨pv,lv,tv,rfl,hp,hl,ht⟩:=hf
 have p1:=hp.one
 have l1:=hl.one
 have t1:=ht.one
 have A0 : Adds σ (σ.newO [.str f.name,pv,lv,.int .i64 f.type,tv]):=(Adds.refl σ).newO
 have hne : ¬ o = σ.no:=by omega
 simp [pc67,p1,l1,t1]
 refine has68 (P:=fun l=>l.any belowW) (ht.keep A0) hs.many call69 (fun x hx rv τ R' A e h'=>?_) fun σ' A'=>?_
 ·exact belowL_calls e (hs.rows x hx) ((A.obj o (by simp; omega)).trans (by simp [hne,ho])) h'
 ·simp
  exact h _ (A0.trans A')
theorem ranged_calls {m : M} {mv : AV} (hm : Al.MO σ mv m) (hl : m.funcs.length ≤ 2 ^ 40) (hs : ∀ f ∈ m.funcs,SzB f) (h : ∀ σ',Adds σ σ' → R (.ret (.bool (rangedM m))) σ') : ACalls Tryz.prog G 32 [mv] σ R := by
 refine calls32 rfl ?_
 obtain ⟨fv,rfl,hf⟩:=hm
 have f1:=hf.one
 have A0 : Adds σ (((σ.newO [fv,.int .i64 m.memory,.int .i64 m.main]).newO [.nilfn]).setO (σ.no + 1) [.fn (.func 66) [] []]):=((Adds.refl σ).newO.newO).setO (by omega)
 have hne : ¬ σ.no = σ.no + 1:=by omega
 unfold rangedM at h
 by_cases h3 : -3 ≤ m.main
 ·simp [pc32,f1,splice,h3]
  refine has63 (P:=fun f=>f.lists.any fun l=>l.any belowW) (hf.keep A0) hl call67 (fun x hx rv τ R' A e h'=>?_) fun σ' A'=>?_
  ·refine belowF_calls e (hs x hx) (o:=σ.no + 1) ((A.obj _ (by simp)).trans (by simp)) (by have:=A.no; simp at this; omega) h'
  ·have:=h _ (A0.trans A')
   simp
   simpa [h3] using this
 ·simp [pc32,f1,splice,h3]
  have:=h _ A0
  simpa [h3] using this
end
end Go.Proofs.YthejpoplbllcbaaGreatDoor
set_option linter.unusedSimpArgs false
set_option linter.unusedVariables false
namespace Go.Proofs.YthejpoplbllcbaaGreatDoor
open Go Go.Abs
theorem leafP_rg {st : Bool} {c : UInt8} {s s' : Rs} {w : W} (h : leafP st c s = some (w,s')) : RgW w := by
 unfold leafP at h
 cases hf : findT numT c with
 | some w0 =>
  rw [hf] at h
  simp only [Option.map_eq_some_iff] at h
  obtain ⟨⟨n,s1⟩,hn,he⟩:=h
  cases he
  obtain ⟨_,_,_,n1,n2,_⟩:=numP_some hn
  exact ⟨n1,n2⟩
 | none =>
  rw [hf] at h
  simp only at h
  cases hp : findT plainT c with
  | some w0 =>
   rw [hp] at h
   simp only at h
   have hz : ∀ p ∈ plainT,RgW p.2:=by
    have : ∀ p ∈ plainT,0 ≤ p.2.n ∧ p.2.n ≤ 8:=by decide
    intro p hp
    have:=this p hp
    exact ⟨by omega,by omega⟩
   have hm:=hz _ (findT_mem hp)
   split at h
   ·rw [Option.map_eq_some_iff] at h
    obtain ⟨_,_,he⟩:=h
    cases he
    exact hm
   ·cases h
    exact hm
  | none =>
   rw [hp] at h
   simp only [Option.map_eq_some_iff] at h
   obtain ⟨w0,hn,he⟩:=h
   cases he
   have hm : (c,w) ∈ signT:=by
    have:=signP_mem ⟨c.toNat,c.toNat_lt⟩ w (by simpa using hn)
    simpa using this
   have hz : ∀ p ∈ signT,p.2.n = 0:=by decide
   have:=hz _ hm
   simp only at this
   exact ⟨by omega,by omega⟩
theorem listP_rg : ∀ (st : Bool) (k d : Nat) (l : List W) (s : Rs) (n : Int) (e : UInt8) (s' : Rs),listP st k d l s = some ((n,e),s') → RgL s.ls → (∀ w ∈ l,RgW w) → RgL s'.ls
 | st,0,_,_,_,_,_,_,h,_,_=>by simp [listP] at h
 | st,k + 1,d,l,s,n,e,s',h,hs,hl=>by
  have hz : ∀ op b o : Int,RgW (nestP op b o):=fun _ _ _=>⟨by simp [nestP],by simp [nestP]⟩
  rw [listP] at h
  simp only [Option.bind_eq_some_iff] at h
  obtain ⟨⟨c,s1⟩,hb,h⟩:=h
  obtain ⟨b1,b2,b3⟩:=byteP_some hb
  rw [← b2] at hs
  split at h
  ·cases h
   intro ws hw
   rcases List.mem_append.1 hw with h1 | h1
   ·exact hs ws h1
   ·simp only [List.mem_singleton] at h1
    subst h1
    exact hl
  ·simp only [Option.bind_eq_some_iff] at h
   obtain ⟨⟨w,s2⟩,hi,h⟩:=h
   have hq : RgL s2.ls ∧ RgW w:=by
    unfold instrP at hi
    split at hi
    ·split at hi
     ·unfold withinP at hi
      simp only [Option.bind_eq_some_iff] at hi
      obtain ⟨⟨c1,s3⟩,hb1,⟨⟨n1,e1⟩,s4⟩,hl1,hi⟩:=hi
      obtain ⟨f1,f2,f3⟩:=byteP_some hb1
      rw [← f2] at hs
      have hs4:=listP_rg st k (d + 1) [] s3 n1 e1 s4 hl1 hs (by simp)
      split at hi
      ·split at hi
       ·rw [Option.map_eq_some_iff] at hi
        obtain ⟨⟨⟨n2,e2⟩,s5⟩,hl2,he2⟩:=hi
        simp only [Prod.mk.injEq] at he2
        obtain ⟨rfl,rfl⟩:=he2
        exact ⟨listP_rg st k (d + 1) [] s4 n2 e2 _ hl2 hs4 (by simp),hz _ _ _⟩
       ·cases hi
        exact ⟨hs4,hz _ _ _⟩
      ·cases hi
       exact ⟨hs4,hz _ _ _⟩
     ·cases hi
    ·obtain ⟨_,a2,_⟩:=leafP_some hi
     rw [a2]
     exact ⟨hs,leafP_rg hi⟩
   refine listP_rg st k d _ s2 n e s' h hq.1 fun w' hw'=>?_
   rcases List.mem_append.1 hw' with h1 | h1
   ·exact hl w' h1
   ·simp only [List.mem_singleton] at h1
    subst h1
    exact hq.2
theorem functionP_size {st : Bool} {f f' : F} {s s' : Rs} (h : functionP st f s = some (f',s')) (hl : f.locals = []) : (∃ c,codeF f' = some c ∧ c.length + 11 * s'.b.length ≤ 11 * s.b.length + 11 * f'.locals.length + 40) ∧ f'.lists.length ≤ s.b.length ∧ (∀ ws ∈ f'.lists,ws.length ≤ s.b.length) ∧ RgL f'.lists := by
 obtain ⟨⟨_,_,⟨st0,k0,s00,e0,s0',k1,k2,k3⟩,_⟩,hn,_,_⟩:=functionP_some h hl
 unfold functionP at h
 simp only [Option.bind_eq_some_iff,Option.map_eq_some_iff] at h
 obtain ⟨⟨n1,s1⟩,h1,⟨n2,s2⟩,h2,⟨gs,s3⟩,h3,⟨⟨n,e⟩,s4⟩,h4,h5⟩:=h
 simp only [Prod.mk.injEq] at h5
 obtain ⟨hf',hs'⟩:=h5
 subst hf'
 subst hs'
 have l1:=num_len h1
 have l2:=num_len h2
 have l3:=groups_len h3
 simp only at l1 l2 l3 h4
 obtain ⟨_,d2,d3,⟨ws0,d4⟩,_,_,_⟩:=listP_ls _ _ _ _ _ _ _ _ h4
 obtain ⟨z1,z2⟩:=listP_size _ _ _ _ _ _ _ _ h4
 have hr:=listP_rg _ _ _ _ _ _ _ _ h4 (by simp [RgL]) (by simp)
 have hc:=listP_can _ _ _ _ _ _ _ _ h4 (by intro i ws hi; simp at hi) (by simp)
 simp at z1 d3
 have hpos : 0 < s4.ls.length:=by omega
 have hnn : n = (s4.ls.length : Int) - 1:=by omega
 obtain ⟨x,hx⟩:=encL_some hc (s4.ls.length - 1) s4.ls.length (by omega) (by omega)
 have hx' : encL s4.ls s4.ls.length ((s4.ls.length : Int) - 1) = some x:=by
  rwa [show (((s4.ls.length - 1 : Nat)) : Int) = (s4.ls.length : Int) - 1 from by omega] at hx
 refine ⟨⟨sizedL (localsL (f.locals ++ gs.flatten) ++ x ++ [11]),by unfold codeF; rw [hx']; rfl,?_⟩,by simp only; omega,fun ws hw=>?_,hr⟩
 ·obtain ⟨j,hj⟩ : ∃ j,s4.ls.length = j + 1:=⟨s4.ls.length - 1,by omega⟩
  have hx2:=hx'
  rw [hj,encL,if_neg (by omega)] at hx2
  rw [hnn] at d4
  have e1 : (((j + 1 : Nat) : Int) - 1) = (s4.ls.length : Int) - 1:=by omega
  rw [e1,d4] at hx2
  have:=listP_len (fin:=s4.ls) _ _ _ _ _ _ _ h4 (List.prefix_refl _) j ws0 x (by rw [hnn,d4]) (by simpa using hx2)
  have hlo:=localsRows_len (f.locals ++ gs.flatten).length (f.locals ++ gs.flatten)
  have hsb:=sumB_flat (localsRows (f.locals ++ gs.flatten).length (f.locals ++ gs.flatten))
  have hu1:=uI_len ((localsRows (f.locals ++ gs.flatten).length (f.locals ++ gs.flatten)).length : Int)
  have hu2:=uI_len (((localsL (f.locals ++ gs.flatten) ++ x ++ [11]).length : Nat) : Int)
  simp only at this
  simp only [sizedL,List.length_append,localsL,rowL,List.length_cons,List.length_nil] at hu1 hu2 ⊢
  simp only [List.length_append] at hlo hsb
  omega
 ·have:=z2 s3.b.length (by simp) (by simp) ws hw
  omega
theorem functionsP_size {st : Bool} : ∀ {hs fs : List F} {s s' : Rs},functionsP st hs s = some (fs,s') → (∀ f ∈ hs,f.locals = []) → (∃ cs,codesF fs = some cs ∧ cs.flatten.length + 11 * s'.b.length ≤ 11 * s.b.length + 11 * manyL fs + 40 * fs.length) ∧ ∀ f ∈ fs,f.lists.length ≤ s.b.length ∧ (∀ ws ∈ f.lists,ws.length ≤ s.b.length) ∧ RgL f.lists
 | [],fs,s,s',h,_=>by
  cases h
  exact ⟨⟨[],rfl,by simp [manyL]⟩,by simp⟩
 | f :: hs,fs,s,s',h,hl=>by
  have hl0:=functionsP_some h hl
  rw [functionsP] at h
  simp only [Option.bind_eq_some_iff,Option.map_eq_some_iff] at h
  obtain ⟨⟨f',s1⟩,h1,⟨fs',s2⟩,h2,h3⟩:=h
  cases h3
  obtain ⟨⟨c,a1,a2⟩,a3,a4,a5⟩:=functionP_size h1 (hl f (by simp))
  obtain ⟨⟨cs,b1,b2⟩,b3⟩:=functionsP_size h2 fun g hg=>hl g (by simp [hg])
  have:=functionP_len h1
  have hm : manyL (f' :: fs') = f'.locals.length + manyL fs':=rfl
  simp only at *
  refine ⟨⟨c :: cs,by rw [codesF,a1]; simp only [Option.bind_some]; rw [b1]; rfl,?_⟩,fun g hg=>?_⟩
  ·rw [List.flatten_cons,List.length_append,hm,List.length_cons]
   omega
  ·rcases List.mem_cons.1 hg with rfl | hg
   ·exact ⟨a3,a4,a5⟩
   ·obtain ⟨q1,q2,q3⟩:=b3 g hg
    exact ⟨by omega,fun ws hw=>by have:=q2 ws hw; omega,q3⟩
theorem codesF_noname : ∀ {fs fs' : List F},fs'.map noname = fs.map noname → codesF fs' = codesF fs
 | [],[],_=>rfl
 | [],_ :: _,h=>by simp at h
 | _ :: _,[],h=>by simp at h
 | f :: fs,f' :: fs',h=>by
  simp only [List.map_cons,List.cons.injEq] at h
  obtain ⟨h1,h2⟩:=h
  have e1 : f'.lists = f.lists:=by have:=congrArg F.lists h1; exact this
  have e2 : f'.locals = f.locals:=by have:=congrArg F.locals h1; exact this
  have e : codeF f' = codeF f:=by unfold codeF; rw [e1,e2]
  rw [codesF,codesF,e,codesF_noname h2]
theorem namesP_size {st : Bool} : ∀ {fs fs' : List F} {s s' : Rs},namesP st fs s = some (fs',s') → (∀ i,(namesF i fs').flatten.length + s'.b.length ≤ s.b.length + 20 * fs'.length) ∧ (∀ f ∈ fs',f.name.length ≤ s.b.length) ∧ fs'.length = fs.length
 | [],fs',s,s',h=>by
  cases h
  exact ⟨fun i=>by simp [namesF],by simp,rfl⟩
 | f :: fs,fs',s,s',h=>by
  rw [namesP] at h
  simp only [Option.bind_eq_some_iff,Option.map_eq_some_iff] at h
  obtain ⟨⟨n1,s1⟩,h1,⟨n2,s2⟩,h2,⟨p,s3⟩,h3,⟨fs2,s4⟩,h4,h5⟩:=h
  cases h5
  obtain ⟨a1,a2,a3⟩:=namesP_size h4
  have l1:=num_len h1
  have l2:=num_len h2
  have l3:=(takeP_some h3).1
  have l4 : s2.b.length = p.length + s3.b.length:=by rw [l3]; simp
  simp only at *
  refine ⟨fun i=>?_,fun g hg=>?_,by simp [a3]⟩
  ·have u1:=uI_len i
   have u2:=sized_len p
   have:=a1 (i + 1)
   simp only [namesF,List.flatten_cons,List.length_append,List.length_cons]
   omega
  ·rcases List.mem_cons.1 hg with rfl | hg
   ·simp only; omega
   ·have:=a2 g hg; omega
theorem heads_size {st : Bool} : ∀ {n : Nat} {s s' : Rs} {l : List F},repP (headP st) n s = some (l,s') → s'.b.length + l.length + (l.map fun f => f.params.length).sum ≤ s.b.length
 | 0,s,s',l,h=>by cases h; simp
 | n + 1,s,s',l,h=>by
  rw [repP] at h
  simp only [Option.bind_eq_some_iff,Option.map_eq_some_iff] at h
  obtain ⟨⟨t,s1⟩,h1,⟨l',s2⟩,h2,h3⟩:=h
  cases h3
  have a:=headP_len h1
  have b:=heads_size h2
  simp only [List.length_cons,List.map_cons,List.sum_cons] at *
  omega
theorem skipP_len {n : Int} {s s' : Rs} (h : skipP n s = some s') : s'.b.length ≤ s.b.length := by
 unfold skipP at h
 rw [Option.map_eq_some_iff] at h
 obtain ⟨⟨p,s1⟩,h1,rfl⟩:=h
 exact take_len h1
theorem nums_len {st : Bool} : ∀ {n : Nat} {s s' : Rs} {l : List Int},repP (numP st false) n s = some (l,s') → s'.b.length ≤ s.b.length
 | 0,_,_,_,h=>by cases h; exact Nat.le_refl _
 | n + 1,s,s',l,h=>by
  rw [repP] at h
  simp only [Option.bind_eq_some_iff,Option.map_eq_some_iff] at h
  obtain ⟨⟨t,s1⟩,h1,⟨l',s2⟩,h2,h3⟩:=h
  cases h3
  exact Nat.le_trans (nums_len h2) (num_len h1)
def paramsL (l : List F) : Nat := (l.map fun f => f.params.length).sum
theorem paramsL_drop (l : List F) (n : Nat) : paramsL (l.drop n) ≤ paramsL l := by
 have : paramsL (l.take n) + paramsL (l.drop n) = paramsL l:=by
  simp only [paramsL]
  rw [← List.sum_append,← List.map_append,List.take_append_drop]
 omega
theorem paramsL_mem {l : List F} {f : F} (h : f ∈ l) : f.params.length ≤ paramsL l := by
 induction l with
 | nil=>cases h
 | cons a l ih =>
  simp only [paramsL,List.map_cons,List.sum_cons] at *
  rcases List.mem_cons.1 h with rfl | h
  ·omega
  ·have:=ih h; omega
theorem headsP_size {s s' : Rs} {l : List F} (h : headsP s = some (l,s')) : s'.b.length + l.length + paramsL l ≤ s.b.length := by
 unfold headsP at h
 simp only [Option.bind_eq_some_iff] at h
 obtain ⟨s1,h1,⟨n,s2⟩,h2,⟨hs,s3⟩,h3,h4⟩:=h
 split at h4
 ·cases h4
  have a:=heads_size h3
  have b:=paramsL_drop hs 3
  have c:=num_len h2
  have d:=sec_lenP h1
  have e : (hs.drop 3).length ≤ hs.length:=by simp
  simp only [paramsL] at *
  omega
 ·cases h4
theorem frontP_size {s s' : Rs} {hs : List F} {mem mn : Int} (h : frontP s = some ((hs,mem,mn),s')) : s'.b.length + hs.length + paramsL hs ≤ s.b.length := by
 unfold frontP at h
 simp only [Option.bind_eq_some_iff,Option.map_eq_some_iff] at h
 obtain ⟨s1,h1,⟨hs',s2⟩,h2,s3,h3,s4,h4,s5,h5,s6,h6,s7,h7,s8,h8,⟨n9,s9⟩,h9,⟨l10,s10⟩,h10,s11,h11,s12,h12,s13,h13,s14,h14,⟨mem',s15⟩,h15,s16,h16,s17,h17,s18,h18,⟨mn',s19⟩,h19,h20⟩:=h
 cases h20
 have a1:=skipP_len h1
 have a2:=headsP_size h2
 have a3:=sec_lenP h3
 have a4:=skipP_len h4
 have a5:=skipP_len h5
 have a6:=skipP_len h6
 have a7:=skipP_len h7
 have a8:=sec_lenP h8
 have a9:=num_len h9
 have a10:=nums_len h10
 have a11:=sec_lenP h11
 have a12:=skipP_len h12
 have a13:=sec_lenP h13
 have a14:=skipP_len h14
 have a15:=num_len h15
 have a16:=skipP_len h16
 have a17:=sec_lenP h17
 have a18:=skipP_len h18
 have a19:=num_len h19
 simp only at *
 omega
theorem heads_bytes : ∀ (fs : List F),((fs.map fun f => headL f.params f.type).flatten).length ≤ 32 * fs.length + paramsL fs
 | []=>by simp
 | f :: fs=>by
  have ih:=heads_bytes fs
  have h1:=typesL_len f.params
  have h2:=resultsL_len f.type
  simp only [List.map_cons,List.flatten_cons,List.length_append,List.length_cons,paramsL,List.sum_cons,headL] at *
  omega
theorem nums_bytes : ∀ (fs : List F) (i : Int),(numsF i fs).flatten.length ≤ 10 * fs.length
 | [],_=>by simp [numsF]
 | f :: fs,i=>by
  have:=nums_bytes fs (i + 1)
  have:=uI_len i
  simp only [numsF,List.flatten_cons,List.length_append,List.length_cons]
  omega
theorem paramsL_noname {fs fs' : List F} (h : fs'.map noname = fs.map noname) : paramsL fs' = paramsL fs := by
 have : ∀ l : List F,paramsL l = ((l.map noname).map fun f=>f.params.length).sum:=fun l=>by simp only [paramsL,List.map_map]; rfl
 rw [this,this,h]
theorem paramsL_from : ∀ {st : Bool} {hs fs : List F} {s s' : Rs},functionsP st hs s = some (fs,s') → paramsL fs = paramsL hs
 | st,[],fs,s,s',h=>by cases h; rfl
 | st,f :: hs,fs,s,s',h=>by
  rw [functionsP] at h
  simp only [Option.bind_eq_some_iff,Option.map_eq_some_iff] at h
  obtain ⟨⟨f',s1⟩,h1,⟨fs',s2⟩,h2,h3⟩:=h
  cases h3
  have e : f'.params = f.params:=by
   unfold functionP at h1
   simp only [Option.bind_eq_some_iff,Option.map_eq_some_iff] at h1
   obtain ⟨_,_,_,_,_,_,_,_,h5⟩:=h1
   cases h5
   rfl
  simp only [paramsL,List.map_cons,List.sum_cons,e]
  have:=paramsL_from h2
  simp only [paramsL] at this
  omega
theorem module_size {b : List UInt8} {m : M} {s' : Rs} (h : moduleP ⟨b,[],0⟩ = some (m,s')) (hb : b.length ≤ 2 ^ 29) : (∀ f ∈ m.funcs,SzB f) ∧ m.funcs.length ≤ 2 ^ 30 ∧ (-(2 ^ 63) ≤ m.memory ∧ m.memory < 2 ^ 63) ∧ ∃ y,encM m = some y ∧ y.length ≤ 2 ^ 36 := by
 unfold moduleP at h
 simp only [Option.bind_eq_some_iff,Option.map_eq_some_iff] at h
 obtain ⟨⟨⟨hs,mem,mn⟩,s1⟩,h3,⟨fs,s2⟩,h4,h5⟩:=h
 simp only [Prod.mk.injEq] at h5
 obtain ⟨rfl,rfl⟩:=h5
 obtain ⟨a1,a2,a3,a4⟩:=frontP_some h3
 have a5:=frontP_size h3
 obtain ⟨b1,b2⟩:=backP_some h4 fun f hf=>(a1 f hf).1
 have b2:=b2 a4
 unfold backP at h4
 simp only [Option.bind_eq_some_iff] at h4
 obtain ⟨s4,h6,⟨c,s5⟩,h7,h8⟩:=h4
 split at h8
 ·simp only [Option.bind_eq_some_iff] at h8
  obtain ⟨⟨fs1,s6⟩,h9,s7,h10,s8,h11,⟨xx,s9⟩,h12,⟨y,s10⟩,h13,h14⟩:=h8
  split at h14
  ·obtain ⟨⟨cs,c1,c2⟩,c3⟩:=functionsP_size h9 fun f hf=>(a1 f hf).1
   have cl:=(functionsP_some h9 fun f hf=>(a1 f hf).1).2.2.2
   obtain ⟨d1,d2,d3⟩:=namesP_size h14
   have hnn:=namesP_some h14
   have l1:=sec_lenP h6
   have l2:=num_len h7
   have l3:=sec_lenP h10
   have l4:=skipP_len h11
   have l5:=num_len h12
   have l6:=num_len h13
   have hmn:=noname_many hnn
   have hpn:=paramsL_noname hnn
   have hpf:=paramsL_from h9
   simp only at *
   have hs6 : s6.b.length ≤ s5.b.length:=by
    have : ∀ {hs fs : List F} {s s' : Rs},functionsP false hs s = some (fs,s') → s'.b.length ≤ s.b.length:=by
     intro hs
     induction hs with
     | nil=>intro fs s s' h; cases h; exact Nat.le_refl _
     | cons f hs ih =>
      intro fs s s' h
      rw [functionsP] at h
      simp only [Option.bind_eq_some_iff,Option.map_eq_some_iff] at h
      obtain ⟨⟨f',s1⟩,h1,⟨fs',s2⟩,h2,h3⟩:=h
      cases h3
      exact Nat.le_trans (ih h2) (functionP_len h1)
    exact this h9
   refine ⟨fun f hf=>?_,by omega,a2,?_⟩
   ·obtain ⟨g,hg,e⟩:=noname_mem hnn hf
    have e1 : g.params = f.params:=by have:=congrArg F.params e; exact this
    have e3 : g.lists = f.lists:=by have:=congrArg F.lists e; exact this
    obtain ⟨q1,q2,q3⟩:=c3 g hg
    rw [e3] at q1 q2 q3
    have hp:=paramsL_mem hg
    rw [e1] at hp
    have hlo : f.locals.length ≤ manyL fs:=by
     have : ∀ {l : List F},f ∈ l → f.locals.length ≤ manyL l:=by
      intro l h
      induction l with
      | nil=>cases h
      | cons a l ih =>
       simp only [manyL,List.map_cons,List.sum_cons] at *
       rcases List.mem_cons.1 h with rfl | h
       ·omega
       ·have:=ih h; omega
     exact this hf
    have hna:=d2 f hf
    exact ⟨by omega,by omega,by omega,fun ws hw=>by have:=q2 ws hw; omega,by omega,q3⟩
   ·have hcc : codesF fs = some cs:=by rw [codesF_noname hnn]; exact c1
    refine ⟨_,by unfold encM; simp only; rw [hcc]; rfl,?_⟩
    have u1:=heads_bytes fs
    have u2:=nums_bytes fs 3
    have u3:=d1 3
    have u4 : (headsL fs).flatten.length ≤ 120 + (32 * fs.length + paramsL fs):=by
     have e1 : (headsL fs).flatten = headL [] 2 ++ (headL [2] 0 ++ (headL [1] 0 ++ (fs.map fun f=>headL f.params f.type).flatten)):=by simp [headsL]
     have e2 : (headL [] 2).length ≤ 40:=by decide
     have e3 : (headL [2] 0).length ≤ 40:=by decide
     have e4 : (headL [1] 0).length ≤ 40:=by decide
     rw [e1]
     simp only [List.length_append]
     omega
    have u5 : (rowL importsL).length ≤ 40:=by decide
    have s1':=sec_len 1 (rowL (headsL fs))
    have s2':=sec_len 2 (rowL importsL)
    have s3':=sec_len 3 (rowL (numsF 3 fs))
    have s5':=sec_len 5 [1,0,1]
    have s6':=sec_len 6 ([1,127,0,65] ++ sI mem ++ [11])
    have s7':=sec_len 7 ([1] ++ sizedL [109,97,105,110] ++ [0] ++ uI (mainL { funcs:=fs,memory:=mem,main:=IntKind.wrap .i64 (mn - 3) }))
    have s10':=sec_len 10 (rowL cs)
    have s0':=sec_len 0 (sizedL [110,97,109,101] ++ [1] ++ sizedL (rowL (namesF 3 fs)))
    have v1:=sized_len (rowL (namesF 3 fs))
    have v2:=sI_len mem
    have v3:=uI_len (mainL { funcs:=fs,memory:=mem,main:=IntKind.wrap .i64 (mn - 3) })
    have v4 : (sizedL [109,97,105,110]).length = 5:=by decide
    have v5 : (sizedL [110,97,109,101]).length = 5:=by decide
    have w1 : (rowL (headsL fs)).length ≤ 10 + (headsL fs).flatten.length:=by have:=uI_len (headsL fs).length; simp only [rowL,List.length_append]; omega
    have w3 : (rowL (numsF 3 fs)).length ≤ 10 + (numsF 3 fs).flatten.length:=by have:=uI_len (numsF 3 fs).length; simp only [rowL,List.length_append]; omega
    have w10 : (rowL cs).length ≤ 10 + cs.flatten.length:=by have:=uI_len cs.length; simp only [rowL,List.length_append]; omega
    have w0 : (rowL (namesF 3 fs)).length ≤ 10 + (namesF 3 fs).flatten.length:=by have:=uI_len (namesF 3 fs).length; simp only [rowL,List.length_append]; omega
    have hmg : magicL.length = 8:=rfl
    simp only [List.length_append,List.length_cons,List.length_nil] at *
    omega
  ·cases h14
 ·cases h8
end Go.Proofs.YthejpoplbllcbaaGreatDoor
set_option linter.unusedSimpArgs false
set_option linter.unusedVariables false
namespace Go.Proofs.YthejpoplbllcbaaGreatDoor
open Go Go.Abs
@[simp] theorem aeq_if20b (t : Nat) (v : AV) : aeq Tryz.prog 20 (.iface t v) .nilif = some false := by simp [aeq,aeq1,show Tryz.prog.underlying 20 = some (.interface #[]) from by kernel_rfl]
@[simp] theorem aeq_nil20b : aeq Tryz.prog 20 .nilif .nilif = some true := by simp [aeq,aeq1,show Tryz.prog.underlying 20 = some (.interface #[]) from by kernel_rfl]
@[simp] theorem abin_if20b (t : Nat) (v : AV) (K : AV → Prop) : abin Tryz.prog .neq 20 (.iface t v) .nilif K = K (.bool true) := by simp [abin]
@[simp] theorem abin_nil20b (K : AV → Prop) : abin Tryz.prog .neq 20 .nilif .nilif K = K (.bool false) := by simp [abin]
@[simp] theorem aq_normalb (H : Option AV → (Nat → AV) → AS → Prop) (a : Nat → AV) (σ : AS) : aq H .normal a σ = H none a σ := Eq.trans rfl rfl
@[simp] theorem aq_retb (H : Option AV → (Nat → AV) → AS → Prop) (a : Nat → AV) (σ : AS) : aq H .ret a σ = H none a σ := Eq.trans rfl rfl
@[simp] theorem aq_panicb (H : Option AV → (Nat → AV) → AS → Prop) (v : AV) (a : Nat → AV) (σ : AS) : aq H (.panic v) a σ = H (some v) a σ := Eq.trans rfl rfl
section
variable {G : Env} {σ : AS} {R : Out → AS → Prop}
theorem BytO.bv {σ v bs} (h : BytO σ v bs) : ∃ β,BV β v bs ∧ ∀ f,β = some f → f < σ.nf ∧ σ.F f = .alive := by
 rcases h with ⟨rfl,rfl⟩ | ⟨φ,rfl,r⟩
 ·exact ⟨none,.inl ⟨rfl,rfl⟩,by simp⟩
 ·refine ⟨famO φ,.inr ⟨φ,rfl,rfl⟩,fun f e=>?_⟩
  cases φ with
  | stat b=>cases e
  | fam g b=>cases e; exact ⟨r.1,r.2⟩
theorem outE_of {τ τ' : AS} {base v l} (h : Al.OutE τ base v l) (hn : τ.nf ≤ τ'.nf) (hF : ∀ f,f < τ.nf → τ'.F f = τ.F f) : Al.OutE τ' base v l := by
 rcases h with h | ⟨g,rows,ps,h1,h2,h3,h4,h5,h6,h7⟩
 ·exact .inl h
 ·exact .inr ⟨g,rows,ps,h1,h2,by omega,(hF g h3).trans h4,h5,h6,h7.nd,fun x hx=>by
   obtain ⟨q1,q2,q3,q4⟩:=h7.each x hx
   exact ⟨q1,by omega,(hF x q2).trans q3,q4⟩⟩
theorem mE_of {τ τ' : AS} {base v m} (h : Al.ME τ base v m) (hn : τ.nf ≤ τ'.nf) (hF : ∀ f,f < τ.nf → τ'.F f = τ.F f) : Al.ME τ' base v m := by
 obtain ⟨fv,rfl,h⟩:=h
 exact ⟨fv,rfl,outE_of h hn hF⟩
def zeroMV : AV := .agg [.nilsl,.int .i64 0,.int .i64 0]
set_option maxRecDepth 20000 in
theorem decode_calls (V : VarsB G) (h00 : 0 < σ.nf ∧ σ.F 0 = .alive) {v : AV} {bs : List UInt8} (hv : BytO σ v bs) (hl : bs.length ≤ 2 ^ 29)
  (hn : decodeP bs = none → ∀ e σ',(e = 2 ∨ e = 3 ∨ e = 9) → Adds σ σ' → R (.ret (.tuple [zeroMV,.int .i64 e])) σ')
  (hs : ∀ m,decodeP bs = some m → ∀ mv σ',Al.ME σ' σ.nf mv m → Adds σ σ' → R (.ret (.tuple [mv,.int .i64 0])) σ') : ACalls Tryz.prog G 8 [v] σ R:=by
 refine acalls_recover (px:=pc8_x) (pz:=pc8_z) (k:=27) (py:=pc27_h) (n:=34) (nk:=9) (t:=5) (d0:=3) (d1:=2) (res:=[.cell 2 27,.cell 3 28]) mixed Tryz.func8 rfl rfl rfl rfl (by kernel_rfl) (by kernel_rfl) (by simp) rfl rfl rfl rfl rfl rfl (by decide) Tryz.func27 rfl (by kernel_rfl) rfl rfl rfl rfl rfl rfl rfl rfl rfl (by kernel_rfl) (by decide) (by decide) (by decide) ?_
 have v1:=hv.one
 simp [pc8_x]
 have ecap : List.map (ev G (upd (upd (frame0 [v]) 2 (AV.ptr σ.no 0)) 3 (AV.ptr (σ.no + 1) 0))) #[Operand.tmp 2,Operand.tmp 3].toList = [.ptr σ.no 0,.ptr (σ.no + 1) 0]:=rfl
 rw [ecap]
 generalize hfr : upd (upd (upd (frame0 [v]) 2 (AV.ptr σ.no 0)) 3 (AV.ptr (σ.no + 1) 0)) 5 (AV.fn (Fn.func 27) [] [AV.ptr σ.no 0,AV.ptr (σ.no + 1) 0]) = fr
 have fr0 : fr 0 = v:=by rw [← hfr]; simp
 have fr2 : fr 2 = .ptr σ.no 0:=by rw [← hfr]; simp
 have fr3 : fr 3 = .ptr (σ.no + 1) 0:=by rw [← hfr]; simp
 have hno1 : ((σ.newO [AV.nilsl,AV.int IntKind.i64 0,AV.int IntKind.i64 0]).newO [AV.int IntKind.i64 0]).no = σ.no + 2:=by simp
 have hnf1 : ((σ.newO [AV.nilsl,AV.int IntKind.i64 0,AV.int IntKind.i64 0]).newO [AV.int IntKind.i64 0]).nf = σ.nf:=by simp
 have A1 : Adds σ ((σ.newO [AV.nilsl,AV.int IntKind.i64 0,AV.int IntKind.i64 0]).newO [AV.int IntKind.i64 0]):=(Adds.refl σ).newO.newO
 have hm1 : ((σ.newO [AV.nilsl,AV.int IntKind.i64 0,AV.int IntKind.i64 0]).newO [AV.int IntKind.i64 0]).objs σ.no = some [.nilsl,.int .i64 0,.int .i64 0]:=by simp
 have he1 : ((σ.newO [AV.nilsl,AV.int IntKind.i64 0,AV.int IntKind.i64 0]).newO [AV.int IntKind.i64 0]).objs (σ.no + 1) = some [.int .i64 0]:=by simp
 generalize (σ.newO [AV.nilsl,AV.int IntKind.i64 0,AV.int IntKind.i64 0]).newO [AV.int IntKind.i64 0] = σ1 at *
 -- what is recovered
 have hand : ∀ (ev : AV) (a : Nat → AV) (τ : AS) (mc : List AV),ErrV ev → a 2 = .ptr σ.no 0 → a 3 = .ptr (σ.no + 1) 0 → Adds σ τ → τ.objs σ.no = some mc → mc.length = 3 → τ.objs (σ.no + 1) = some [.int .i64 0] → σ.no + 1 < τ.no → (∀ e σ',(e = 2 ∨ e = 3 ∨ e = 9) → Adds σ σ' → R (.ret (.tuple [zeroMV,.int .i64 e])) σ') →
   AHandle Tryz.prog G 9 pc27_h 3 2 [.ptr σ.no 0,.ptr (σ.no + 1) 0] [.cell 2 27,.cell 3 28] R (some ev) a τ:=by
  intro ev a τ mc hev a2 a3 A hmc hml he hlt hh
  have hz : ∃ e,ev = .iface 28 (.int .i64 e) ∧ (e = 2 ∨ e = 3 ∨ e = 9):=by
   rcases hev with rfl | rfl | rfl
   ·exact ⟨2,rfl,by simp⟩
   ·exact ⟨3,rfl,by simp⟩
   ·exact ⟨9,rfl,by simp⟩
  obtain ⟨e,rfl,hz⟩:=hz
  obtain ⟨x1,x2,x3,rfl⟩ : ∃ x y z,mc = [x,y,z]:=by
   match mc,hml with
   | [x,y,z],_=>exact ⟨x,y,z,rfl⟩
  simp [AHandle,pc27_h,he,hmc,splice,a2,a3]
  exact hh e _ hz ((A.setO (Nat.le_refl _)).setO (by omega))
 have nope : decodeP bs = none → ∀ e σ',(e = 2 ∨ e = 3 ∨ e = 9) → Adds σ σ' → R (.ret (.tuple [zeroMV,.int .i64 e])) σ':=hn
 simp [pc8_z,fr0,fr2,fr3,splice,v1]
 refine clone_calls (hv.keep A1) (by omega) fun v' σ2 hv2 A2=>?_
 obtain ⟨β,hbv,hβ⟩:=hv2.bv
 have w1:=hv2.one
 have n2:=A2.no
 have f2:=A2.nf
 simp [w1,splice,fr2,fr3]
 have hR : Rdr σ2.nf β σ2.no ⟨bs,[],0⟩ (σ2.newO [v',.nilsl,.int .i64 0]):=⟨by simp,⟨by omega,by simp⟩,by simpa using ((A1.trans A2).fam 0 h00.1).trans h00.2,hβ,v',.nilsl,by simp,hbv,.inl ⟨rfl,rfl⟩⟩
 refine module_calls V hR ((A2).newO) (by omega) (by omega) (by simp; omega) (by simp) (fun hq ev σ3 hev A3=>?_) fun m s' hq σ3 mv hm A3 hR3=>?_
 ·simp
  refine hand ev _ σ3 _ hev (by simp [hide,fr2]) (by simp [hide,fr3]) (A1.trans A3) ((A3.obj _ (by omega)).trans hm1) rfl ((A3.obj _ (by omega)).trans he1) (by have:=A3.no; omega) (nope (by simp [decodeP,hq]))
 obtain ⟨z1,z2,z3,y,hy,hyl⟩:=module_size hq hl
 have hdec : decodeP bs = if s'.b = [] ∧ m.funcs.all typedF = true ∧ rangedM m = true ∧ encM m = some bs then some m else none:=by simp [decodeP,hq]
 have n3:=A3.no
 have f3:=A3.nf
 have hm':=hm
 obtain ⟨fv,rfl,hof⟩:=hm'
 have fv1 : fv.known = true ∧ fv.one = true ∧ fv.cells = [fv]:=by
  rcases hof with ⟨_,rfl⟩ | ⟨_,_,_,rfl,_⟩ <;> simp
 have hm3:=(A3.obj σ.no (by omega)).trans hm1
 have he3:=(A3.obj (σ.no + 1) (by omega)).trans he1
 obtain ⟨bv,lv,ho3,hbv3,hlv3⟩:=hR3.cells
 have b31:=hbv3.one
 have bl3:=(BV.byt hR3 hbv3).len
 have hx3:=hR3.hx
 have hne : ¬ σ2.no = σ.no:=by omega
 simp [fr2,fr3,hm3,splice,hne,ho3,b31,bl3,fv1]
 have hmT : Al.ME (σ3.setO σ.no [fv,.int .i64 m.memory,.int .i64 m.main]) σ.nf (.agg [fv,.int .i64 m.memory,.int .i64 m.main]) m:=mE_of (τ:=σ3) (by rw [hnf1] at hm; exact hm) (Nat.le_refl _) fun _ _=>rfl
 have AT : Adds σ (σ3.setO σ.no [fv,.int .i64 m.memory,.int .i64 m.main]):=(A1.trans A3).setO (Nat.le_refl _)
 have hmo : (σ3.setO σ.no [fv,.int .i64 m.memory,.int .i64 m.main]).objs σ.no = some [fv,.int .i64 m.memory,.int .i64 m.main]:=by simp
 have heo : (σ3.setO σ.no [fv,.int .i64 m.memory,.int .i64 m.main]).objs (σ.no + 1) = some [.int .i64 0]:=by simp [he3]
 have hnoT : σ.no + 2 ≤ (σ3.setO σ.no [fv,.int .i64 m.memory,.int .i64 m.main]).no:=by simp; omega
 generalize σ3.setO σ.no [fv,.int .i64 m.memory,.int .i64 m.main] = τ at *
 have hfn:=AT.nf
 have hMO:=Al.m_e (σ:=τ) ⟨by omega,(AT.fam 0 h00.1).trans h00.2⟩ hmT
 have bad : ∀ (a : Nat → AV) (τ' : AS),decodeP bs = none → a 2 = .ptr σ.no 0 → a 3 = .ptr (σ.no + 1) 0 → Adds τ τ' → AHandle Tryz.prog G 9 pc27_h 3 2 [.ptr σ.no 0,.ptr (σ.no + 1) 0] [.cell 2 27,.cell 3 28] R (some (errV 2)) a τ':=fun a τ' hq2 a2 a3 A=>hand _ a τ' _ (.inl rfl) a2 a3 (AT.trans A) ((A.obj _ (by omega)).trans hmo) rfl ((A.obj _ (by omega)).trans heo) (by have:=A.no; omega) (nope hq2)
 by_cases c1 : s'.b = []
 ·simp [c1,fr2,fr3,hmo]
  refine typed_calls hMO (by omega) z1 fun τ4 A4=>?_
  have hm4:=(A4.obj σ.no (by omega)).trans hmo
  cases c2 : m.funcs.all typedF with
  | false =>
   simp [c2]
   refine must_calls (fun q=>by simp at q) (fun _=>?_)
   simp
   exact bad _ _ (by rw [hdec,if_neg (by simp [c2])]) (by simp [hide,fr2]) (by simp [hide,fr3]) A4
  | true =>
   simp [c2,fr2,fr3,hm4]
   refine ranged_calls (Al.MO.keep hMO A4) (by omega) z1 fun τ5 A5=>?_
   have A45:=A4.trans A5
   have hm5:=(A45.obj σ.no (by omega)).trans hmo
   cases c3 : rangedM m with
   | false =>
    simp [c3]
    refine must_calls (fun q=>by simp at q) (fun _=>?_)
    simp
    exact bad _ _ (by rw [hdec,if_neg (by simp [c3])]) (by simp [hide,fr2]) (by simp [hide,fr3]) A45
   | true =>
    simp [c3,fr2,fr3,hm5]
    refine encode_calls V (Al.MO.keep hMO A45) hy hyl z2 z1 z3 fun v6 τ6 h6=>?_
    have A6:=A45.trans h6.2
    have hm6:=(A6.obj σ.no (by omega)).trans hmo
    have he6:=(A6.obj (σ.no + 1) (by omega)).trans heo
    simp [fr2,fr3,fr0]
    refine equal_calls h6.byt (hv.keep (AT.trans A6)) ?_
    by_cases c4 : y = bs
    ·simp [c4]
     refine must_calls (fun _=>?_) (fun q=>by simp at q)
     simp [fr2,fr3,hm6,he6,AHandle,pc27_h,splice,fv1]
     have AA : Adds σ ((τ6.setO σ.no [fv,AV.int IntKind.i64 m.memory,AV.int IntKind.i64 m.main]).setO (σ.no + 1) [AV.int IntKind.i64 0]):=((AT.trans A6).setO (Nat.le_refl _)).setO (by omega)
     refine hs m (by rw [hdec,if_pos ⟨c1,c2,c3,by rw [hy,c4]⟩]) _ _ (mE_of (τ:=τ) hmT A6.nf fun f hf=>A6.fam f hf) AA
    ·simp [c4]
     refine must_calls (fun q=>by simp at q) (fun _=>?_)
     simp
     exact bad _ _ (by rw [hdec,if_neg (by rw [hy]; simp [c4])]) (by simp [hide,fr2]) (by simp [hide,fr3]) A6
 ·simp [c1]
  refine must_calls (fun q=>by simp at q) (fun _=>?_)
  simp
  exact bad _ _ (by rw [hdec,if_neg (by simp [c1])]) (by simp [hide,fr2]) (by simp [hide,fr3]) (.refl _)
end
end Go.Proofs.YthejpoplbllcbaaGreatDoor
set_option linter.unusedSimpArgs false
set_option linter.unusedVariables false
namespace Go.Proofs.YthejpoplbllcbaaGreatDoor
open Go Go.Abs
def sevenF : F := { name := [102],params := [],locals := [],type := 1,lists := [[{ op := 1,ty := 1,n := 7,body := 0,other := 0,name := [] }]] }
def sevenM : M := { funcs := [sevenF],memory := 16,main := 0 }
def sevenB : List UInt8 := [0,97,115,109,1,0,0,0,1,17,4,0x60,0,1,0x7E,0x60,1,0x7E,0,0x60,1,0x7F,0,0x60,0,1,0x7F,2,31,3,3,101,110,118,2,105,110,0,0,3,101,110,118,3,111,117,116,0,1,3,101,110,118,4,116,114,97,112,0,2,3,2,1,3,5,3,1,0,1,6,6,1,0x7F,0,0x41,16,0x0B,7,8,1,4,109,97,105,110,0,3,10,6,1,4,0,0x41,7,0x0B,0,11,4,110,97,109,101,1,4,1,3,1,102]
theorem seven_enc : encM sevenM = some sevenB := by decide
set_option maxRecDepth 100000 in
theorem seven_dec : decodeP sevenB = some sevenM := by rfl
@[simp] theorem blitK1 : blitSl 22 [(0,Operand.const (.int .u8 229)),(1,Operand.const (.int .u8 142)),(2,Operand.const (.int .u8 38))] = false := by decide
@[simp] theorem blitK2 : blitSl 22 [(0,Operand.const (.int .u8 192)),(1,Operand.const (.int .u8 187)),(2,Operand.const (.int .u8 120))] = false := by decide
theorem uK : uI 624485 = [229,142,38] := by decide
theorem sK : sI (-123456) = [192,187,120] := by decide
section
variable {G : Env} {σ : AS} {R : Out → AS → Prop}
theorem seven_calls (h : ∀ v σ',Al.MO σ' v sevenM → Adds σ σ' → R (.ret v) σ') : ACalls Tryz.prog G 17 [] σ R := by
 refine calls17 rfl ?_
 simp [pc17,splice]
 refine h _ _ ⟨_,rfl,.inr ⟨_,_,rfl,trivial,.cons ⟨_,_,_,rfl,.inl ⟨rfl,rfl⟩,.inl ⟨rfl,rfl⟩,.inr ⟨_,_,rfl,trivial,.cons (.inr ⟨_,rfl,trivial⟩) .nil⟩⟩ .nil⟩⟩ ((Adds.refl σ).newO.setO (Nat.le_refl _))
theorem known_calls (V : VarsB G) (h00 : 0 < σ.nf ∧ σ.F 0 = .alive) (h : ∀ σ',Adds σ σ' → R (.ret (.bool true)) σ') : ACalls Tryz.prog G 6 [] σ R := by
 refine calls6 rfl ?_
 simp [pc6]
 refine seven_calls fun v σ1 hv A1=>?_
 simp
 refine encode_calls V hv seven_enc (by decide) (by decide) (fun f hf=>?_) (by decide) fun b σ2 hb=>?_
 ·simp only [sevenM,List.mem_singleton] at hf
  subst hf
  exact ⟨by decide,by decide,by decide,by decide,by decide,fun ws hw w hx=>by simp [sevenF] at hw; subst hw; simp at hx; subst hx; exact ⟨by decide,by decide⟩⟩
 have b1:=hb.byt.one
 have A2:=A1.trans hb.2
 simp [b1]
 refine decode_calls V ⟨by have:=A2.nf; omega,(A2.fam 0 h00.1).trans h00.2⟩ hb.byt (by decide) (fun q=>by rw [seven_dec] at q; cases q) fun m hm mv σ3 hv3 A3=>?_
 rw [seven_dec] at hm
 cases hm
 have hv3':=hv3
 obtain ⟨fv,rfl,hof⟩:=hv3'
 have fv1 : fv.known = true ∧ fv.one = true ∧ fv.cells = [fv]:=by
  rcases hof with ⟨_,rfl⟩ | ⟨_,_,_,rfl,_⟩ <;> simp
 simp [fv1,splice]
 have A4 : Adds σ3 ((σ3.newO [AV.nilsl,.int .i64 0,.int .i64 0]).setO σ3.no [fv,.int .i64 sevenM.memory,.int .i64 sevenM.main]):=(Adds.refl σ3).newO.setO (Nat.le_refl _)
 have ho4 : ((σ3.newO [AV.nilsl,.int .i64 0,.int .i64 0]).setO σ3.no [fv,.int .i64 sevenM.memory,.int .i64 sevenM.main]).objs σ3.no = some [fv,.int .i64 sevenM.memory,.int .i64 sevenM.main]:=by simp
 have hl4 : σ3.no < ((σ3.newO [AV.nilsl,.int .i64 0,.int .i64 0]).setO σ3.no [fv,.int .i64 sevenM.memory,.int .i64 sevenM.main]).no:=by simp
 generalize (σ3.newO [AV.nilsl,.int .i64 0,.int .i64 0]).setO σ3.no [fv,.int .i64 sevenM.memory,.int .i64 sevenM.main] = τ at *
 have A5:=A2.trans (A3.trans A4)
 refine u_calls (by decide) fun v6 σ6 h6=>?_
 have B5:=A5.trans h6.2
 simp
 refine sameBytes_calls h6.byt (BytO.lit σ6 [229,142,38] rfl) (by rw [uK]; decide) ?_
 rw [uK]
 simp
 refine s_calls (by decide) fun v7 σ7 h7=>?_
 have B6:=B5.trans h7.2
 have C6 : Adds τ σ7:=h6.2.trans h7.2
 have ho7:=(C6.obj σ3.no hl4).trans ho4
 simp
 refine sameBytes_calls h7.byt (BytO.lit σ7 [192,187,120] rfl) (by rw [sK]; decide) ?_
 rw [sK]
 simp [ho7,fv1]
 refine seven_calls fun v8 σ8 hv8 A8=>?_
 have C8:=C6.trans A8
 have ho8:=(C8.obj σ3.no hl4).trans ho4
 have B8:=B6.trans A8
 have hme:=mE_of hv3 (A4.trans C8).nf fun f hf=>(A4.trans C8).fam f hf
 have hM:=Al.m_e (σ:=σ8) ⟨by have:=B8.nf; omega,(B8.fam 0 h00.1).trans h00.2⟩ hme
 simp [ho8,fv1]
 refine Al.eqM_calls hM hv8 (by decide) (fun f hf=>?_) fun σ9 A9=>?_
 ·simp only [sevenM,List.mem_singleton] at hf
  subst hf
  exact ⟨by decide,by decide,by decide,by decide⟩
 have hb9:=(hb.byt.keep (A3.trans (A4.trans (C8.trans A9))))
 have bl:=hb9.len
 obtain ⟨φ,hφ,hi⟩:=hb9.at (i:=1) (by decide)
 have hr:=hφ.read
 simp at hi
 simp [bl,hi,hr,sevenB]
 exact h _ (B8.trans A9)
end
end Go.Proofs.YthejpoplbllcbaaGreatDoor
set_option linter.unusedSimpArgs false
set_option linter.unusedVariables false
namespace Go.Proofs.YthejpoplbllcbaaGreatDoor
open Go Go.Abs
theorem byteI_or (n m : Int) (h1 : 128 ≤ m) (h2 : m < 256) (h3 : m % 128 = n % 128) : byteI m = byteI n ||| 128 := by
 apply UInt8.toNat_inj.1
 have e1:=byteI_nat m
 have e2:=byteI_nat n
 have e3:=or128 (byteI n)
 omega
theorem byteI_and (n m : Int) (h1 : 0 ≤ m) (h2 : m < 128) (h3 : m % 128 = n % 128) : byteI m = byteI n &&& 127 := by
 apply UInt8.toNat_inj.1
 have e1:=byteI_nat m
 have e2:=byteI_nat n
 have e3:=and127 (byteI n)
 omega
def LitB (σ σ' : AS) (v : AV) (bs : List UInt8) : Prop := (v = .sl (.stat true) 1 (B bs) ∨ OutG σ' σ.nf 1 v (B bs)) ∧ Adds σ σ'
theorem LitB.byt {σ σ' v bs} (h : LitB σ σ' v bs) : BytO σ' v bs := by
 rcases h with ⟨h | h,A⟩
 ·exact .inr ⟨_,h,trivial⟩
 ·exact NewB.byt ⟨h,A⟩
theorem LitB.behind {σ σ1 σ2 v bs} (A : Adds σ σ1) (h : LitB σ1 σ2 v bs) : LitB σ σ2 v bs := by
 rcases h with ⟨h | h,B⟩
 ·exact ⟨.inl h,A.trans B⟩
 ·have:=NewB.behind A ⟨h,B⟩
  exact ⟨.inr this.1,this.2⟩
theorem LitB.keep {σ τ τ' v x} (h : LitB σ τ v x) (A : Adds τ τ') : LitB σ τ' v x := by
 rcases h with ⟨h | h,B⟩
 ·exact ⟨.inl h,B.trans A⟩
 ·exact ⟨.inr (h.keep A),B.trans A⟩
section
variable {G : Env} {σ : AS} {R : Out → AS → Prop}
theorem lit_app {σ1 : AS} {v1 v2 : AV} {x y : List UInt8} {K : AV → AS → Prop} (h1 : LitB σ σ1 v1 x) (h2 : BytO σ1 v2 y) (hl : x.length + y.length ≤ 2 ^ 42) (h : ∀ v σ',LitB σ σ' v (x ++ y) → K v σ') :
  asource Tryz.prog 22 (.int .u8 0) 1 v2 σ1.F fun ys=>(∀ y,y ∈ ys → y.cells.length = 1 ∧ ∀ c,c ∈ y.cells → c.one = true) ∧ grown 1 1 v1 ys σ1 K:=by
 have hA:=h1.2
 have hgn:=hA.nf
 have nw : ∀ (z : List UInt8),OutG σ1.newF σ.nf 1 (.sl (.fam σ1.nf false) 1 (B z)) (B z):=fun z=>.inr ⟨σ1.nf,rfl,hgn,by simp,by simp⟩
 have key : ∀ ys,ys = B y → grown 1 1 v1 ys σ1 K:=fun ys e=>by
  subst e
  have h1':=h1.1
  rcases h1' with rfl | ⟨h3,rfl⟩ | ⟨g,rfl,g1,g2,g3⟩
  ·cases y with
   | nil =>
    have e0 : B [] = []:=rfl
    rw [e0]
    simp
    have:=h _ _ (by rw [List.append_nil]; exact h1)
    exact ⟨by simp at hl; omega,this⟩
   | cons c y =>
    have:=h (.sl (.fam σ1.nf false) 1 (B (x ++ c :: y))) σ1.newF ⟨.inr (nw _),hA.newF⟩
    simp only [B,List.map_append,List.map_cons] at this ⊢
    simp
    simp at hl
    exact ⟨by omega,this⟩
  ·have hx : x = []:=by simpa [B] using h3
   subst hx
   cases y with
   | nil =>
    have e0 : B [] = []:=rfl
    rw [e0]
    simp
    exact h _ _ h1
   | cons c y =>
    have:=h (.sl (.fam σ1.nf false) 1 (B (c :: y))) σ1.newF ⟨.inr (nw _),hA.newF⟩
    simp only [B,List.map_cons] at this ⊢
    simp
    simp at hl
    exact ⟨by omega,this⟩
  ·simp [g3]
   refine ⟨by omega,h _ _ ⟨.inr (.inr ⟨σ1.nf,by simp,hgn,by simp,by simp⟩),(hA.setF g1).newF (σ':=σ1.setF g .dead)⟩⟩
 rcases h2 with ⟨rfl,rfl⟩ | ⟨φ,rfl,hr⟩
 ·simp
  exact key [] rfl
 ·have hr':=hr.read
  simp [hr']
  exact ⟨B_one y,key _ rfl⟩
theorem ru_go : ∀ (k : Nat) {n : Int} {σ : AS} {R : Out → AS → Prop} (hn : n < 128 ^ (k + 1)) (h63 : n < 2 ^ 63) (h : ∀ v σ',LitB σ σ' v (uF (k + 1) n) → R (.ret v) σ'),k ≤ 9 → ACalls Tryz.prog G 25 [.int .i64 n] σ R
 | k,n,σ,R,hn,h63,h,hk9=>by
  refine calls25 rfl ?_
  rw [uF] at h
  by_cases hs : n < 128
  ·have hs' : n ≤ 127:=by omega
   rw [if_pos hs'] at h
   simp [pc25,hs,wrap_u8]
   exact h _ _ ⟨.inl rfl,.refl _⟩
  ·have hs' : ¬ n ≤ 127:=by omega
   rw [if_neg hs'] at h
   obtain ⟨k,rfl⟩ : ∃ j,k = j + 1:=by
    rcases Nat.eq_zero_or_pos k with rfl | q
    ·simp at hn; omega
    ·exact ⟨k - 1,by omega⟩
   have hlt : n / 128 < 128 ^ (k + 1):=by
    rw [Int.pow_succ] at hn
    omega
   have t1 : n.tmod 128 = n % 128:=Int.tmod_eq_emod_of_nonneg (by omega)
   have t2 : n.tdiv 128 = n / 128:=Int.tdiv_eq_ediv_of_nonneg (by omega)
   have w1 : IntKind.wrap .i64 (128 + n % 128) = 128 + n % 128:=by rw [wrap_i64] <;> omega
   have w2 : IntKind.wrap .i64 (n / 128) = n / 128:=by rw [wrap_i64] <;> omega
   have b1 : byteI (128 + n % 128) = byteI n ||| 128:=byteI_or n _ (by omega) (by omega) (by omega)
   have hl:=uF_len (k + 1) (n / 128)
   simp [pc25,hs,t1,t2,w1,w2,wrap_u8,b1,-UInt8.toNat_or]
   refine ru_go k hlt (by omega) (fun v σ1 hv=>?_) (by omega)
   simp [-UInt8.toNat_or]
   refine lit_app (x:=[byteI n ||| 128]) ⟨.inl (by simp [B]),hv.2⟩ hv.byt (by simp; omega) fun v' σ2 h2=>?_
   simp
   exact h _ _ h2
theorem ru_calls {n : Int} (hn : n < 2 ^ 63) (h : ∀ v σ',LitB σ σ' v (uI n) → R (.ret v) σ') : ACalls Tryz.prog G 25 [.int .i64 n] σ R := ru_go 9 (by omega) hn h (by omega)
theorem rs_go : ∀ (k : Nat) {n : Int} {σ : AS} {R : Out → AS → Prop} (h1 : -(64 * 128 ^ k) ≤ n) (h2 : n < 64 * 128 ^ k) (h63 : -(2 ^ 63) ≤ n ∧ n < 2 ^ 63) (h : ∀ v σ',LitB σ σ' v (sF (k + 1) n) → R (.ret v) σ'),k ≤ 9 → ACalls Tryz.prog G 23 [.int .i64 n] σ R
 | k,n,σ,R,h1,h2,h63,h,hk9=>by
  refine calls23 rfl ?_
  rw [sF] at h
  have hlow : (if n.tmod 128 < 0 then n.tmod 128 + 128 else n.tmod 128) = n % 128:=by
   have e:=Int.mul_tdiv_add_tmod n 128
   have e1:=Int.tmod_lt_of_pos n (b:=128) (by decide)
   have e2:=Int.lt_tmod_of_pos n (b:=128) (by decide)
   split <;> omega
  have w0 : n.tmod 128 < 0 → IntKind.wrap .i64 (n.tmod 128 + 128) = n % 128:=fun q=>by rw [if_pos q] at hlow; rw [hlow,wrap_i64] <;> omega
  have w0' : ¬ n.tmod 128 < 0 → n.tmod 128 = n % 128:=fun q=>by rw [if_neg q] at hlow; exact hlow
  have w1 : IntKind.wrap .i64 (128 + n % 128) = 128 + n % 128:=by rw [wrap_i64] <;> omega
  have w2 : IntKind.wrap .i64 (n - n % 128) = n - n % 128:=by rw [wrap_i64] <;> omega
  have t2 : (n - n % 128).tdiv 128 = n / 128:=by
   have e : n - n % 128 = 128 * (n / 128):=by omega
   rw [e,Int.mul_tdiv_cancel_left _ (by decide)]
  have w3 : IntKind.wrap .i64 (n / 128) = n / 128:=by rw [wrap_i64] <;> omega
  have b1 : byteI (128 + n % 128) = byteI n ||| 128:=byteI_or n _ (by omega) (by omega) (by omega)
  have b2 : byteI (n % 128) = byteI n &&& 127:=byteI_and n _ (by omega) (by omega) (by omega)
  by_cases hs : -64 ≤ n ∧ n ≤ 63
  ·rw [if_pos hs] at h
   have c1 : -64 ≤ n:=hs.1
   have c2 : n < 64:=by omega
   by_cases q : n.tmod 128 < 0
   ·have w0:=w0 q
    simp [pc23,q,w0,c1,c2,wrap_u8,b2,-UInt8.toNat_and]
    exact h _ _ ⟨.inl (by simp [B]),.refl _⟩
   ·have w0':=w0' q
    rw [w0'] at q
    simp [pc23,w0',q,c1,c2,wrap_u8,b2,-UInt8.toNat_and]
    exact h _ _ ⟨.inl (by simp [B]),.refl _⟩
  ·rw [if_neg hs] at h
   obtain ⟨k,rfl⟩ : ∃ j,k = j + 1:=by
    rcases Nat.eq_zero_or_pos k with rfl | q
    ·simp at h1 h2; omega
    ·exact ⟨k - 1,by omega⟩
   have hlt : n / 128 < 64 * 128 ^ k:=by
    rw [Int.pow_succ] at h2
    omega
   have hle : -(64 * 128 ^ k) ≤ n / 128:=by
    rw [Int.pow_succ] at h1
    omega
   have hl:=sF_len (k + 1) (n / 128)
   have fin : ∀ v σ1,LitB σ σ1 v (sF (k + 1) (n / 128)) → ∀ v' σ',LitB σ σ' v' ([byteI n ||| 128] ++ sF (k + 1) (n / 128)) → R (.ret v') σ':=fun _ _ _ v' σ' h2=>h _ _ h2
   by_cases c1 : -64 ≤ n
   ·have c2 : ¬ n < 64:=by omega
    by_cases q : n.tmod 128 < 0
    ·have w0:=w0 q
     simp [pc23,q,w0,c1,c2,wrap_u8,b1,w1,w2,t2,w3,-UInt8.toNat_or]
     refine rs_go k hle hlt (by omega) (fun v σ1 hv=>?_) (by omega)
     simp [-UInt8.toNat_or]
     refine lit_app (x:=[byteI n ||| 128]) ⟨.inl (by simp [B]),hv.2⟩ hv.byt (by simp; omega) fun v' σ2 h2=>?_
     simp
     exact h _ _ h2
    ·have w0':=w0' q
     rw [w0'] at q
     simp [pc23,w0',q,c1,c2,wrap_u8,b1,w1,w2,t2,w3,-UInt8.toNat_or]
     refine rs_go k hle hlt (by omega) (fun v σ1 hv=>?_) (by omega)
     simp [-UInt8.toNat_or]
     refine lit_app (x:=[byteI n ||| 128]) ⟨.inl (by simp [B]),hv.2⟩ hv.byt (by simp; omega) fun v' σ2 h2=>?_
     simp
     exact h _ _ h2
   ·by_cases q : n.tmod 128 < 0
    ·have w0:=w0 q
     simp [pc23,q,w0,c1,wrap_u8,b1,w1,w2,t2,w3,-UInt8.toNat_or]
     refine rs_go k hle hlt (by omega) (fun v σ1 hv=>?_) (by omega)
     simp [-UInt8.toNat_or]
     refine lit_app (x:=[byteI n ||| 128]) ⟨.inl (by simp [B]),hv.2⟩ hv.byt (by simp; omega) fun v' σ2 h2=>?_
     simp
     exact h _ _ h2
    ·have w0':=w0' q
     rw [w0'] at q
     simp [pc23,w0',q,c1,wrap_u8,b1,w1,w2,t2,w3,-UInt8.toNat_or]
     refine rs_go k hle hlt (by omega) (fun v σ1 hv=>?_) (by omega)
     simp [-UInt8.toNat_or]
     refine lit_app (x:=[byteI n ||| 128]) ⟨.inl (by simp [B]),hv.2⟩ hv.byt (by simp; omega) fun v' σ2 h2=>?_
     simp
     exact h _ _ h2
theorem rs_calls {n : Int} (hn : -(2 ^ 63) ≤ n ∧ n < 2 ^ 63) (h : ∀ v σ',LitB σ σ' v (sI n) → R (.ret v) σ') : ACalls Tryz.prog G 23 [.int .i64 n] σ R := rs_go 9 (by omega) (by omega) hn h (by omega)
end
end Go.Proofs.YthejpoplbllcbaaGreatDoor
set_option linter.unusedSimpArgs false
set_option linter.unusedVariables false
namespace Go.Proofs.YthejpoplbllcbaaGreatDoor
open Go Go.Abs
def UsesQ (σ : AS) (x f : Nat) : Prop := ∃ cs v,σ.objs x = some cs ∧ cs[3]? = some v ∧ famOf v = some f
structure KeepQ (x : Nat) (σ σ' : AS) : Prop where
 no : σ.no ≤ σ'.no
 nf : σ.nf ≤ σ'.nf
 obj : ∀ o,o < σ.no → o ≠ x → σ'.objs o = σ.objs o
 fam : ∀ f,f < σ.nf → ¬ UsesQ σ x f → σ'.F f = σ.F f
 use : ∀ f,f < σ.nf → UsesQ σ' x f → UsesQ σ x f
structure KeepP (x : Nat) (σ σ' : AS) : Prop where
 no : σ.no ≤ σ'.no
 nf : σ.nf ≤ σ'.nf
 obj : ∀ o,o < σ.no → o ≠ x → σ'.objs o = σ.objs o
 fam : ∀ f,f < σ.nf → σ'.F f = σ.F f
 lst : ∀ cs,σ.objs x = some cs → ∃ cs',σ'.objs x = some cs' ∧ cs'[3]? = cs[3]?
 some : (σ.objs x).isSome = true
structure Rq (base : Nat) (β : Option Nat) (x : Nat) (b : List UInt8) (at_ : Nat) (bad : Bool) (lv : AV) (many : Int) (σ : AS) : Prop where
 hx : x < σ.no
 hb : 0 < base ∧ base ≤ σ.nf
 h0 : σ.F 0 = .alive
 hβ : ∀ f,β = some f → f < base ∧ σ.F f = .alive
 le : at_ ≤ b.length
 hl : b.length ≤ 2 ^ 14
 lo : lv.known = true ∧ lv.one = true ∧ lv.cells = [lv]
 cells : ∃ bv,σ.objs x = some [bv,.int .i64 (at_ : Int),.bool bad,lv,.int .i64 many] ∧ BV β bv b
section
variable {G : Env} {σ : AS} {R : Out → AS → Prop}
end
end Go.Proofs.YthejpoplbllcbaaGreatDoor
set_option linter.unusedSimpArgs false
set_option linter.unusedVariables false
namespace Go.Proofs.YthejpoplbllcbaaGreatDoor
open Go Go.Abs
end Go.Proofs.YthejpoplbllcbaaGreatDoor
set_option linter.unusedSimpArgs false
set_option linter.unusedVariables false
namespace Go.Proofs.YthejpoplbllcbaaGreatDoor
open Go Go.Abs
section
variable {G : Env} {σ : AS} {R : Out → AS → Prop}
end
end Go.Proofs.YthejpoplbllcbaaGreatDoor
set_option linter.unusedSimpArgs false
set_option linter.unusedVariables false
namespace Go.Proofs.YthejpoplbllcbaaGreatDoor
open Go Go.Abs
def RSt (base : Nat) (β : Option Nat) (x : Nat) (b : List UInt8) (so : Option Rs) (σ : AS) : Prop := ∃ (at_ : Nat) (bad : Bool) (lv : AV) (many : Int) (ls : To),Rq base β x b at_ bad lv many σ ∧ ToR base σ lv ls ∧ match so with
 | none=>bad = true ∧ 0 ≤ many ∧ many ≤ 2 ^ 20
 | some s=>bad = false ∧ s.b = b.drop at_ ∧ many = (s.n : Int) ∧ s.n ≤ 2 ^ 20 ∧ s.ls = ls
section
variable {G : Env} {σ : AS} {R : Out → AS → Prop}
end
end Go.Proofs.YthejpoplbllcbaaGreatDoor
set_option linter.unusedSimpArgs false
set_option linter.unusedVariables false
namespace Go.Proofs.YthejpoplbllcbaaGreatDoor
open Go Go.Abs
section
variable {G : Env} {σ : AS} {R : Out → AS → Prop}
end
end Go.Proofs.YthejpoplbllcbaaGreatDoor
set_option linter.unusedSimpArgs false
set_option linter.unusedVariables false
namespace Go.Proofs.YthejpoplbllcbaaGreatDoor
open Go Go.Abs
def GrowQ (σ0 : AS) (x sz : Nat) (τ : AS) (v : AV) (xs : List AV) : Prop := (xs = [] ∧ v = .nilsl) ∨ ∃ g,v = .sl (.fam g false) sz xs ∧ σ0.nf ≤ g ∧ g < τ.nf ∧ τ.F g = .alive ∧ ¬ UsesQ τ x g
section
variable {G : Env} {σ : AS} {R : Out → AS → Prop}
end
end Go.Proofs.YthejpoplbllcbaaGreatDoor
set_option linter.unusedSimpArgs false
set_option linter.unusedVariables false
namespace Go.Proofs.YthejpoplbllcbaaGreatDoor
open Go Go.Abs
def rowsT : List (Int × W) := [(0x45,pw 5 1 0),(0x50,pw 5 2 0),(0xA7,pw 6 0 0),(0xAC,pw 7 0 0),(0x0F,pw 16 0 0),(0x00,pw 17 0 0),(0x1A,pw 18 0 0),
 (0x41,pw 1 1 0),(0x42,pw 1 2 0),(0x20,pw 2 0 0),(0x21,pw 3 0 0),(0x10,pw 10 0 0),(0x0C,pw 14 0 0),(0x0D,pw 15 0 0),
 (0x2C,pw 8 1 1),(0x28,pw 8 1 4),(0x29,pw 8 2 8),(0x3A,pw 9 1 1),(0x36,pw 9 1 4),(0x37,pw 9 2 8)]
def rowAV (p : Int × W) : AV := .agg (.int .i64 p.1 :: p.2.cs)
def onesZ : List Int := ones.map fun c => (c.toNat : Int)
def twosZ : List Int := twos.map fun c => (c.toNat : Int)
section
variable {G : Env} {σ : AS} {R : Out → AS → Prop}
theorem signs_calls (h : R (.ret (.tuple [.sl (.stat true) 1 (signNames.map AV.str),.sl (.stat true) 1 (onesZ.map (.int .i64)),.sl (.stat true) 1 (twosZ.map (.int .i64))])) σ) : ACalls Tryz.prog G 115 [] σ R := by
 refine calls115 rfl ?_
 simp [pc115]
 exact h
set_option maxRecDepth 20000 in
theorem rows_calls (h : R (.ret (.sl (.stat true) 7 (rowsT.map rowAV))) σ) : ACalls Tryz.prog G 116 [] σ R := by
 refine calls116 rfl ?_
 simp [pc116,splice]
 exact h
end
end Go.Proofs.YthejpoplbllcbaaGreatDoor
set_option linter.unusedSimpArgs false
set_option linter.unusedVariables false
namespace Go.Proofs.YthejpoplbllcbaaGreatDoor
open Go Go.Abs
end Go.Proofs.YthejpoplbllcbaaGreatDoor
set_option linter.unusedSimpArgs false
set_option linter.unusedVariables false
namespace Go.Proofs.YthejpoplbllcbaaGreatDoor
open Go Go.Abs
theorem lit_ones {i : Nat} (h : i < 16) : onesZ[i]? = some ((ones.getD i 0).toNat : Int) := by
 have : ∀ k : Fin 16,onesZ[k.1]? = some ((ones.getD k 0).toNat : Int):=by decide
 exact this ⟨i,h⟩
theorem lit_twos {i : Nat} (h : i < 16) : twosZ[i]? = some ((twos.getD i 0).toNat : Int) := by
 have : ∀ k : Fin 16,twosZ[k.1]? = some ((twos.getD k 0).toNat : Int):=by decide
 exact this ⟨i,h⟩
theorem lit_name {i : Nat} (h : i < 16) : signNames[i]? = some (signNames.getD i []) := by
 have : ∀ k : Fin 16,signNames[k.1]? = some (signNames.getD k []):=by decide
 exact this ⟨i,h⟩
theorem lit_row {i : Nat} (h : i < 20) : rowsT[i]? = some (rowsT.getD i (0,pw 0 0 0)) := by
 have : ∀ k : Fin 20,rowsT[k.1]? = some (rowsT.getD k (0,pw 0 0 0)):=by decide
 exact this ⟨i,h⟩
section
variable {G : Env} {σ : AS} {R : Out → AS → Prop}
end
end Go.Proofs.YthejpoplbllcbaaGreatDoor
set_option linter.unusedSimpArgs false
set_option linter.unusedVariables false
namespace Go.Proofs.YthejpoplbllcbaaGreatDoor
open Go Go.Abs
section
variable {G : Env} {σ : AS} {R : Out → AS → Prop}
end
end Go.Proofs.YthejpoplbllcbaaGreatDoor
set_option linter.unusedSimpArgs false
set_option linter.unusedVariables false
namespace Go.Proofs.YthejpoplbllcbaaGreatDoor
open Go Go.Abs
section
variable {G : Env} {σ : AS} {R : Out → AS → Prop}
end
end Go.Proofs.YthejpoplbllcbaaGreatDoor
set_option linter.unusedSimpArgs false
set_option linter.unusedVariables false
namespace Go.Proofs.YthejpoplbllcbaaGreatDoor
open Go Go.Abs
end Go.Proofs.YthejpoplbllcbaaGreatDoor
set_option linter.unusedSimpArgs false
set_option linter.unusedVariables false
namespace Go.Proofs.YthejpoplbllcbaaGreatDoor
open Go Go.Abs
section
variable {G : Env} {σ : AS} {R : Out → AS → Prop}
end
end Go.Proofs.YthejpoplbllcbaaGreatDoor
set_option linter.unusedSimpArgs false
set_option linter.unusedVariables false
namespace Go.Proofs.YthejpoplbllcbaaGreatDoor
open Go Go.Abs
end Go.Proofs.YthejpoplbllcbaaGreatDoor
set_option linter.unusedSimpArgs false
set_option linter.unusedVariables false
namespace Go.Proofs.YthejpoplbllcbaaGreatDoor
open Go Go.Abs
structure KeepC (x : Nat) (σ σ' : AS) : Prop where
 no : σ.no ≤ σ'.no
 nf : σ.nf ≤ σ'.nf
 obj : ∀ o,o < σ.no → o ≠ x → σ'.objs o = σ.objs o
 fam : ∀ f,f < σ.nf → σ'.F f = σ.F f
section
variable {G : Env} {σ : AS} {R : Out → AS → Prop}
end
end Go.Proofs.YthejpoplbllcbaaGreatDoor
set_option linter.unusedSimpArgs false
set_option linter.unusedVariables false
namespace Go.Proofs.YthejpoplbllcbaaGreatDoor
open Go Go.Abs
structure CoQ (base : Nat) (β : Option Nat) (x : Nat) (b : List UInt8) (f : F) (pv : AV) (σ : AS) (lv : AV) (L : List Int) (so : Option Rs) (τ : AS) : Prop where
 ob : τ.objs σ.no = some [.str f.name,pv,lv,.int .i64 f.type,.nilsl]
 rb : τ.objs (σ.no + 1) = some [.str [],.nilsl,.nilsl,.int .i64 0,.nilsl]
 lt : σ.no + 2 ≤ τ.no
 gr : GrowQ σ x 1 τ lv (L.map (.int .i64))
 rs : RSt base β x b so τ
 kp : KeepP x σ τ
 hx : x < σ.no
 pv1 : pv.known = true ∧ pv.one = true ∧ pv.cells = [pv]
section
variable {G : Env} {σ : AS} {R : Out → AS → Prop}
end
end Go.Proofs.YthejpoplbllcbaaGreatDoor
set_option linter.unusedSimpArgs false
set_option linter.unusedVariables false
namespace Go.Proofs.YthejpoplbllcbaaGreatDoor
open Go Go.Abs
section
variable {G : Env} {σ : AS} {R : Out → AS → Prop}
end
end Go.Proofs.YthejpoplbllcbaaGreatDoor
set_option linter.unusedSimpArgs false
set_option linter.unusedVariables false
namespace Go.Proofs.YthejpoplbllcbaaGreatDoor
open Go Go.Abs
section
variable {G : Env} {σ : AS} {R : Out → AS → Prop}
end
structure Mq (base : Nat) (β : Option Nat) (x : Nat) (b : List UInt8) (mc : List AV) (so : Option Rs) (σ τ : AS) : Prop where
 rs : RSt base β x b so τ
 rb : τ.objs σ.no = some [.nilsl,.int .i64 0,.int .i64 0]
 mb : τ.objs (σ.no + 1) = some mc
 lt : σ.no + 2 ≤ τ.no
 kp : KeepC x σ τ
 hx : x < σ.no
section
variable {G : Env} {σ : AS} {R : Out → AS → Prop}
end
end Go.Proofs.YthejpoplbllcbaaGreatDoor
set_option linter.unusedSimpArgs false
set_option linter.unusedVariables false
namespace Go.Proofs.YthejpoplbllcbaaGreatDoor
open Go Go.Abs
section
variable {G : Env} {σ : AS} {R : Out → AS → Prop}
end
end Go.Proofs.YthejpoplbllcbaaGreatDoor
set_option linter.unusedSimpArgs false
set_option linter.unusedVariables false
namespace Go.Proofs.YthejpoplbllcbaaGreatDoor
open Go Go.Abs
section
variable {G : Env} {σ : AS} {R : Out → AS → Prop}
end
end Go.Proofs.YthejpoplbllcbaaGreatDoor
set_option linter.unusedSimpArgs false
set_option linter.unusedVariables false
namespace Go.Proofs.YthejpoplbllcbaaGreatDoor
open Go Go.Abs
section
variable {G : Env} {σ : AS} {R : Out → AS → Prop}
end
end Go.Proofs.YthejpoplbllcbaaGreatDoor
set_option linter.unusedSimpArgs false
set_option linter.unusedVariables false
namespace Go.Proofs.YthejpoplbllcbaaGreatDoor
open Go Go.Abs
end Go.Proofs.YthejpoplbllcbaaGreatDoor
set_option linter.unusedSimpArgs false
set_option linter.unusedVariables false
namespace Go.Proofs.YthejpoplbllcbaaGreatDoor
open Go Go.Abs
@[simp] theorem blit_u8tmp (t i n j k) : blitSl t [(i,.const (.int .u8 n)),(j,.tmp k)] = false := by simp [blitSl]
theorem kind_byte {t : Int} (h : t = 1 ∨ t = 2) : (if t = 2 then (126 : Int) else 127) = ((byteI (128 - t)).toNat : Int) := by
 rcases h with rfl | rfl <;> decide
section
variable {G : Env} {σ : AS} {R : Out → AS → Prop}
theorem lit_grow {σ1 : AS} {v1 : AV} {ys : List AV} {x y : List UInt8} {K : AV → AS → Prop} (h1 : LitB σ σ1 v1 x) (e : ys = B y) (hl : x.length + y.length ≤ 2 ^ 42) (h : ∀ v σ',LitB σ σ' v (x ++ y) → σ'.objs = σ1.objs → σ'.no = σ1.no → K v σ') : grown 1 1 v1 ys σ1 K := by
 subst e
 have hA:=h1.2
 have hgn:=hA.nf
 have nw : ∀ (z : List UInt8),OutG σ1.newF σ.nf 1 (.sl (.fam σ1.nf false) 1 (B z)) (B z):=fun z=>.inr ⟨σ1.nf,rfl,hgn,by simp,by simp⟩
 have h1':=h1.1
 rcases h1' with rfl | ⟨h3,rfl⟩ | ⟨g,rfl,g1,g2,g3⟩
 ·cases y with
  | nil =>
   have e0 : B [] = []:=rfl
   rw [e0]
   simp
   have:=h _ _ (by rw [List.append_nil]; exact h1) rfl rfl
   exact ⟨by simp at hl; omega,this⟩
  | cons c y =>
   have:=h (.sl (.fam σ1.nf false) 1 (B (x ++ c :: y))) σ1.newF ⟨.inr (nw _),hA.newF⟩ (by simp) (by simp)
   simp only [B,List.map_append,List.map_cons] at this ⊢
   simp
   simp at hl
   exact ⟨by omega,this⟩
 ·have hx : x = []:=by simpa [B] using h3
  subst hx
  cases y with
  | nil =>
   have e0 : B [] = []:=rfl
   rw [e0]
   simp
   exact h _ _ h1 rfl rfl
  | cons c y =>
   have:=h (.sl (.fam σ1.nf false) 1 (B (c :: y))) σ1.newF ⟨.inr (nw _),hA.newF⟩ (by simp) (by simp)
   simp only [B,List.map_cons] at this ⊢
   simp
   simp at hl
   exact ⟨by omega,this⟩
 ·simp [g3]
  refine ⟨by omega,h _ _ ⟨.inr (.inr ⟨σ1.nf,by simp,hgn,by simp,by simp⟩),(hA.setF g1).newF (σ':=σ1.setF g .dead)⟩ (by simp) (by simp)⟩
theorem lit_src {σ1 : AS} {v1 v2 : AV} {x y : List UInt8} {K : AV → AS → Prop} (h1 : LitB σ σ1 v1 x) (h2 : BytO σ1 v2 y) (hl : x.length + y.length ≤ 2 ^ 42) (h : ∀ v σ',LitB σ σ' v (x ++ y) → σ'.objs = σ1.objs → σ'.no = σ1.no → K v σ') :
  asource Tryz.prog 22 (.int .u8 0) 1 v2 σ1.F fun ys=>(∀ y,y ∈ ys → y.cells.length = 1 ∧ ∀ c,c ∈ y.cells → c.one = true) ∧ grown 1 1 v1 ys σ1 K:=by
 rcases h2 with ⟨rfl,rfl⟩ | ⟨φ,rfl,hr⟩
 ·simp
  exact lit_grow (y:=[]) h1 rfl hl h
 ·have hr':=hr.read
  simp [hr']
  exact ⟨B_one y,lit_grow h1 rfl hl h⟩
theorem kindE_calls {t : Int} (ht : t = 1 ∨ t = 2) (h : R (.ret (.int .u8 ((byteI (128 - t)).toNat : Int))) σ) : ACalls Tryz.prog G 92 [.int .i64 t] σ R := by
 refine calls92 rfl ?_
 have hk:=kind_byte ht
 by_cases h2 : t = 2
 ·rw [if_pos h2] at hk
  simp [pc92,h2]
  rw [h2] at hk h
  rw [← hk] at h
  exact h
 ·rw [if_neg h2] at hk
  simp [pc92,h2]
  rw [← hk] at h
  exact h
def TyQ (v : AV) (l : List Int) (σ : AS) (a : Nat → AV) (τ : AS) : Prop := ∃ i : Nat,i ≤ l.length ∧ a 0 = v ∧ a 4 = .int .i64 (i : Int) ∧ LitB σ τ (a 3) (uI l.length ++ (l.map fun t => byteI (128 - t)).take i)
theorem typesE_calls {v : AV} {l : List Int} (hv : Al.IntsO σ v l) (hl : l.length ≤ 2 ^ 39) (ht : ∀ t ∈ l,t = 1 ∨ t = 2) (h : ∀ v' σ',LitB σ σ' v' (typesL l) → R (.ret v') σ') : ACalls Tryz.prog G 91 [v] σ R := by
 refine calls91 rfl ?_
 have v1:=hv.one
 have vl:=hv.len
 simp [pc91,v1,vl]
 refine ru_calls (by omega) fun u σ1 hu=>?_
 have u1:=hu.byt.one
 simp [u1]
 refine aloop (TyQ v l σ) (MU 4 (l.length + 1)) ⟨0,by omega,by simp,by simp,by simpa using hu⟩ fun a τ hI=>?_
 obtain ⟨i,hi,a0,a4,hL⟩:=hI
 have hvk:=hv.keep hL.2
 have vl:=hvk.len
 have l1:=hL.byt.one
 by_cases hlt : i < l.length
 ·have hlt' : (i : Int) < (l.length : Int):=by omega
  obtain ⟨φ,hrd,hix⟩:=hvk.at hlt
  have hrd:=hrd.read
  have w1 : IntKind.wrap .i64 ((i : Int) + 1) = ((i + 1 : Nat) : Int):=by rw [wrap_i64] <;> omega
  simp [pc91_l1,a0,a4,vl,hlt',hix,hrd]
  refine kindE_calls (ht _ (List.getElem_mem hlt)) ?_
  have:=uI_len (l.length : Int)
  simp [l1]
  refine lit_grow (y:=[byteI (128 - l[i])]) hL rfl (by simp; omega) fun v' τ' h' e1 e2=>?_
  have q1:=h'.byt.one
  simp [a0,a4,q1,w1]
  refine ⟨⟨i + 1,by omega,by simp [a0],by simp,?_⟩,?_⟩
  ·rw [List.take_add_one,List.getElem?_map,List.getElem?_eq_getElem hlt]
   simpa using h'
  ·simp only [MU,a4]; simp; omega
 ·have e : i = l.length:=by omega
  subst e
  simp [pc91_l1,a0,a4,vl,pc91_r1,l1]
  rw [List.take_of_length_le (by simp)] at hL
  exact h _ _ hL
theorem sizedE_calls {v : AV} {bs : List UInt8} (hv : BytO σ v bs) (hl : bs.length < 2 ^ 40) (h : ∀ v' σ',LitB σ σ' v' (sizedL bs) → R (.ret v') σ') : ACalls Tryz.prog G 54 [v] σ R := by
 refine calls54 rfl ?_
 have v1:=hv.one
 have vl:=hv.len
 simp [pc54,v1,vl]
 refine ru_calls (by omega) fun u σ1 hu=>?_
 have u1:=hu.byt.one
 have:=uI_len (bs.length : Int)
 simp [u1]
 refine lit_src hu (hv.keep hu.2) (by omega) fun v' σ' h' _ _=>?_
 have q1:=h'.byt.one
 simp [q1]
 exact h _ _ h'
theorem headE_calls {v : AV} {l : List Int} {g : Int} (hv : Al.IntsO σ v l) (hl : l.length ≤ 2 ^ 38) (ht : ∀ t ∈ l,t = 1 ∨ t = 2) (hg : g = 0 ∨ g = 1 ∨ g = 2) (h : ∀ v' σ',LitB σ σ' v' (headL l g) → R (.ret v') σ') : ACalls Tryz.prog G 51 [v,.int .i64 g] σ R := by
 refine calls51 rfl ?_
 have v1:=hv.one
 have hl1:=typesL_len l
 simp [pc51,v1]
 refine typesE_calls hv (by omega) ht fun u σ1 hu=>?_
 have u1:=hu.byt.one
 simp [u1]
 refine lit_src (x:=[96]) ⟨.inl (by simp [B]),hu.2⟩ hu.byt (by simp; omega) fun v2 σ2 h2 _ _=>?_
 have q1:=h2.byt.one
 by_cases g0 : g = 0
 ·simp [q1,g0]
  refine lit_grow (y:=[0]) h2 rfl (by simp; omega) fun v3 σ3 h3 _ _=>?_
  have q3:=h3.byt.one
  simp [q3]
  refine h _ _ ?_
  have e : headL l g = [96] ++ typesL l ++ [0]:=by
   unfold headL resultsL
   rw [if_pos g0]
   simp [show typesL [] = [0] from by decide]
  rw [e]
  simpa using h3
 ·simp [q1,g0]
  refine kindE_calls (by omega) ?_
  simp [q1]
  refine lit_grow (y:=[1,byteI (128 - g)]) h2 rfl (by simp; omega) fun v3 σ3 h3 _ _=>?_
  have q3:=h3.byt.one
  simp [q3]
  refine h _ _ ?_
  have e : headL l g = [96] ++ typesL l ++ [1,byteI (128 - g)]:=by
   unfold headL resultsL
   rw [if_neg g0]
   simp [typesL,show uI 1 = [1] from by decide]
  rw [e]
  simpa using h3
theorem nameE_calls {s : List UInt8} (hl : s.length < 2 ^ 40) (h : ∀ v' σ',LitB σ σ' v' (sizedL s) → R (.ret v') σ') : ACalls Tryz.prog G 55 [.str s] σ R := by
 refine calls55 rfl ?_
 simp [pc55]
 refine .inl ?_
 simp
 refine sizedE_calls (bs:=s) (.inr ⟨_,rfl,by simp,by simp⟩) hl fun u σ1 hu=>?_
 have hu' : LitB σ σ1 u (sizedL s):=hu.behind (Adds.refl σ).newF
 have u1:=hu'.byt.one
 simp [u1]
 exact h _ _ hu'
theorem sectionE_calls {n : UInt8} {v : AV} {bs : List UInt8} (hv : BytO σ v bs) (hl : bs.length < 2 ^ 40) (h : ∀ v' σ',LitB σ σ' v' (sectionL n bs) → R (.ret v') σ') : ACalls Tryz.prog G 56 [.int .i64 (n.toNat : Int),v] σ R := by
 refine calls56 rfl ?_
 have v1:=hv.one
 have hs:=sized_len bs
 have wn : IntKind.wrap .u8 (n.toNat : Int) = (n.toNat : Int):=by
  rw [wrap_u8,byteI_nat]
  have:=n.toNat_lt
  omega
 simp [pc56,v1,wn]
 refine sizedE_calls hv hl fun u σ1 hu=>?_
 have u1:=hu.byt.one
 simp [u1]
 refine lit_src (x:=[n]) ⟨.inl (by simp [B]),hu.2⟩ hu.byt (by simp; omega) fun v2 σ2 h2 _ _=>?_
 have q2:=h2.byt.one
 simp [q2]
 exact h _ _ h2
end
end Go.Proofs.YthejpoplbllcbaaGreatDoor
set_option linter.unusedSimpArgs false
set_option linter.unusedVariables false
namespace Go.Proofs.YthejpoplbllcbaaGreatDoor
open Go Go.Abs
def LoQ (v : AV) (l : List Int) (σ : AS) (a : Nat → AV) (τ : AS) : Prop := ∃ (pre l' : List Int) (done : List (List UInt8)),pre ++ l' = l ∧ done ++ localsRows l'.length l' = localsRows l.length l ∧ done.length ≤ pre.length ∧ a 0 = v ∧ a 4 = .int .i64 (done.length : Int) ∧ a 5 = .int .i64 (pre.length : Int) ∧ LitB σ τ (a 3) done.flatten
def LoE (v v3 : AV) (n d m : Nat) (τ0 : AS) (a : Nat → AV) (τ : AS) : Prop := ∃ j k : Nat,j ≤ m + 1 ∧ k = n + j ∧ a 0 = v ∧ a 3 = v3 ∧ a 4 = .int .i64 (d : Int) ∧ a 5 = .int .i64 (n : Int) ∧ a 6 = .int .i64 (k : Int) ∧ τ = τ0
theorem row_here {pre r : List Int} {t : Int} {j : Nat} (hj : j ≤ runN t r) : (pre ++ t :: r)[pre.length + j]? = some t := by
 rw [List.getElem?_append_right (by omega)]
 have : pre.length + j - pre.length = j:=by omega
 rw [this]
 cases j with
 | zero=>rfl
 | succ j=>rw [List.getElem?_cons_succ]; exact runN_at (by omega)
section
variable {G : Env} {σ : AS} {R : Out → AS → Prop}
theorem localsE_calls {v : AV} {l : List Int} (hv : Al.IntsO σ v l) (hl : l.length ≤ 2 ^ 34) (ht : ∀ t ∈ l,t = 1 ∨ t = 2) (h : ∀ v' σ',LitB σ σ' v' (localsL l) → R (.ret v') σ') : ACalls Tryz.prog G 52 [v] σ R := by
 refine calls52 rfl ?_
 have v1:=hv.one
 obtain ⟨r1,r2⟩:=localsRows_len l.length l
 simp [pc52,v1]
 refine aloop (LoQ v l σ) (MU 5 (l.length + 1)) ⟨[],l,[],rfl,rfl,by simp,by simp,by simp,by simp,⟨.inr (.inl ⟨rfl,by simp⟩),.refl _⟩⟩ fun a τ hI=>?_
 obtain ⟨pre,l',done,hpl,he,hdl,a0,a4,a5,hL⟩:=hI
 have hvk:=hv.keep hL.2
 have vl:=hvk.len
 have l1:=hL.byt.one
 have hll : pre.length + l'.length = l.length:=by rw [← hpl]; simp
 have hdf : done.flatten.length ≤ 11 * l.length:=by
  have e:=congrArg sumB he
  simp only [sumB,List.map_append,List.sum_append] at e
  rw [sumB_flat]
  unfold sumB
  have r2':=r2
  unfold sumB at r2'
  omega
 cases l' with
 | nil =>
  have hnl : ¬ (pre.length : Int) < (l.length : Int):=by simp at hll; omega
  have hd : done = localsRows l.length l:=by simpa [localsRows] using he
  simp [pc52_l2,a0,a4,a5,vl,hnl,pc52_r2]
  refine ru_calls (by omega) fun u σ1 hu=>?_
  have hL1:=hL.byt.keep hu.2
  have u1:=hu.byt.one
  have:=uI_len (done.length : Int)
  simp [u1]
  refine lit_src hu hL1 (by omega) fun v' σ' h' _ _=>?_
  have q1:=h'.byt.one
  simp [q1]
  have hb:=h'.behind hL.2
  rw [hd] at hb
  exact h _ _ hb
 | cons t r =>
  have hlt : (pre.length : Int) < (l.length : Int):=by simp at hll; omega
  have hrl:=runN_le t r
  simp only [List.length_cons] at hll
  have htt : t = 1 ∨ t = 2:=ht t (by rw [← hpl]; simp)
  obtain ⟨φ,hrd0,hix⟩:=hv.at (i:=pre.length) (by omega)
  have hrd:=(hrd0.keep hL.2).read
  have hat0 : l[pre.length] = t:=by
   have:=row_here (pre:=pre) (r:=r) (t:=t) (j:=0) (by omega)
   rw [hpl] at this
   exact (List.getElem?_eq_some_iff.1 this).2
  rw [hat0] at hix
  simp [pc52_l2,a0,a4,a5,vl,hlt]
  refine aloop (LoE v (a 3) pre.length done.length (runN t r) τ) (MU 6 (l.length + 2)) ⟨0,pre.length,by omega,by omega,by simp [a0],by simp,by simp [a4],by simp [a5],by simp,rfl⟩ fun b τ2 hJ=>?_
  obtain ⟨j,k,hj,hk,b0,b3,b4,b5,b6,rfl⟩:=hJ
  have at_k : ∀ x,(pre ++ t :: r)[k]? = some x → ∃ φ,Readable τ2.F φ ∧ ∀ K : AV → Prop,aindexAddr Tryz.prog 38 v (.int .i64 (k : Int)) K = K (.pv φ (.int .i64 x)):=fun x e=>by
   rw [hpl] at e
   obtain ⟨e1,e2⟩:=List.getElem?_eq_some_iff.1 e
   obtain ⟨φ,h1,h2⟩:=hvk.at e1
   rw [e2] at h2
   exact ⟨φ,h1.read,h2⟩
  have wd : j = runN t r + 1 → IntKind.wrap .i64 ((k : Int) - (pre.length : Int)) = ((runN t r + 1 : Nat) : Int):=fun q=>by rw [wrap_i64] <;> omega
  have wm : IntKind.wrap .i64 ((done.length : Int) + 1) = ((done.length + 1 : Nat) : Int):=by rw [wrap_i64] <;> omega
  by_cases hjr : j ≤ runN t r
  ·have hltj : (k : Int) < (l.length : Int):=by omega
   obtain ⟨φ2,hrd2,hix2⟩:=at_k t (by rw [hk]; exact row_here hjr)
   have w1 : IntKind.wrap .i64 ((k : Int) + 1) = ((k + 1 : Nat) : Int):=by rw [wrap_i64] <;> omega
   simp [pc52_l1,b0,b5,b6,vl,hltj,hix,hrd,hix2,hrd2,w1]
   refine ⟨⟨j + 1,k + 1,by omega,by omega,by simp [b0],by simp [b3],by simp [b4],by simp [b5],by simp,rfl⟩,?_⟩
   simp only [MU,b6]
   simp
   omega
  ·have hje : j = runN t r + 1:=by omega
   have wd:=wd hje
   have hout : ∀ c : Nat → AV,c 0 = v → c 3 = a 3 → c 4 = .int .i64 (done.length : Int) → c 5 = .int .i64 (pre.length : Int) → c 6 = .int .i64 (k : Int) →
     avc Tryz.prog G 49 pc52_r1 (ablock 1 (athen (fun a' σ'=>LoQ v l σ a' σ' ∧ MU 5 (l.length + 1) a' σ' < MU 5 (l.length + 1) a τ2) (ablock 0 (athen (avc Tryz.prog G 49 pc52_r2 (afin Tryz.prog [.tmp 2] R)) (afin Tryz.prog [.tmp 2] R))))) c τ2:=fun c c0 c3 c4 c5 c6=>by
    simp [pc52_r1,c0,c3,c4,c5,c6,l1,wd,hix,hrd]
    refine ru_calls (by omega) fun u σ1 hu=>?_
    have hL1:=hL.keep hu.2
    have u1:=hu.byt.one
    have hul:=uI_len ((runN t r : Int) + 1)
    have hrd1:=(hrd0.keep (hL.2.trans hu.2)).read
    simp [u1,hrd1]
    refine lit_src hL1 hu.byt (by omega) fun v2 σ2 h2 e1 e2=>?_
    have q2:=h2.byt.one
    have hrd2:=(hrd0.keep h2.2).read
    simp [hrd2]
    refine kindE_calls htt ?_
    simp [q2]
    refine lit_grow (y:=[byteI (128 - t)]) h2 rfl (by simp only [List.length_append,List.length_cons,List.length_nil]; omega) fun v3 σ3 h3 _ _=>?_
    have q3:=h3.byt.one
    simp [q3,c4,c6,wm]
    refine ⟨⟨pre ++ (t :: r.take (runN t r)),r.drop (runN t r),done ++ [uI ((runN t r + 1 : Nat) : Int) ++ [byteI (128 - t)]],?_,?_,?_,by simp [c0],by simp,?_,?_⟩,?_⟩
    ·rw [List.append_assoc,List.cons_append,List.take_append_drop]
     exact hpl
    ·rw [← he]
     simp only [localsRows,List.length_cons,List.append_assoc,List.singleton_append]
     rw [localsRows_drop _ r.length _ (Nat.le_refl _) (by simp)]
    ·simp
     omega
    ·simp [List.length_take,Nat.min_eq_left hrl]
     omega
    ·simpa using h3
    ·simp only [MU,a5]
     simp
     omega
   by_cases hend : k = l.length
   ·have hnl : ¬ (k : Int) < (l.length : Int):=by omega
    simp [pc52_l1,b0,b5,b6,vl,hnl]
    exact hout _ (by simp [b0]) (by simp [b3]) (by simp [b4]) (by simp [b5]) (by simp [b6])
   ·have hltj : (k : Int) < (l.length : Int):=by omega
    obtain ⟨y,hy⟩ : ∃ y,r[runN t r]? = some y:=⟨_,List.getElem?_eq_getElem (by omega)⟩
    have hne : ¬ y = t:=fun e=>runN_end (t:=t) (l:=r) (by omega) (by rw [hy,e])
    obtain ⟨φ2,hrd2,hix2⟩:=at_k y (by
     rw [hk,hje,List.getElem?_append_right (by omega)]
     have : pre.length + (runN t r + 1) - pre.length = runN t r + 1:=by omega
     rw [this,List.getElem?_cons_succ]
     exact hy)
    simp [pc52_l1,b0,b5,b6,vl,hltj,hix,hrd,hix2,hrd2,hne]
    exact hout _ (by simp [b0]) (by simp [b3]) (by simp [b4]) (by simp [b5]) (by simp [b6])
end
end Go.Proofs.YthejpoplbllcbaaGreatDoor
set_option linter.unusedSimpArgs false
set_option linter.unusedVariables false
namespace Go.Proofs.YthejpoplbllcbaaGreatDoor
open Go Go.Abs
def rowN (i : Nat) : Int × W := rowsT.getD i (0,pw 0 0 0)
def rowHit (w : W) (i : Nat) : Bool := decide ((rowN i).2.op = w.op) && ((decide ((rowN i).2.ty = 0) || decide ((rowN i).2.ty = w.ty)) && (decide (i < 14) || decide ((rowN i).2.n = w.n)))
theorem row_of : ∀ p ∈ plainT ++ numT,∃ i : Fin 20,rowN i = ((p.1.toNat : Int),p.2) := by decide
theorem row_to : ∀ i : Fin 20,∃ p ∈ plainT ++ numT,rowN i = ((p.1.toNat : Int),p.2) := by decide
theorem row_inj : ∀ i j : Fin 20,rowN i = rowN j → i = j := by decide
theorem row_kind : ∀ i : Fin 20,(14 ≤ i.1 → (rowN i).2.op = 8 ∨ (rowN i).2.op = 9) ∧ (i.1 < 14 → (rowN i).2.n = 0 ∧ (rowN i).2.op ≠ 8 ∧ (rowN i).2.op ≠ 9) ∧ (7 ≤ i.1 ∧ i.1 < 14 → (rowN i).2.op = 1 ∨ ((rowN i).2.op = 2 ∨ (rowN i).2.op = 3 ∨ (rowN i).2.op = 10 ∨ (rowN i).2.op = 14 ∨ (rowN i).2.op = 15)) ∧
  (i.1 < 7 → (rowN i).2.op ≠ 1 ∧ (rowN i).2.op ≠ 2 ∧ (rowN i).2.op ≠ 3 ∧ (rowN i).2.op ≠ 10 ∧ (rowN i).2.op ≠ 14 ∧ (rowN i).2.op ≠ 15) ∧ (rowN i).2.op ≠ 4:=by decide
theorem hit_hits {w : W} {i : Nat} (hi : i < 20) {p : UInt8 × W} (hp : rowN i = ((p.1.toNat : Int),p.2)) : rowHit w i = hitsW w p := by
 obtain ⟨k1,k2,_⟩:=row_kind ⟨i,hi⟩
 simp only [hp] at k1 k2
 unfold rowHit hitsW keyN
 rw [hp]
 simp only
 by_cases ho : p.2.op = w.op
 ·by_cases h14 : 14 ≤ i
  ·have h14' : ¬ i < 14:=by omega
   have:=k1 h14
   rw [ho] at this
   rw [if_pos this]
   simp only [h14',decide_false,Bool.false_or]
   rw [Bool.and_comm (decide (p.2.n = w.n))]
  ·have h14' : i < 14:=by omega
   obtain ⟨q1,q2,q3⟩:=k2 h14'
   rw [ho] at q2 q3
   rw [if_neg (by rintro (q | q); exact q2 q; exact q3 q)]
   simp [h14',q1]
 ·simp [ho]
theorem plain_hit {w : W} {c : UInt8} (hc : codeS w = some c) (h4 : w.op ≠ 4) : ∃ i,i < 20 ∧ rowHit w i = true ∧ (∀ j,j < i → rowHit w j = false) ∧ (rowN i).1 = (c.toNat : Int) ∧
  tailW w = if 14 ≤ i then [0,0] else if w.op = 1 then sI w.n else if 7 ≤ i then uI w.n else []:=by
 unfold codeS at hc
 rw [if_neg h4,Option.map_eq_some_iff] at hc
 obtain ⟨p,hf,rfl⟩:=hc
 have hp:=List.mem_of_find?_eq_some hf
 have hh:=List.find?_some hf
 obtain ⟨⟨i,hi⟩,e⟩:=row_of p hp
 simp only at e
 have hit : rowHit w i = true:=by rw [hit_hits hi e]; exact hh
 refine ⟨i,hi,hit,fun j hj=>?_,by rw [e],?_⟩
 ·cases hb : rowHit w j with
  | false=>rfl
  | true =>
   exfalso
   obtain ⟨q,hq,e2⟩:=row_to ⟨j,by omega⟩
   simp only at e2
   rw [hit_hits (by omega) e2] at hb
   have:=hits_one w q hq p hp hb hh
   subst this
   have:=row_inj ⟨j,by omega⟩ ⟨i,hi⟩ (by simp only; rw [e,e2])
   simp only [Fin.mk.injEq] at this
   omega
 ·obtain ⟨k1,k2,k3,k4,_⟩:=row_kind ⟨i,hi⟩
  have ho : (rowN i).2.op = w.op:=by
   unfold rowHit at hit
   simp only [Bool.and_eq_true,decide_eq_true_eq] at hit
   exact hit.1
  simp only [ho] at k1 k2 k3 k4
  unfold tailW
  by_cases h14 : 14 ≤ i
  ·rw [if_pos h14]
   have:=k1 h14
   rw [if_neg (by omega),if_neg (by omega),if_pos this]
  ·rw [if_neg h14]
   by_cases h1 : w.op = 1
   ·rw [if_pos h1,if_pos h1]
   ·rw [if_neg h1,if_neg h1]
    by_cases h7 : 7 ≤ i
    ·rw [if_pos h7]
     have:=k3 ⟨h7,by omega⟩
     rw [if_pos (by omega)]
    ·rw [if_neg h7]
     have:=k4 (by omega)
     have k2':=k2 (by omega)
     rw [if_neg (by omega),if_neg (by omega)]
theorem sign_parts {s : List UInt8} {i : Nat} (h : signIx s = some i) : i < 16 ∧ signNames[i]? = some s ∧ ∀ j,j < i → signNames[j]? ≠ some s := by
 unfold signIx at h
 rw [List.findIdx?_eq_some_iff_getElem] at h
 obtain ⟨h1,h2,h3⟩:=h
 refine ⟨h1,?_,fun j hj e=>?_⟩
 ·rw [List.getElem?_eq_getElem h1]
  simpa using h2
 ·obtain ⟨h4,h5⟩:=List.getElem?_eq_some_iff.1 e
  have:=h3 j hj
  rw [h5] at this
  simp at this
def PlA (w : W) (o i : Nat) (τ0 : AS) (a : Nat → AV) (τ : AS) : Prop := ∃ j : Nat,j ≤ i ∧ τ = τ0 ∧ a 1 = .ptr o 0 ∧ a 3 = .sl (.stat true) 1 (signNames.map AV.str) ∧ a 4 = .sl (.stat true) 1 (onesZ.map (.int .i64)) ∧ a 5 = .sl (.stat true) 1 (twosZ.map (.int .i64)) ∧ a 6 = .int .i64 (j : Int)
def PlB (w : W) (o i : Nat) (σ : AS) (a : Nat → AV) (τ : AS) : Prop := ∃ j : Nat,j ≤ i ∧ Adds σ τ ∧ o < τ.no ∧ τ.objs o = some w.cs ∧ a 1 = .ptr o 0 ∧ a 7 = .sl (.stat true) 7 (rowsT.map rowAV) ∧ a 8 = .int .i64 (j : Int)
theorem lit_rowN {i : Nat} (h : i < 20) : rowsT[i]? = some (rowN i) := lit_row h
section
variable {G : Env} {σ : AS} {R : Out → AS → Prop}
set_option maxRecDepth 20000 in
theorem plainE_calls {w : W} {c : UInt8} (hc : codeS w = some c) (hrg : RgW w) (h : ∀ v σ',LitB σ σ' v (c :: tailW w) → R (.ret v) σ') : ACalls Tryz.prog G 93 [w.av] σ R := by
 refine calls93 rfl ?_
 by_cases h4 : w.op = 4
 ·have hc':=hc
  unfold codeS at hc'
  rw [if_pos h4] at hc'
  unfold codeL at hc'
  rw [if_pos h4] at hc'
  have ht : tailW w = []:=by
   unfold tailW
   rw [if_neg (by omega),if_neg (by omega),if_neg (by omega)]
  rw [ht] at h
  cases hi : signIx w.name with
  | none=>rw [hi] at hc'; cases hc'
  | some i =>
   rw [hi] at hc'
   simp only at hc'
   obtain ⟨i1,i2,i3⟩:=sign_parts hi
   simp [pc93,W.av,W.cs,h4]
   refine signs_calls ?_
   have A1 : Adds σ (σ.newO w.cs):=(Adds.refl σ).newO
   have hz : (σ.newO w.cs).objs σ.no = some w.cs:=by simp
   have e0 : σ.newO [AV.int .i64 4,.int .i64 w.ty,.int .i64 w.n,.int .i64 w.body,.int .i64 w.other,.str w.name] = σ.newO w.cs:=by simp [W.cs,h4]
   rw [e0]
   simp
   generalize σ.newO w.cs = σ1 at *
   refine aloop (PlA w σ.no i σ1) (MU 6 17) ⟨0,by omega,rfl,by simp,by simp,by simp,by simp,by simp⟩ fun a τ hI=>?_
   obtain ⟨j,hj,rfl,a1,a3,a4,a5,a6⟩:=hI
   have hlt' : (j : Int) < 16:=by omega
   have g1:=lit_ones (i:=j) (by omega)
   have g2:=lit_twos (i:=j) (by omega)
   have g3:=lit_name (i:=j) (by omega)
   have hsl : signNames.length = 16:=rfl
   have w1 : IntKind.wrap .i64 ((j : Int) + 1) = ((j + 1 : Nat) : Int):=by rw [wrap_i64] <;> omega
   have wb : ∀ c : UInt8,IntKind.wrap .u8 (c.toNat : Int) = (c.toNat : Int):=fun c=>by
    rw [wrap_u8,byteI_nat]
    have:=c.toNat_lt
    omega
   have o1 : ∀ l : List UInt8,∀ j : Nat,l[j]? = some c → l.getD j 0 = c:=fun l j q=>by rw [List.getD_eq_getElem?_getD,q]; rfl
   by_cases hji : j = i
   ·subst hji
    have hnm : signNames.getD j [] = w.name:=by
     rw [g3] at i2
     exact Option.some.inj i2
    rw [hnm] at g3
    by_cases ht1 : w.ty = 1
    ·rw [if_pos ht1] at hc'
     rw [o1 ones j hc'] at g1
     simp [pc93_l1,a1,a3,a4,a5,a6,hlt',g1,g2,g3,hsl,hz,W.cs,ht1,wb]
     exact h _ _ ⟨.inl (by simp [B]),A1⟩
    ·rw [if_neg ht1] at hc'
     by_cases ht2 : w.ty = 2
     ·rw [if_pos ht2] at hc'
      rw [o1 twos j hc'] at g2
      simp [pc93_l1,a1,a3,a4,a5,a6,hlt',g1,g2,g3,hsl,hz,W.cs,ht1,wb]
      exact h _ _ ⟨.inl (by simp [B]),A1⟩
     ·rw [if_neg ht2] at hc'
      cases hc'
   ·have hne : ¬ signNames.getD j [] = w.name:=fun e=>i3 j (by omega) (by rw [g3,e])
    generalize signNames.getD j [] = nm at *
    simp [pc93_l1,a1,a3,a4,a5,a6,hlt',g1,g2,g3,hsl,hz,W.cs,hne,w1]
    refine ⟨⟨j + 1,by omega,rfl,by simp [a1],by simp [a3],by simp [a4],by simp [a5],by simp⟩,?_⟩
    simp only [MU,a6]
    simp
    omega
 ·obtain ⟨i,hi,hit,hmiss,hby,htl⟩:=plain_hit hc h4
  rw [htl] at h
  simp [pc93,W.av,W.cs,h4,pc93_r2]
  refine rows_calls ?_
  have A1 : Adds σ (σ.newO w.cs):=(Adds.refl σ).newO
  have hz : (σ.newO w.cs).objs σ.no = some w.cs:=by simp
  have hno1 : σ.no < (σ.newO w.cs).no:=by simp
  have e0 : σ.newO [AV.int .i64 w.op,.int .i64 w.ty,.int .i64 w.n,.int .i64 w.body,.int .i64 w.other,.str w.name] = σ.newO w.cs:=by simp [W.cs]
  rw [e0]
  simp
  generalize σ.newO w.cs = σ1 at *
  refine aloop (PlB w σ.no i σ) (MU 8 21) ⟨0,by omega,A1,hno1,hz,by simp,by simp,by simp⟩ fun a τ hI=>?_
  obtain ⟨j,hj,A,hno,ho,a1,a7,a8⟩:=hI
  have hrl : rowsT.length = 20:=rfl
  have hlt' : (j : Int) < 20:=by omega
  have g:=lit_rowN (i:=j) (by omega)
  have w1 : IntKind.wrap .i64 ((j : Int) + 1) = ((j + 1 : Nat) : Int):=by rw [wrap_i64] <;> omega
  have hhit : rowHit w j = decide (j = i):=by
   by_cases e : j = i
   ·subst e; rw [hit]; simp
   ·rw [hmiss j (by omega)]; simp [e]
  have hon : ¬ σ.no = τ.no:=by omega
  have hon2 : ¬ τ.no = σ.no:=by omega
  have next : ∀ (a' : Nat → AV) (cs : List AV),j ≠ i → a' 1 = .ptr σ.no 0 → a' 7 = .sl (.stat true) 7 (rowsT.map rowAV) → a' 8 = .int .i64 ((j + 1 : Nat) : Int) → PlB w σ.no i σ a' ((τ.newO [AV.int .i64 0,.int .i64 0,.int .i64 0,.int .i64 0,.int .i64 0,.str []]).setO τ.no cs) ∧ MU 8 21 a' ((τ.newO [AV.int .i64 0,.int .i64 0,.int .i64 0,.int .i64 0,.int .i64 0,.str []]).setO τ.no cs) < MU 8 21 a τ:=fun a' cs hji e1 e7 e8=>by
   refine ⟨⟨j + 1,by omega,(A.newO).setO (by have:=A.no; omega),by simp; omega,by simp [hon,ho],e1,e7,e8⟩,?_⟩
   simp only [MU,e8,a8]
   omega
  unfold rowHit at hhit
  have hbj : j = i → (rowN j).1 = (c.toNat : Int):=fun e=>by rw [e]; exact hby
  generalize rowN j = p at *
  obtain ⟨bz,x⟩:=p
  simp only at hhit hbj
  have wb : IntKind.wrap .u8 (c.toNat : Int) = (c.toNat : Int):=by
   rw [wrap_u8,byteI_nat]
   have:=c.toNat_lt
   omega
  have hsl:=sI_len w.n
  have hul:=uI_len w.n
  have A2 : ∀ cs,Adds σ ((τ.newO [AV.int .i64 0,.int .i64 0,.int .i64 0,.int .i64 0,.int .i64 0,.str []]).setO τ.no cs):=fun cs=>(A.newO).setO (by have:=A.no; omega)
  have ho2 : ∀ cs,((τ.newO [AV.int .i64 0,.int .i64 0,.int .i64 0,.int .i64 0,.int .i64 0,.str []]).setO τ.no cs).objs σ.no = some w.cs:=fun cs=>by simp [hon,ho]
  by_cases c1 : x.op = w.op
  ·by_cases c23 : x.ty = 0 ∨ x.ty = w.ty
   ·have hz23 : x.ty = 0 ∨ (¬ w.ty = 0 ∧ x.ty = w.ty):=by omega
    by_cases c45 : j < 14 ∨ x.n = w.n
    ·have hji : j = i:=by
      by_cases e : j = i
      ·exact e
      ·exfalso
       simp only [c1,decide_true,Bool.true_and,e,decide_false,Bool.and_eq_false_iff,Bool.or_eq_false_iff,decide_eq_false_iff_not] at hhit
       omega
     subst hji
     have hbz:=hbj rfl
     subst hbz
     by_cases q14 : 14 ≤ j
     ·have q14' : (14 : Int) ≤ (j : Int):=by omega
      have c5 : x.n = w.n:=by omega
      rw [if_pos q14] at h
      have fin : ∀ cs,R (.ret (.sl (.fam τ.nf false) 1 [.int .u8 (c.toNat : Int),.int .u8 0,.int .u8 0])) ((τ.newO [AV.int .i64 0,.int .i64 0,.int .i64 0,.int .i64 0,.int .i64 0,.str []]).setO τ.no cs).newF:=fun cs=>h _ _ ⟨.inr (.inr ⟨τ.nf,by simp [B],A.nf,by simp,by simp⟩),(A2 cs).newF⟩
      rcases hz23 with z0 | ⟨z0,z1⟩
      ·simp [pc93_l2,a1,a7,a8,hlt',g,hrl,rowAV,ho,hon,hon2,W.cs,splice,c1,z0,c5,q14',wb]
       exact fin _
      ·simp [pc93_l2,a1,a7,a8,hlt',g,hrl,rowAV,ho,hon,hon2,W.cs,splice,c1,z0,z1,c5,q14',wb]
       exact fin _
     ·have q14' : ¬ (14 : Int) ≤ (j : Int):=by omega
      rw [if_neg q14] at h
      by_cases q1 : w.op = 1
      ·rw [if_pos q1] at h
       have fin : ∀ cs,∀ (u : AV) σ2,LitB ((τ.newO [AV.int .i64 0,.int .i64 0,.int .i64 0,.int .i64 0,.int .i64 0,.str []]).setO τ.no cs) σ2 u (sI w.n) → ∀ K : AV → AS → Prop,(∀ v σ',LitB σ σ' v (c :: sI w.n) → K v σ') → asource Tryz.prog 22 (.int .u8 0) 1 u σ2.F fun ys=>(∀ y,y ∈ ys → y.cells.length = 1 ∧ ∀ c,c ∈ y.cells → c.one = true) ∧ grown 1 1 (.sl (.stat true) 1 [.int .u8 (c.toNat : Int)]) ys σ2 K:=fun cs u σ2 hu K hK =>
        lit_src (x:=[c]) ⟨.inl (by simp [B]),(A2 cs).trans hu.2⟩ hu.byt (by simp; omega) fun v σ' hv _ _=>hK v σ' hv
       rcases hz23 with z0 | ⟨z0,z1⟩
       ·simp [pc93_l2,a1,a7,a8,hlt',g,hrl,rowAV,ho,hon,hon2,W.cs,splice,c1,z0,q14',wb,q1]
        refine rs_calls hrg fun u σ2 hu=>?_
        simp
        refine fin _ u σ2 hu _ fun v σ3 hv=>?_
        have v1:=hv.byt.one
        simp [v1]
        exact h _ _ hv
       ·simp [pc93_l2,a1,a7,a8,hlt',g,hrl,rowAV,ho,hon,hon2,W.cs,splice,c1,z0,z1,q14',wb,q1]
        refine rs_calls hrg fun u σ2 hu=>?_
        simp
        refine fin _ u σ2 hu _ fun v σ3 hv=>?_
        have v1:=hv.byt.one
        simp [v1]
        exact h _ _ hv
      ·rw [if_neg q1] at h
       by_cases q7 : 7 ≤ j
       ·have q7' : (7 : Int) ≤ (j : Int):=by omega
        rw [if_pos q7] at h
        have fin : ∀ cs,∀ (u : AV) σ2,LitB ((τ.newO [AV.int .i64 0,.int .i64 0,.int .i64 0,.int .i64 0,.int .i64 0,.str []]).setO τ.no cs) σ2 u (uI w.n) → ∀ K : AV → AS → Prop,(∀ v σ',LitB σ σ' v (c :: uI w.n) → K v σ') → asource Tryz.prog 22 (.int .u8 0) 1 u σ2.F fun ys=>(∀ y,y ∈ ys → y.cells.length = 1 ∧ ∀ c,c ∈ y.cells → c.one = true) ∧ grown 1 1 (.sl (.stat true) 1 [.int .u8 (c.toNat : Int)]) ys σ2 K:=fun cs u σ2 hu K hK =>
         lit_src (x:=[c]) ⟨.inl (by simp [B]),(A2 cs).trans hu.2⟩ hu.byt (by simp; omega) fun v σ' hv _ _=>hK v σ' hv
        rcases hz23 with z0 | ⟨z0,z1⟩
        ·simp [pc93_l2,a1,a7,a8,hlt',g,hrl,rowAV,ho,hon,hon2,W.cs,splice,c1,z0,q14',wb,q1,q7']
         refine ru_calls hrg.2 fun u σ2 hu=>?_
         simp
         refine fin _ u σ2 hu _ fun v σ3 hv=>?_
         have v1:=hv.byt.one
         simp [v1]
         exact h _ _ hv
        ·simp [pc93_l2,a1,a7,a8,hlt',g,hrl,rowAV,ho,hon,hon2,W.cs,splice,c1,z0,z1,q14',wb,q1,q7']
         refine ru_calls hrg.2 fun u σ2 hu=>?_
         simp
         refine fin _ u σ2 hu _ fun v σ3 hv=>?_
         have v1:=hv.byt.one
         simp [v1]
         exact h _ _ hv
       ·have q7' : ¬ (7 : Int) ≤ (j : Int):=by omega
        rw [if_neg q7] at h
        have fin : ∀ cs,R (.ret (.sl (.stat true) 1 [.int .u8 (c.toNat : Int)])) ((τ.newO [AV.int .i64 0,.int .i64 0,.int .i64 0,.int .i64 0,.int .i64 0,.str []]).setO τ.no cs):=fun cs=>h _ _ ⟨.inl (by simp [B]),A2 cs⟩
        rcases hz23 with z0 | ⟨z0,z1⟩
        ·simp [pc93_l2,a1,a7,a8,hlt',g,hrl,rowAV,ho,hon,hon2,W.cs,splice,c1,z0,q14',wb,q1,q7']
         exact fin _
        ·simp [pc93_l2,a1,a7,a8,hlt',g,hrl,rowAV,ho,hon,hon2,W.cs,splice,c1,z0,z1,q14',wb,q1,q7']
         exact fin _
    ·have hji : j ≠ i:=fun e=>by
      simp only [c1,decide_true,Bool.true_and,e,Bool.and_eq_true,Bool.or_eq_true,decide_eq_true_eq] at hhit
      omega
     have c4 : (14 : Int) ≤ (j : Int):=by omega
     have c5 : ¬ x.n = w.n:=by omega
     rcases hz23 with z0 | ⟨z0,z1⟩
     ·simp [pc93_l2,a1,a7,a8,hlt',g,hrl,rowAV,ho,hon,hon2,W.cs,splice,c1,z0,c4,c5,w1]
      exact next _ _ hji (by simp [a1]) (by simp [a7]) (by simp)
     ·simp [pc93_l2,a1,a7,a8,hlt',g,hrl,rowAV,ho,hon,hon2,W.cs,splice,c1,z0,z1,c4,c5,w1]
      exact next _ _ hji (by simp [a1]) (by simp [a7]) (by simp)
   ·have hji : j ≠ i:=fun e=>by
     simp only [c1,decide_true,Bool.true_and,e,Bool.and_eq_true,Bool.or_eq_true,decide_eq_true_eq] at hhit
     omega
    have c2 : ¬ x.ty = 0:=fun q=>c23 (.inl q)
    have c3 : ¬ x.ty = w.ty:=fun q=>c23 (.inr q)
    simp [pc93_l2,a1,a7,a8,hlt',g,hrl,rowAV,ho,hon,hon2,W.cs,splice,c1,c2,c3,w1]
    exact next _ _ hji (by simp [a1]) (by simp [a7]) (by simp)
  ·have hji : j ≠ i:=fun e=>by simp [c1,e] at hhit
   simp [pc93_l2,a1,a7,a8,hlt',g,hrl,rowAV,ho,hon,hon2,W.cs,splice,c1,w1]
   exact next _ _ hji (by simp [a1]) (by simp [a7]) (by simp)
end
end Go.Proofs.YthejpoplbllcbaaGreatDoor
set_option linter.unusedSimpArgs false
set_option linter.unusedVariables false
namespace Go.Proofs.YthejpoplbllcbaaGreatDoor
open Go Go.Abs
def EncQ (G : Env) (ls : To) (k : Nat) : Prop := ∀ (σ : AS) (R : Out → AS → Prop) (f : F) (pv lv tv : AV) (at_ : Int) (bs : List UInt8),f.lists = ls → Al.IntsO σ pv f.params → Al.IntsO σ lv f.locals → Al.LstO σ tv f.lists → encL ls k at_ = some bs → bs.length ≤ 2 ^ 38 →
 (∀ v σ',LitB σ σ' v bs → R (.ret v) σ') → ACalls Tryz.prog G 53 [.agg (FCs f pv lv tv),.int .i64 at_] σ R
def LiQ (ls : To) (k : Nat) (n : Nat) (σ : AS) (fc : List AV) (ws : List W) (bs : List UInt8) (a : Nat → AV) (τ : AS) : Prop := ∃ (i : Nat) (done r : List UInt8),i ≤ ws.length ∧ encWs (encL ls k) (ws.drop i) = some r ∧ done ++ r = bs ∧ a 1 = .int .i64 (n : Int) ∧ a 2 = .ptr σ.no 0 ∧ a 6 = .int .i64 (i : Int) ∧ LitB σ τ (a 5) done ∧ σ.no < τ.no ∧ τ.objs σ.no = some fc
section
variable {G : Env} {σ : AS} {R : Out → AS → Prop}
set_option maxRecDepth 20000 in
theorem listE_body {ls : To} {k n : Nat} (IH : EncQ G ls k) {f : F} {pv lv tv rv : AV} {φ : Go.Abs.Own} {ws : List W} {bs : List UInt8} (hls : f.lists = ls) (hp : Al.IntsO σ pv f.params) (hl : Al.IntsO σ lv f.locals) (ht : Al.LstO σ tv f.lists) (hrd0 : Al.Rd σ φ) (hixL : ∀ K : AV → Prop,aindexAddr Tryz.prog 49 tv (.int .i64 (n : Int)) K = K (.pv φ rv)) (hrv : Al.RepO σ rv ws) (hws : ws.length ≤ 2 ^ 40) (hbs : bs.length ≤ 2 ^ 38) (hrg : ∀ w ∈ ws,RgW w)
  (h : ∀ v σ',LitB σ σ' v bs → R (.ret v) σ') {a : Nat → AV} {τ : AS} (hI : LiQ ls k n σ (FCs f pv lv tv) ws bs a τ) :
  avc Tryz.prog G 72 pc53_l1 (athen (fun a' σ'=>LiQ ls k n σ (FCs f pv lv tv) ws bs a' σ' ∧ MU 6 (ws.length + 1) a' σ' < MU 6 (ws.length + 1) a τ) (ablock 0 (athen (avc Tryz.prog G 72 pc53_r1 (afin Tryz.prog [.tmp 4] R)) (afin Tryz.prog [.tmp 4] R)))) a τ:=by
 obtain ⟨i,done,r,hi,hr,hbsd,a1,a2,a6,hN,ho1,ho⟩:=hI
 have n1:=hN.byt.one
 have hpl:=congrArg List.length hbsd
 simp only [List.length_append] at hpl
 have hrdL:=(hrd0.keep hN.2).read
 have rl:=RepO.len (hrv.keep hN.2)
 have r1:=(hrv.keep hN.2).one
 have p1:=hp.one
 have l1:=hl.one
 have t1:=ht.one
 have ho' : τ.objs σ.no = some [.str f.name,pv,lv,.int .i64 f.type,tv]:=ho
 by_cases hlt : i < ws.length
 ·have hlt' : (i : Int) < (ws.length : Int):=by omega
  obtain ⟨φ2,hrd2,hix2⟩:=RepO.at (hrv.keep hN.2) hlt
  have hrd2:=hrd2.read
  rw [List.drop_eq_getElem_cons hlt] at hr
  have hrw:=hrg _ (List.getElem_mem hlt)
  generalize ws[i] = w at *
  obtain ⟨x,y,hx,hy,rfl⟩:=encWs_cons hr
  have w1 : IntKind.wrap .i64 ((i : Int) + 1) = ((i + 1 : Nat) : Int):=by rw [wrap_i64] <;> omega
  have next : ∀ (a' : Nat → AV) (σ' : AS),a' 1 = .int .i64 (n : Int) → a' 2 = .ptr σ.no 0 → a' 6 = .int .i64 ((i : Int) + 1) → LitB σ σ' (a' 5) (done ++ x) → τ.no ≤ σ'.no → σ'.objs σ.no = some (FCs f pv lv tv) →
    LiQ ls k n σ (FCs f pv lv tv) ws bs a' σ' ∧ MU 6 (ws.length + 1) a' σ' < MU 6 (ws.length + 1) a τ:=fun a' σ' e1 e2 e6 e5 e7 e8=>by
   refine ⟨⟨i + 1,done ++ x,y,hlt,hy,by rw [← hbsd]; simp,e1,e2,by rw [e6]; rfl,e5,by omega,e8⟩,?_⟩
   simp only [MU,a6,e6]; omega
  have hon : ¬ σ.no = τ.no:=by omega
  have hA0 : Adds τ ((τ.newO [AV.int .i64 0,.int .i64 0,.int .i64 0,.int .i64 0,.int .i64 0,.str []]).setO τ.no w.cs):=.mk1
  have k1 : ((τ.newO [AV.int .i64 0,.int .i64 0,.int .i64 0,.int .i64 0,.int .i64 0,.str []]).setO τ.no w.cs).objs σ.no = some [.str f.name,pv,lv,.int .i64 f.type,tv]:=by simp [hon,ho']
  have k2 : ((τ.newO [AV.int .i64 0,.int .i64 0,.int .i64 0,.int .i64 0,.int .i64 0,.str []]).setO τ.no w.cs).objs τ.no = some w.cs:=by simp
  have k3 : ((τ.newO [AV.int .i64 0,.int .i64 0,.int .i64 0,.int .i64 0,.int .i64 0,.str []]).setO τ.no w.cs).no = τ.no + 1:=by simp
  have hlen : done.length + (x.length + y.length) = bs.length:=by rw [← hpl]; simp
  have sub : ∀ {τ' : AS} {z : List UInt8} {at_ : Int} {R' : Out → AS → Prop},Adds σ τ' → encL ls k at_ = some z → z.length ≤ 2 ^ 38 → (∀ v σ',LitB τ' σ' v z → R' (.ret v) σ') → ACalls Tryz.prog G 53 [.agg [.str f.name,pv,lv,.int .i64 f.type,tv],.int .i64 at_] τ' R' :=
   fun A he hz hR=>IH _ _ f pv lv tv _ _ hls (hp.keep A) (hl.keep A) (ht.keep A) he hz hR
  have hwcs : w.cs = [.int .i64 w.op,.int .i64 w.ty,.int .i64 w.n,.int .i64 w.body,.int .i64 w.other,.str w.name]:=rfl
  by_cases hn : nestW w = true
  ·unfold encW at hx
   rw [if_pos hn] at hx
   cases hb : encL ls k w.body with
   | none=>rw [hb] at hx; cases hx
   | some b =>
    rw [hb] at hx
    simp only [Option.bind_some] at hx
    have hop:=nest_of hn
    have o1 : ¬ w.op < 11:=by omega
    have o2 : ¬ 13 < w.op:=by omega
    have wb : IntKind.wrap .u8 (IntKind.wrap .i64 (w.op - 9)) = ((byteI (w.op - 9)).toNat : Int):=by
     rw [wrap_i64 (by omega) (by omega),wrap_u8]
    have hxl : b.length + 3 ≤ x.length:=by
     split at hx
     ·rw [Option.map_eq_some_iff] at hx
      obtain ⟨o,_,rfl⟩:=hx
      simp <;> omega
     ·cases hx
      simp
    simp [pc53_l1,a1,a2,a6,ho',hixL,hrdL,r1,rl,hlt',hix2,hrd2,W.av,W.cs,splice,hon,o1,o2,n1,wb]
    refine lit_grow (y:=[byteI (w.op - 9),64]) (hN.keep hA0) rfl (by simp; omega) fun v1 σ1 h1 u1 m1=>?_
    have k1':=(congrFun u1 σ.no).trans k1
    have k2':=(congrFun u1 τ.no).trans k2
    rw [hwcs] at k2'
    have n2:=h1.byt.one
    have hno1 : σ1.no = τ.no + 1:=by rw [m1]; exact k3
    simp [a2,k1',k2',n2,p1,l1,t1]
    refine sub h1.2 hb (by omega) fun v2 σ2 h2=>?_
    have k1'':=(h2.2.obj σ.no (by omega)).trans k1'
    have k2'':=(h2.2.obj τ.no (by omega)).trans k2'
    have hno2:=h2.2.no
    simp
    refine lit_src (h1.keep h2.2) h2.byt (by simp; omega) fun v3 σ3 h3 u3 m3=>?_
    have k1a:=(congrFun u3 σ.no).trans k1''
    have k2a:=(congrFun u3 τ.no).trans k2''
    have n4:=h3.byt.one
    have fin : ∀ (v5 : AV) (σ5 : AS),LitB σ σ5 v5 (done ++ x) → σ5.objs σ.no = some [.str f.name,pv,lv,.int .i64 f.type,tv] → τ.no ≤ σ5.no → ∀ a' : Nat → AV,a' 1 = .int .i64 (n : Int) → a' 2 = .ptr σ.no 0 → a' 6 = .int .i64 ((i : Int) + 1) → a' 5 = v5 → LiQ ls k n σ (FCs f pv lv tv) ws (done ++ (x ++ y)) a' σ5 ∧ MU 6 (ws.length + 1) a' σ5 < MU 6 (ws.length + 1) a τ:=fun v5 σ5 h5 q1 q2 a' e1 e2 e6 e5=>by
     have:=next a' σ5 e1 e2 e6 (by rw [e5]; exact h5) q2 q1
     rw [← hbsd] at this
     exact this
    by_cases h13 : w.op = 13 ∧ 0 ≤ w.other
    ·rw [if_pos h13,Option.map_eq_some_iff] at hx
     obtain ⟨o,ho3,rfl⟩:=hx
     simp only [List.length_cons,List.length_append,List.length_nil] at hlen
     simp [k2a,n4,h13.1,h13.2]
     refine lit_grow (y:=[5]) h3 rfl (by simp; omega) fun v4 σ4 h4 u4 m4=>?_
     have k1b:=(congrFun u4 σ.no).trans k1a
     have k2b:=(congrFun u4 τ.no).trans k2a
     have n5:=h4.byt.one
     simp [a2,k1b,k2b,n5,p1,l1,t1]
     refine sub h4.2 ho3 (by omega) fun v5 σ5 h5=>?_
     have k1c:=(h5.2.obj σ.no (by omega)).trans k1b
     have hno5:=h5.2.no
     simp
     refine lit_src (h4.keep h5.2) h5.byt (by simp; omega) fun v6 σ6 h6 u6 m6=>?_
     have k1d:=(congrFun u6 σ.no).trans k1c
     have n6:=h6.byt.one
     simp [n6]
     refine lit_grow (y:=[11]) h6 rfl (by simp; omega) fun v7 σ7 h7 u7 m7=>?_
     have k1e:=(congrFun u7 σ.no).trans k1d
     have n7:=h7.byt.one
     simp [n7,a6,w1]
     rw [← hbsd]
     refine fin v7 σ7 (by simpa [h13.1] using h7) k1e (by omega) _ (by simp [a1]) (by simp [a2]) (by simp) (by simp)
    ·rw [if_neg h13] at hx
     cases hx
     simp only [List.length_cons,List.length_append,List.length_nil] at hlen
     by_cases q13 : w.op = 13
     ·have q0 : ¬ 0 ≤ w.other:=fun q=>h13 ⟨q13,q⟩
      simp [k2a,n4,q13,q0]
      refine lit_grow (y:=[11]) h3 rfl (by simp; omega) fun v7 σ7 h7 u7 m7=>?_
      have k1e:=(congrFun u7 σ.no).trans k1a
      have n7:=h7.byt.one
      simp [n7,a6,w1]
      rw [← hbsd]
      refine fin v7 σ7 (by simpa [q13] using h7) k1e (by omega) _ (by simp [a1]) (by simp [a2]) (by simp) (by simp)
     ·simp [k2a,n4,q13]
      refine lit_grow (y:=[11]) h3 rfl (by simp; omega) fun v7 σ7 h7 u7 m7=>?_
      have k1e:=(congrFun u7 σ.no).trans k1a
      have n7:=h7.byt.one
      simp [n7,a6,w1]
      rw [← hbsd]
      refine fin v7 σ7 (by simpa using h7) k1e (by omega) _ (by simp [a1]) (by simp [a2]) (by simp) (by simp)
  ·unfold encW at hx
   rw [if_neg hn,Option.map_eq_some_iff] at hx
   obtain ⟨c,hc,rfl⟩:=hx
   have hop : w.op < 11 ∨ (¬ w.op < 11 ∧ 13 < w.op):=by
    simp only [nestW,Bool.or_eq_true,decide_eq_true_eq] at hn
    omega
   have htl:=tailW_len w
   simp only [List.length_cons] at hlen
   rcases hop with o1 | ⟨o1,o2⟩
   ·simp [pc53_l1,a1,a2,a6,ho',hixL,hrdL,r1,rl,hlt',hix2,hrd2,W.av,W.cs,splice,hon,o1,n1]
    show ACalls Tryz.prog G 93 [w.av] _ _
    refine plainE_calls hc hrw fun v1 σ1 h1=>?_
    have k1':=(h1.2.obj σ.no (by show σ.no < ((τ.newO _).setO τ.no w.cs).no; simp; omega)).trans k1
    have hno1 : τ.no + 1 ≤ σ1.no:=h1.2.no
    simp
    refine lit_src (hN.keep (hA0.trans h1.2)) h1.byt (by simp; omega) fun v3 σ3 h3 u3 m3=>?_
    have n3:=h3.byt.one
    have k1a:=(congrFun u3 σ.no).trans k1'
    simp [n3,a6,w1]
    exact next _ _ (by simp [a1]) (by simp [a2]) (by simp) (by simpa using h3) (by omega) k1a
   ·simp [pc53_l1,a1,a2,a6,ho',hixL,hrdL,r1,rl,hlt',hix2,hrd2,W.av,W.cs,splice,hon,o1,o2,n1]
    show ACalls Tryz.prog G 93 [w.av] _ _
    refine plainE_calls hc hrw fun v1 σ1 h1=>?_
    have k1':=(h1.2.obj σ.no (by show σ.no < ((τ.newO _).setO τ.no w.cs).no; simp; omega)).trans k1
    have hno1 : τ.no + 1 ≤ σ1.no:=h1.2.no
    simp
    refine lit_src (hN.keep (hA0.trans h1.2)) h1.byt (by simp; omega) fun v3 σ3 h3 u3 m3=>?_
    have n3:=h3.byt.one
    have k1a:=(congrFun u3 σ.no).trans k1'
    simp [n3,a6,w1]
    exact next _ _ (by simp [a1]) (by simp [a2]) (by simp) (by simpa using h3) (by omega) k1a
 ·have hie : i = ws.length:=by omega
  subst hie
  simp only [List.drop_length,encWs,Option.some.injEq] at hr
  subst hr
  have : done = bs:=by rw [← hbsd]; simp
  subst this
  simp [pc53_l1,pc53_r1,a1,a2,a6,ho',hixL,hrdL,r1,rl,n1]
  exact h _ _ hN
theorem listE_ok {G : Env} {ls : To} (hw : ∀ ws ∈ ls,ws.length ≤ 2 ^ 40) (hrg : RgL ls) : ∀ k,EncQ G ls k
 | 0=>fun _ _ _ _ _ _ _ _ _ _ _ _ h=>by simp [encL] at h
 | k + 1=>fun σ R f pv lv tv at_ bs hls hp hl ht h hb hR=>by
  have IH:=listE_ok (G:=G) hw hrg k
  rw [encL] at h
  split at h
  ·cases h
  rename_i h0
  have h0 : ¬ at_ < 0:=h0
  obtain ⟨n,rfl⟩ : ∃ n : Nat,at_ = n:=⟨at_.toNat,by omega⟩
  simp only [Int.toNat_natCast] at h
  cases hg : ls[n]? with
  | none=>rw [hg] at h; cases h
  | some ws =>
   rw [hg] at h
   simp only at h
   obtain ⟨hn,hge⟩:=List.getElem?_eq_some_iff.1 hg
   subst hls
   obtain ⟨φ,rv,hrd,hrv,hix⟩:=ht.at hn
   rw [hge] at hrv
   have hmem : ws ∈ f.lists:=List.mem_of_getElem? hg
   have p1:=hp.one
   have l1:=hl.one
   have t1:=ht.one
   refine calls53 rfl ?_
   simp [pc53,FCs,p1,l1,t1]
   refine aloop (LiQ f.lists k n σ (FCs f pv lv tv) ws bs) (MU 6 (ws.length + 1)) ⟨0,[],bs,by omega,by simpa using h,rfl,by simp,by simp,by simp,⟨.inr (.inl ⟨rfl,by simp⟩),(Adds.refl σ).newO⟩,by simp,by simp [FCs]⟩ fun a τ hI=>?_
   exact listE_body IH rfl hp hl ht hrd hix hrv (hw ws hmem) hb (hrg ws hmem) hR hI
end
end Go.Proofs.YthejpoplbllcbaaGreatDoor
set_option linter.unusedSimpArgs false
set_option linter.unusedVariables false
namespace Go.Proofs.YthejpoplbllcbaaGreatDoor
open Go Go.Abs
def LitT (T : Nat → Nat) (i : Nat) (σ τ : AS) (v : AV) (bs : List UInt8) : Prop := v = .sl (.stat true) 1 (B bs) ∨ (bs = [] ∧ v = .nilsl) ∨ ∃ g,v = .sl (.fam g false) 1 (B bs) ∧ σ.nf ≤ g ∧ g < τ.nf ∧ τ.F g = .alive ∧ T g = i
theorem LitT.keep {T i σ τ τ' v bs} (h : LitT T i σ τ v bs) (A : Adds τ τ') : LitT T i σ τ' v bs := by
 rcases h with h | h | ⟨g,h1,h2,h3,h4,h5⟩
 ·exact .inl h
 ·exact .inr (.inl h)
 ·exact .inr (.inr ⟨g,h1,h2,Nat.lt_of_lt_of_le h3 A.nf,(A.fam g h3).trans h4,h5⟩)
theorem LitT.byt {T i σ τ v bs} (h : LitT T i σ τ v bs) : BytO τ v bs := by
 rcases h with h | h | ⟨g,h1,h2,h3,h4,h5⟩
 ·exact .inr ⟨_,h,trivial⟩
 ·exact .inl h
 ·exact .inr ⟨_,h1,h3,h4⟩
theorem LitT.tag {T T' : Nat → Nat} {i σ τ v bs} (h : LitT T i σ τ v bs) (hT : ∀ g,g < τ.nf → T' g = T g) : LitT T' i σ τ v bs := by
 rcases h with h | h | ⟨g,h1,h2,h3,h4,h5⟩
 ·exact .inl h
 ·exact .inr (.inl h)
 ·exact .inr (.inr ⟨g,h1,h2,h3,h4,(hT g h3).trans h5⟩)
theorem LitB.tagged {σ0 σ τ v bs} {T : Nat → Nat} {i : Nat} (h : LitB σ τ v bs) (h0 : σ0.nf ≤ σ.nf) (hT : ∀ g,σ.nf ≤ g → g < τ.nf → T g = i) : LitT T i σ0 τ v bs := by
 rcases h.1 with h | ⟨h1,h2⟩ | ⟨g,h1,h2,h3,h4⟩
 ·exact .inl h
 ·exact .inr (.inl ⟨by simpa [B] using h1,h2⟩)
 ·exact .inr (.inr ⟨g,h1,by omega,h3,h4,hT g h2 h3⟩)
def Beside (T T' : Nat → Nat) (i : Nat) (σ τ τ' : AS) : Prop := ∀ j w z,1 ≤ j → j ≠ i → LitT T j σ τ w z → LitT T' j σ τ' w z
section
variable {G : Env} {σ : AS} {R : Out → AS → Prop}
theorem growT {T : Nat → Nat} {i : Nat} {τ : AS} {v : AV} {ys : List AV} {x y : List UInt8} {K : AV → AS → Prop} (hi : 1 ≤ i) (h1 : LitT T i σ τ v x) (e : ys = B y) (hT : FreshT T τ) (A : Adds σ τ) (hl : x.length + y.length ≤ 2 ^ 42)
  (h : ∀ v' τ' T',LitT T' i σ τ' v' (x ++ y) → FreshT T' τ' → Adds σ τ' → τ'.objs = τ.objs → τ'.no = τ.no → Beside T T' i σ τ τ' → K v' τ') : grown 1 1 v ys τ K:=by
 subst e
 have hn:=A.nf
 have mk : ∀ z : List UInt8,LitT (upd T τ.nf i) i σ τ.newF (.sl (.fam τ.nf false) 1 (B z)) z:=fun z=>.inr (.inr ⟨τ.nf,rfl,hn,by simp,by simp,by simp⟩)
 have fr : FreshT (upd T τ.nf i) τ.newF:=fun f hf=>by
  simp at hf
  have : ¬ f = τ.nf:=by omega
  simp [this]
  exact hT f (by omega)
 have tg : ∀ {j w z},LitT T j σ τ w z → LitT (upd T τ.nf i) j σ τ w z:=fun hw=>hw.tag fun g hg=>by
  have : ¬ g = τ.nf:=by omega
  simp [this]
 have bs : Beside T (upd T τ.nf i) i σ τ τ.newF:=fun j w z _ _ hw=>(tg hw).keep (Adds.refl τ).newF
 rcases h1 with rfl | ⟨rfl,rfl⟩ | ⟨g,rfl,g1,g2,g3,g4⟩
 ·cases y with
  | nil =>
   have e0 : B [] = []:=rfl
   rw [e0]
   simp
   exact ⟨by simp at hl; omega,h _ _ T (.inl (by simp)) hT A rfl rfl fun _ _ _ _ _ q=>q⟩
  | cons c y =>
   have:=h (.sl (.fam τ.nf false) 1 (B (x ++ c :: y))) τ.newF _ (mk _) fr A.newF (by simp) (by simp) bs
   simp only [B,List.map_append,List.map_cons] at this ⊢
   simp
   simp at hl
   exact ⟨by omega,this⟩
 ·cases y with
  | nil =>
   have e0 : B [] = []:=rfl
   rw [e0]
   simp
   exact h _ _ T (.inr (.inl ⟨rfl,rfl⟩)) hT A rfl rfl fun _ _ _ _ _ q=>q
  | cons c y =>
   have:=h (.sl (.fam τ.nf false) 1 (B (c :: y))) τ.newF _ (mk _) fr A.newF (by simp) (by simp) bs
   simp only [B,List.map_cons] at this ⊢
   simp
   simp at hl
   exact ⟨by omega,this⟩
 ·simp [g3]
  have hne : ∀ f,f < σ.nf → ¬ f = g:=fun f hf=>by omega
  refine ⟨by omega,h _ _ (upd T τ.nf i) (.inr (.inr ⟨τ.nf,by simp,hn,by simp,by simp,by simp⟩)) (fun f hf=>?_) ((A.setF g1).newF (σ':=τ.setF g .dead)) (by simp) (by simp) fun j w z j1 j2 hw=>?_⟩
  ·simp at hf
   have : ¬ f = τ.nf:=by omega
   simp [this]
   exact hT f (by omega)
  ·rcases tg hw with q | q | ⟨g',q1,q2,q3,q4,q5⟩
   ·exact .inl q
   ·exact .inr (.inl q)
   ·have e1 : ¬ g' = g:=fun e=>by
     subst e
     have : ¬ g' = τ.nf:=by omega
     simp [this,g4] at q5
     exact j2 q5.symm
    have e2 : ¬ g' = τ.nf:=by omega
    exact .inr (.inr ⟨g',q1,q2,by simp; omega,by simp [e1,e2,q4],q5⟩)
theorem srcT {T : Nat → Nat} {i : Nat} {τ : AS} {v v2 : AV} {x y : List UInt8} {K : AV → AS → Prop} (hi : 1 ≤ i) (h1 : LitT T i σ τ v x) (h2 : BytO τ v2 y) (hT : FreshT T τ) (A : Adds σ τ) (hl : x.length + y.length ≤ 2 ^ 42)
  (h : ∀ v' τ' T',LitT T' i σ τ' v' (x ++ y) → FreshT T' τ' → Adds σ τ' → τ'.objs = τ.objs → τ'.no = τ.no → Beside T T' i σ τ τ' → K v' τ') :
  asource Tryz.prog 22 (.int .u8 0) 1 v2 τ.F fun ys=>(∀ y,y ∈ ys → y.cells.length = 1 ∧ ∀ c,c ∈ y.cells → c.one = true) ∧ grown 1 1 v ys τ K:=by
 rcases h2 with ⟨rfl,rfl⟩ | ⟨φ,rfl,hr⟩
 ·simp
  exact growT (y:=[]) hi h1 rfl hT A hl h
 ·have hr':=hr.read
  simp [hr']
  exact ⟨B_one y,growT hi h1 rfl hT A hl h⟩
theorem litT {T : Nat → Nat} {i : Nat} {τ : AS} {v2 : AV} {x y : List UInt8} {K : AV → AS → Prop} (h2 : BytO τ v2 y) (hy : y ≠ []) (hT : FreshT T τ) (A : Adds σ τ) (hl : x.length + y.length ≤ 2 ^ 42)
  (h : ∀ v' τ' T',LitT T' i σ τ' v' (x ++ y) → FreshT T' τ' → Adds σ τ' → τ'.objs = τ.objs → τ'.no = τ.no → Beside T T' i σ τ τ' → K v' τ') :
  asource Tryz.prog 22 (.int .u8 0) 1 v2 τ.F fun ys=>(∀ y,y ∈ ys → y.cells.length = 1 ∧ ∀ c,c ∈ y.cells → c.one = true) ∧ grown 1 1 (.lit x) ys τ K:=by
 rcases h2 with ⟨h0,_⟩ | ⟨φ,rfl,hr⟩
 ·exact absurd h0 hy
 have hr':=hr.read
 have hn:=A.nf
 have hBy : B y ≠ []:=by simpa [B] using hy
 simp [hr']
 refine ⟨B_one y,by omega,hBy,?_⟩
 rw [← B_app]
 refine h _ _ (upd T τ.nf i) (.inr (.inr ⟨τ.nf,rfl,hn,by simp,by simp,by simp⟩)) (fun f hf=>?_) A.newF (by simp) (by simp) fun j w z _ _ hw=>(hw.tag fun g hg=>?_).keep (Adds.refl τ).newF
 ·simp at hf
  have : ¬ f = τ.nf:=by omega
  simp [this]
  exact hT f (by omega)
 ·have : ¬ g = τ.nf:=by omega
  simp [this]
end
end Go.Proofs.YthejpoplbllcbaaGreatDoor
