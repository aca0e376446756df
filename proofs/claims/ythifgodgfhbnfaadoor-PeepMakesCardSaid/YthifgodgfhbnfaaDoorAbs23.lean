/- One round of a range over a function, out of what its text asks; panics pass; no condition. -/
import Derived.Test.YthifgodgfhbnfaaDoorAbs22
namespace Go.Abs
open Go

def rpost (P : Program) (l : Nat) (R : Ending → World → Prop) : Exit → Act → World → Prop
  | .normal, _, w => ∃ v w', (Instr.endRound l none).run P w = .ok v w' ∧ R (.returned v) w'
  | .panic ch, a, w => a.defers = [] ∧ R (.panicked ch) w
  | _, _, _ => False

theorem roundIn_any {P : Program} {l : Nat} {f : FuncId} {tmps : Array Value} {assign body : Code} {w : World} {R : Ending → World → Prop} {fn : Func} (hf : P.funcs[f]? = some fn)
    (h : assign.wpIn (wideAt (some l)) 0 P (Exit.then (fun a₁ w₁ => ∃ w₂, (Instr.beginRound l).run P w₁ = .ok () w₂ ∧ body.wpIn (wideAt (some l)) 0 P (rpost P l R) a₁ w₂) (fun _ _ _ => False)) { tmps := tmps, defers := [] } w) :
    RoundIn Fence.wide 0 P l f tmps assign body w R := by
  refine ⟨trivial, fun c cs hr => ?_⟩
  let b : Frame := { (default : Frame) with fn := f, kind := .normal, roundOf := some l }
  have hb0 : Frame.round l f tmps assign body .normal = b.atR { tmps := tmps, defers := [] } [.code assign, .beginRound, .code body] := by
    simp [Frame.round, Frame.atR, b]
  have hr' : (wideAt (some l)).room ((c :: cs).length + 1 + 0) := hr
  have hF' : (wideAt (some l)).fn b.fn := trivial
  obtain ⟨e, a₁, w₁, hq, harr⟩ := h b [.beginRound, .code body] (c :: cs) rfl hF' hr'
  rw [← hb0] at harr
  cases e with
  | normal =>
    obtain ⟨w₂, hbr, hbody⟩ := hq
    have s1 : StepsIn (Machine.fenced P (wideAt (some l))) P (lone (b.atR a₁ [.beginRound, .code body]) (c :: cs) w₁) (lone (b.atR a₁ [.code body]) (c :: cs) w₂) :=
      .one (fenced_calm (fr := b.atR a₁ [.beginRound, .code body]) hF' hr' rfl) (stepR_beginRound rfl hbr)
    obtain ⟨e₂, a₂, w₃, hq₂, harr₂⟩ := hbody b [] (c :: cs) rfl hF' hr'
    cases e₂ with
    | normal =>
      obtain ⟨v, w₄, hend, hR⟩ := hq₂
      exact ⟨.returned v, w₄, hR, (StepsIn.trans harr s1).trans (StepsIn.trans harr₂ (.one (fenced_calm (fr := b.atR a₂ []) hF' hr' rfl) (stepR_round_end rfl rfl hend)))⟩
    | panic chain =>
      obtain ⟨hd, hR⟩ := hq₂
      obtain ⟨todo, hs⟩ := harr₂
      have hlv : ({ b.atR a₂ todo with mode := .panicking chain } : Frame).leaving P w₃ (.panicked chain) := ⟨rfl, hd, fn, hf⟩
      have hend := step_leave_panicked (c := c) (cs := cs) hlv
      exact ⟨.panicked chain, w₃, hR, (StepsIn.trans harr s1).trans (StepsIn.trans hs (.one (fenced_wide _ _) hend))⟩
    | exit id => exact hq₂.elim
    | goto t => exact hq₂.elim
    | ret => exact hq₂.elim
    | outgrown => exact hq₂.elim
  | exit id => exact hq.elim
  | goto t => exact hq.elim
  | ret => exact hq.elim
  | panic chain => exact hq.elim
  | outgrown => exact hq.elim

/-! ### a round, abstractly -/
def upds (a : Nat → AV) (ps : List Nat) (args : List AV) : Nat → AV := (ps.zip args).foldl (fun a x => upd a x.1 x.2) a

theorem Fr.upds {M F w a n} {tmps : Array Value} (h1 : tmps.size = n) (h2 : ∀ t, VR M F w (a t) (tmps.getD t undef)) :
    ∀ (ps : List Nat) (args : List AV) (cargs : List Value), (∀ p ∈ ps, p < n) → args.length = cargs.length → (∀ j (h : j < args.length) (h' : j < cargs.length), VR M F w args[j] cargs[j]) →
      ((ps.zip cargs).foldl (fun tmps x => tmps.setIfInBounds x.1 x.2) tmps).size = n ∧ ∀ t, VR M F w (upds a ps args t) (((ps.zip cargs).foldl (fun tmps x => tmps.setIfInBounds x.1 x.2) tmps).getD t undef) := by
  intro ps
  induction ps generalizing a tmps with
  | nil => intro args cargs _ _ _; exact ⟨h1, h2⟩
  | cons p ps ih =>
    intro args cargs hp hl hv
    cases args with
    | nil =>
      cases cargs with
      | nil => exact ⟨h1, h2⟩
      | cons c cs => simp at hl
    | cons x xs =>
      cases cargs with
      | nil => simp at hl
      | cons c cs =>
        simp only [List.zip_cons_cons, List.foldl_cons]
        have e : Abs.upds a (p :: ps) (x :: xs) = Abs.upds (upd a p x) ps xs := rfl
        rw [e]
        refine ih (by simpa using h1) (fun t => ?_) xs cs (fun q hq => hp q (by simp [hq])) (by simpa using hl) (fun j h h' => hv (j + 1) (by simpa using h) (by simpa using h'))
        have hpn := hp p (by simp)
        have h0 := hv 0 (by simp) (by simp)
        simp only [List.getElem_cons_zero] at h0
        rw [Array.getD_eq_getD_getElem?, Array.getElem?_setIfInBounds]
        by_cases ht : t = p
        · subst ht
          rw [if_pos rfl, if_pos (by omega)]
          simpa [upd] using h0
        · rw [if_neg (Ne.symm ht)]
          have := h2 t
          rw [Array.getD_eq_getD_getElem?] at this
          simpa [upd, ht] using this

/-- what a round's body must come to -/
def rq (f0 : Nat) (K PK : AV → AS → Prop) : AQ
  | .normal, _, σ => σ.F f0 = .alive ∧ K (.bool true) σ
  | .panic v, _, σ => σ.F f0 = .alive ∧ PK v { σ with F := upd σ.F f0 .dead }
  | _, _, _ => False
/-- what a round asks -/
def ARound (P : Program) (G : Env) (n : Nat) (pa pb : PC) (ps : List Nat) (f0 : Nat) (a : Nat → AV) (args : List AV) (σ : AS) (K PK : AV → AS → Prop) : Prop :=
  args.length = ps.length ∧ σ.F f0 = .alive ∧ avc P G n pa (athen (fun a1 σ1 => σ1.F f0 = .alive ∧ avc P G n pb (rq f0 K PK) a1 σ1) fun _ _ _ => False) (upds a ps args) σ
/-- the loop l is under way -/
def Env.under (G : Env) (P : Program) (n : Nat) (pa pb : PC) (ps : List Nat) (f0 : Nat) (a : Nat → AV) (l : Nat) : Env :=
  { g := G.g, has := fun x => x = l, y := fun x args σ K PK => x = l ∧ ARound P G n pa pb ps f0 a args σ K PK, fix := G.fix }
end Go.Abs
