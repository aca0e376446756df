/- Loops of which the rounds are counted; no condition. -/
import Derived.Test.YthifgodgfhbnfaaDoorAbs27
namespace Go.Abs
open Go
/-- so many rounds, and the loop is left -/
def ARounds (P : Program) (G : Env) (n : Nat) (p : PC) (Q : AQ) : Nat → (Nat → AV) → AS → Prop
  | 0, _, _ => False
  | m + 1, a, σ => avc P G n p (athen (ARounds P G n p Q m) Q) a σ
@[simp] theorem ARounds_succ {P : Program} {G : Env} {n : Nat} {p : PC} {Q : AQ} (m : Nat) (a σ) : ARounds P G n p Q (m + 1) a σ = avc P G n p (athen (ARounds P G n p Q m) Q) a σ := Eq.trans rfl rfl
@[congr] theorem ARounds_congr {dd : Prop} (_ : blk = dd) {P : Program} {G : Env} {n : Nat} {p : PC} {Q : AQ} {m : Nat} {a a' : Nat → AV} {σ σ' : AS} (h : a = a') (h2 : σ = σ') : ARounds P G n p Q m a σ = ARounds P G n p Q m a' σ' := by rw [h, h2]
/-- A LOOP, ROUND BY ROUND. -/
theorem aloop_rounds {P : Program} {G : Env} {n : Nat} {p : PC} {Q : AQ} {a : Nat → AV} {σ : AS} (m : Nat) (h : ARounds P G n p Q m a σ) : ALoop P G n p Q a σ := by
  intro hm c hc ro D M0 F0 w0 M w ac S g E f hD
  have key : ∀ (m : Nat) (a : Nat → AV) (σ : AS) (M : Mp) (w : World) (ac : Act), ARounds P G n p Q m a σ → Sim M σ w → GOk P G M σ.F w → Ext M0 F0 w0 M σ.F w → Fr M σ.F w a ac n → ac.defers = D →
      Code.roundsIn (wideAt ro) 0 P c (QC P G n D M0 F0 w0 Q) m ac w := by
    intro m
    induction m with
    | zero => intro a σ M w ac h; exact h.elim
    | succ m ih =>
      intro a σ M w ac hR S g E f hD
      rw [roundsIn_succ]
      refine wpIn_mono (avc_sound hm c p hc _ a σ hR ro D M0 F0 w0 M w ac S g E f hD) fun e ac' w' hq => ?_
      obtain ⟨e', a', σ', M', q, r, S', g', E', f', hD'⟩ := hq
      cases e' with
      | normal => cases e <;> simp only [ERel] at r; exact ih a' σ' M' w' ac' q S' g' E' f' hD'
      | exit i => cases e <;> simp only [ERel] at r; exact ⟨.exit i, a', σ', M', q, r, S', g', E', f', hD'⟩
      | ret => cases e <;> simp only [ERel] at r; exact ⟨.ret, a', σ', M', q, trivial, S', g', E', f', hD'⟩
      | panic v => cases e <;> simp only [ERel] at r; exact ⟨.panic v, a', σ', M', q, r, S', g', E', f', hD'⟩
  exact wpIn_loop_rounds m (key m a σ M w ac h S g E f hD)
end Go.Abs
