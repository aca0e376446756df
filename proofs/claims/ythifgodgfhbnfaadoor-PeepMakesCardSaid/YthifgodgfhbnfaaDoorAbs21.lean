/- From a contract to what a row asks: a call on memory that nobody writes leaves all that was there; no condition. -/
import Derived.Test.YthifgodgfhbnfaaDoorAbs20
import Derived.Below
namespace Go.Abs
open Go
/-- no object, no family -/
def AS.zero : AS := ⟨fun _ => none, 0, fun _ => .dead, 0⟩
/-- all that is there is nobody's to write -/
def Mp.all (w : World) : Mp := ⟨fun B => if B < w.heap.size then some .stat else none, fun _ => (0, 0), 0, 0⟩
theorem sim_all (w : World) : Sim (Mp.all w) AS.zero w where
  no := rfl
  nf := rfl
  role B r h := by
    simp only [Mp.all] at h
    split at h
    · assumption
    · cases h
  obj o cs h := by simp [AS.zero] at h
  inj o o' h := by simp [AS.zero] at h
theorem ACalls.run {P : Program} {G : Env} {f : FuncId} {args : List AV} {cargs : Array Value} {w : World} {R : Out → AS → Prop}
    (hG : GOk P G (Mp.all w) AS.zero.F w) (hc : Cells (Mp.all w) AS.zero.F w args cargs) (h : ACalls P G f args AS.zero R) :
    Calls P f cargs w fun e w' => (∃ out σ' M', R out σ' ∧ OutRel M' σ'.F w' out e) ∧ RowKit.Below w.heap.size w w' := by
  refine (h _ w cargs (sim_all w) hG hc).mono fun e w' ⟨out, σ', M', h1, h2, h3, h4⟩ => ⟨⟨out, σ', M', h1, h2⟩, h4.io.1, h4.io.2.1, h4.io.2.2, h4.size, fun k hk => ?_⟩
  exact (h4.stat k (by simp [Mp.all, hk])).2
/-- nothing is known of the package's variables -/
def G0 : Env := ⟨fun _ => .undef, fun _ => False, fun _ _ _ _ _ => False, fun _ => none⟩
theorem GOk.none (P M F w) : GOk P G0 M F w := ⟨fun _ => .undef _, fun _ h => h.elim, fun _ _ h => by cases h⟩
theorem Cells.nil (M F w) : Cells M F w [] #[] := ⟨rfl, fun j v h => by simp at h⟩
/-- a law's contract, as a row wants it -/
theorem ACalls.law {P : Program} {G : Env} {f : FuncId} {args : List AV} {cargs : Array Value} {w : World}
    (hG : GOk P G (Mp.all w) AS.zero.F w) (hc : Cells (Mp.all w) AS.zero.F w args cargs) (h : ACalls P G f args AS.zero fun o _ => o = .ret (.bool true)) :
    Calls P f cargs w fun e w' => e = .returned (.bool true) ∧ RowKit.Below w.heap.size w w' := by
  refine (ACalls.run hG hc h).mono fun e w' ⟨⟨out, σ', M', h1, h2⟩, hb⟩ => ⟨?_, hb⟩
  subst h1
  cases e with
  | returned v => simp only [OutRel] at h2; cases h2; rfl
  | _ => simp [OutRel] at h2
end Go.Abs
