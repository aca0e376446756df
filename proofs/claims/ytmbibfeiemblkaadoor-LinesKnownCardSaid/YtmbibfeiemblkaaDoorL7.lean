/- Part of the proofs of layer 26's statements: L7 (what the functions of lines and of its reference do, under the conditions that each theorem names). -/
import Derived.Test.YtmbibfeiemblkaaDoorL5
set_option linter.unusedSimpArgs false
set_option linter.unusedVariables false
namespace Go.Proofs.YtmbibfeiemblkaaDoor
open Go Go.Abs
def showB (c : UInt8) : UInt8 := if c < 32 ∨ 126 < c then 63 else c
def shown (s : List UInt8) : List UInt8 := s.map showB
theorem byte_lt (c d : UInt8) : ((c.toNat : Int) < (d.toNat : Int)) ↔ c < d := by rw [Int.ofNat_lt]; exact UInt8.lt_iff_toNat_lt.symm
theorem splice_B {X Y : List UInt8} {i : Nat} (c d : UInt8) (h : X.length = i) : splice (B (X ++ c :: Y)) i [AV.int .u8 (d.toNat : Int)] = B (X ++ d :: Y) := by
  subst h
  simp [splice, B, List.drop_append]
def HI (s : List UInt8) (x : Nat) (σ : AS) (a : Nat → AV) (τ : AS) : Prop := ∃ i : Nat, i ≤ s.length ∧ a 3 = .slm x 0 1 s.length ∧ a 8 = .slm x 0 1 s.length ∧ a 9 = .int .i64 (s.length : Int) ∧ a 10 = .int .i64 (i : Int) ∧ x < τ.no ∧ Adds σ τ ∧ τ.objs x = some (B (shown (s.take i) ++ s.drop i))
def HM (s : List UInt8) (a : Nat → AV) (_ : AS) : Nat := match a 10 with
  | .int _ n => s.length - n.toNat
  | _ => 0
theorem shown_calls {G : Env} {s : List UInt8} {σ : AS} {R : Out → AS → Prop} (hl : s.length ≤ 2 ^ 30) (h : ∀ σ', Adds σ σ' → R (.ret (.str (shown s))) σ') : ACalls Tryd.prog G 24 [.str s] σ R := by
  refine calls24 rfl ?_
  have start : ∀ a τ, HI s σ.no σ a τ → ALoop Tryd.prog G 27 pc24_l1 (ablock 0 (athen (avc Tryd.prog G 27 pc24_r1 (afin Tryd.prog [.tmp 2] R)) (afin Tryd.prog [.tmp 2] R))) a τ := by
    intro a τ hI
    refine aloop (HI s σ.no σ) (HM s) hI fun a τ hI => ?_
    obtain ⟨i, hi, a3, a8, a9, a10, hx, A, ho⟩ := hI
    have hmu : HM s a τ = s.length - i := by simp [HM, a10]
    by_cases hlt : i < s.length
    · have hw2 : IntKind.wrap .i64 ((i : Int) + 1) = (i : Int) + 1 := by rw [wrap_i64] <;> omega
      have hli : (shown (s.take i)).length = i := by simp [shown]; omega
      have hget : (B (shown (s.take i) ++ s.drop i))[i]? = some (.int .u8 (s[i].toNat : Int)) := by
        simp only [B, List.getElem?_map]
        rw [List.getElem?_append_right (by omega), hli]
        simp [hlt]
      have hlen : (B (shown (s.take i) ++ s.drop i)).length = s.length := by simp [B, hli]; omega
      have hget2 : ∀ h : i < (B (shown (s.take i) ++ s.drop i)).length, (B (shown (s.take i) ++ s.drop i))[i]'h = .int .u8 (s[i].toNat : Int) := fun h => by
        have := hget; rw [List.getElem?_eq_getElem h] at this; exact Option.some.inj this
      have hdrop : s.drop i = s[i] :: s.drop (i + 1) := List.drop_eq_getElem_cons hlt
      have htake : shown (s.take (i + 1)) = shown (s.take i) ++ [showB s[i]] := by unfold shown; rw [List.take_succ_eq_append_getElem hlt, List.map_append]; rfl
      have next : ∀ (a' : Nat → AV) (τ' : AS), a' 3 = a 3 → a' 8 = a 8 → a' 9 = a 9 → a' 10 = .int .i64 ((i : Int) + 1) → σ.no < τ'.no → Adds σ τ' → τ'.objs σ.no = some (B (shown (s.take (i + 1)) ++ s.drop (i + 1))) → HI s σ.no σ a' τ' ∧ HM s a' τ' < HM s a τ := by
        intro a' τ' b3 b8 b9 b10 c1 c2 c3
        refine ⟨⟨i + 1, hlt, by rw [b3, a3], by rw [b8, a8], by rw [b9, a9], by rw [b10]; simp, c1, c2, c3⟩, ?_⟩
        rw [hmu]
        simp only [HM, b10]
        have : ((i : Int) + 1).toNat = i + 1 := by omega
        rw [this]; omega
      by_cases h1 : s[i] < 32 ∨ 126 < s[i]
      · have hs : showB s[i] = 63 := by simp [showB, h1]
        have e1 : splice (B (shown (s.take i) ++ s.drop i)) i [AV.int .u8 63] = B (shown (s.take (i + 1)) ++ s.drop (i + 1)) := by
          rw [htake, hs, hdrop, List.append_assoc]
          exact splice_B _ 63 hli
        by_cases h2 : s[i] < 32
        · have h2' : (s[i].toNat : Int) < 32 := (byte_lt _ 32).2 h2
          simp [pc24_l1, a3, a8, a9, a10, hlt, ho, hget, hget2, h2', hlen, e1, hw2]
          exact ⟨hlt, next _ _ (by simp) (by simp) (by simp) (by simp) (by simpa using hx) (A.setO (Nat.le_refl _)) (by simp)⟩
        · have h2' : ¬ (s[i].toNat : Int) < 32 := fun e => h2 ((byte_lt _ 32).1 e)
          have h3' : (126 : Int) < (s[i].toNat : Int) := (byte_lt 126 _).2 (h1.resolve_left h2)
          simp [pc24_l1, a3, a8, a9, a10, hlt, ho, hget, hget2, h2', h3', hlen, e1, hw2]
          exact ⟨hlt, next _ _ (by simp) (by simp) (by simp) (by simp) (by simpa using hx) (A.setO (Nat.le_refl _)) (by simp)⟩
      · have h2' : ¬ (s[i].toNat : Int) < 32 := fun e => h1 (.inl ((byte_lt _ 32).1 e))
        have h3' : ¬ (126 : Int) < (s[i].toNat : Int) := fun e => h1 (.inr ((byte_lt 126 _).1 e))
        have hs : showB s[i] = s[i] := by simp [showB, h1]
        have e1 : shown (s.take (i + 1)) ++ s.drop (i + 1) = shown (s.take i) ++ s.drop i := by
          rw [htake, hs, hdrop, List.append_assoc]; rfl
        simp [pc24_l1, a3, a8, a9, a10, hlt, ho, hget, hget2, h2', h3', hlen, hw2]
        exact next _ _ (by simp) (by simp) (by simp) (by simp) hx A (by rw [e1]; exact ho)
    · have he : i = s.length := by omega
      subst he
      have ho' : τ.objs σ.no = some (B (shown s)) := by simpa using ho
      have hb : (B (shown s)).length = s.length := by simp [B, shown]
      simp [pc24_l1, pc24_r1, a3, a8, a9, a10]
      refine ⟨_, ho', by omega, shown s, by rw [List.take_of_length_le (by omega)], h _ A⟩
  simp [pc24]
  refine .inr ?_
  simp
  refine start _ _ ⟨0, by omega, by simp, by simp, by simp, by simp, by simp, (Adds.refl σ).newO, by simp [shown]⟩
end Go.Proofs.YtmbibfeiemblkaaDoor
