/- Part of the proofs of layer 26's statements: L4 (what the functions of lines and of its reference do, under the conditions that each theorem names). -/
import Derived.Test.YtmbibfeiemblkaaDoorL3
import Derived.Test.YtmbibfeiemblkaaDoorShelf
set_option linter.unusedSimpArgs false
set_option linter.unusedVariables false
namespace Go.Proofs.YtmbibfeiemblkaaDoor
open Go Go.Abs
def reasons : List (List UInt8) := [[], [110, 111, 32, 115, 117, 99, 104, 32, 115, 105, 103, 110], [116, 104, 105, 115, 32, 100, 111, 101, 115, 32, 110, 111, 116, 32, 102, 105, 116, 32, 104, 101, 114, 101], [110, 101, 115, 116, 101, 100, 32, 116, 111, 111, 32, 100, 101, 101, 112], [116, 104, 105, 115, 32, 110, 97, 109, 101, 32, 109, 101, 97, 110, 115, 32, 110, 111, 116, 104, 105, 110, 103, 32, 104, 101, 114, 101], [116, 104, 105, 115, 32, 110, 97, 109, 101, 32, 105, 115, 32, 116, 104, 101, 114, 101, 32, 97, 108, 114, 101, 97, 100, 121], [97, 110, 111, 116, 104, 101, 114, 32, 116, 121, 112, 101, 32, 109, 117, 115, 116, 32, 115, 116, 97, 110, 100, 32, 104, 101, 114, 101], [97, 110, 111, 116, 104, 101, 114, 32, 110, 117, 109, 98, 101, 114, 32, 111, 102, 32, 97, 114, 103, 117, 109, 101, 110, 116, 115], [110, 111, 32, 115, 117, 99, 104, 32, 108, 97, 98, 101, 108], [116, 111, 111, 32, 109, 97, 110, 121], [116, 111, 111, 32, 108, 111, 110, 103], [97, 32, 110, 117, 109, 98, 101, 114, 32, 111, 117, 116, 32, 111, 102, 32, 105, 116, 115, 32, 112, 108, 97, 99, 101], [109, 97, 105, 110, 32, 109, 117, 115, 116, 32, 98, 101, 32, 116, 104, 101, 114, 101, 58, 32, 105, 110, 116, 32, 109, 97, 105, 110, 40, 41], [108, 111, 111, 112, 115, 32, 119, 105, 116, 104, 32, 116, 111, 111, 32, 109, 97, 110, 121, 32, 101, 110, 116, 114, 105, 101, 115], [116, 104, 101, 32, 115, 116, 97, 99, 107, 32, 100, 111, 101, 115, 32, 110, 111, 116, 32, 102, 105, 116]]
/-- what the package's variables hold -/
structure Vars (G : Env) : Prop where
  max : ∃ m, G.g 2 = .pv (.stat true) (.int .i64 m)
  reasons : G.g 0 = .pv (.stat true) (.agg (reasons.map AV.str))
  pow : G.g 1 = .pv (.stat true) (.agg (Lib.pow10Tab.map (AV.int .u64)))
theorem Vars.cell {G : Env} (V : Vars G) {M F w} (g : GOk Tryd.prog G M F w) : ∃ m, w.cell? ⟨2, 0, none⟩ = some (.int .i64 m) := by
  obtain ⟨m, hm⟩ := V.max
  have h := g.vars 2
  rw [hm] at h
  cases h with
  | pv φ v B off cs hmem hc hv =>
    have h1 := hc trivial 0 (by simp)
    have h2 := hv trivial 0 (by simp)
    simp at h2
    generalize cs 0 = c at h1 h2
    cases h2
    exact ⟨m, h1⟩

theorem cut_calls {G : Env} (V : Vars G) {s : List UInt8} {σ : AS} {R : Out → AS → Prop} (hl : s.length < 4294967281)
    (h : R (.ret (.tuple [.str (Lib.cut s [10]).1, .str (Lib.cut s [10]).2.1, .bool (Lib.cut s [10]).2.2])) σ) : ACalls Tryd.prog G 37 [.str s, .str [10]] σ R := by
  refine ACalls.of_below fun M w cargs S g hc => ?_
  obtain ⟨m, hm⟩ := V.cell g
  obtain ⟨c0, e0, v0⟩ := hc.2 0 _ rfl
  obtain ⟨c1, e1, v1⟩ := hc.2 1 _ rfl
  obtain ⟨b0, rfl, rfl⟩ := v0.str_inv
  obtain ⟨b1, hc1, hb1⟩ := v1.str_inv
  subst hc1
  have hcargs : cargs = #[.string b0, .string b1] := by
    have hsz : cargs.size = 2 := hc.1
    apply Array.ext
    · simpa using hsz
    · intro i h1 h2
      match i, h1 with
      | 0, _ => simpa using (Array.getElem?_eq_some_iff.1 e0).2
      | 1, _ => simpa using (Array.getElem?_eq_some_iff.1 e1).2
      | i + 2, h => omega
  rw [hcargs]
  refine (Tryd.strings_Cut b0 b1 m w (by simpa using hl) hm).mono fun e w' ⟨he, n, hw⟩ => ?_
  have hb1' : b1.data.toList = [10] := by first | exact hb1 | exact hb1.symm
  rw [hb1'] at he
  subst he
  refine ⟨⟨_, _, rfl, fun M F w => ?_, h⟩, ?_⟩
  · refine .tuple _ _ rfl fun j h1 h2 => ?_
    match j, h1 with
    | 0, _ => exact VR.str' rfl
    | 1, _ => exact VR.str' rfl
    | 2, _ => exact .bool _
  · subst hw
    exact ⟨rfl, rfl, rfl, Nat.le_refl _, fun _ _ => rfl⟩

/-! ### a line of a text -/
def lineText (t : List UInt8) (n : Nat) : List UInt8 := (t.drop (beginOf t n)).takeWhile (· ≠ 10)
theorem cut_one (s : List UInt8) : (Lib.cut s [10]).1 = s.takeWhile (· ≠ 10) := by
  have key : ∀ s : List UInt8, (0 ≤ Lib.index s [10] → s.take (Lib.index s [10]).toNat = s.takeWhile (· ≠ 10)) ∧ (¬ 0 ≤ Lib.index s [10] → s.takeWhile (· ≠ 10) = s) := by
    intro s
    induction s with
    | nil => simp [Lib.index]
    | cons b l ih =>
      have hp : ([10] : List UInt8).isPrefixOf (b :: l) = (b == 10) := by simp [List.isPrefixOf]; exact Bool.beq_comm ..
      unfold Lib.index
      rw [hp]
      by_cases hb : b = 10
      · simp [hb]
      · have hb' : (b == 10) = false := by simpa using hb
        rw [hb']
        have hge := Lib.index_ge l [10]
        by_cases hm : Lib.index l [10] = -1
        · have := ih.2 (by omega)
          simp [hm, hb]
          simpa using this
        · have h1 := ih.1 (by omega)
          have h2 : (Lib.index l [10] == -1) = false := by simpa using hm
          have h3 : (Lib.index l [10] + 1).toNat = (Lib.index l [10]).toNat + 1 := by omega
          simp only [h2, Bool.false_eq_true, if_false]
          refine ⟨fun _ => ?_, fun hn => absurd (by omega) hn⟩
          rw [h3, List.take_succ_cons, h1]
          simp [hb]
  unfold Lib.cut
  split
  · rename_i h; exact (key s).1 h
  · rename_i h; exact ((key s).2 h).symm
theorem beginsFrom_le (k : Nat) (t : List UInt8) : ∀ x ∈ beginsFrom k t, x ≤ k + t.length := by
  induction t generalizing k with
  | nil => simp [beginsFrom]
  | cons c t ih =>
    intro x hx
    simp only [beginsFrom] at hx
    split at hx
    · rcases List.mem_cons.1 hx with rfl | hx
      · simp only [List.length_cons]; omega
      · have := ih _ x hx; simp only [List.length_cons]; omega
    · have := ih _ x hx; simp only [List.length_cons]; omega
theorem beginOf_len (t : List UInt8) (n : Nat) : beginOf t n ≤ t.length := by
  unfold beginOf
  rw [List.getD_eq_getElem?_getD]
  cases hg : (begins t)[n - 1]? with
  | none => simp
  | some x =>
    simp
    rcases List.mem_cons.1 (List.mem_of_getElem? hg) with h0 | h0
    · omega
    · have := beginsFrom_le 0 t _ h0; omega
def isLine (t : List UInt8) (n : Int) : Bool := decide (1 ≤ n) && decide (n ≤ ((begins t).length : Int))
theorem line_calls {G : Env} (V : Vars G) {t : List UInt8} {n : Int} {σ : AS} {R : Out → AS → Prop} (hl : t.length ≤ 2 ^ 30)
    (h : ∀ σ', Adds σ σ' → R (.ret (.tuple (if isLine t n then [.str (lineText t n.toNat), .int .i64 (beginOf t n.toNat : Int), .bool true] else [.str [], .int .i64 0, .bool false]))) σ') : ACalls Tryd.prog G 27 [.str t, .int .i64 n] σ R := by
  refine calls27 rfl ?_
  have hbl := begins_length t
  simp [pc27]
  refine table_calls hl fun x σ1 _ ht A1 => ?_
  by_cases h1 : n < 1
  · have hi : isLine t n = false := by simp [isLine]; intro h; omega
    rw [hi] at h
    simp [h1]
    simpa using h _ A1
  · simp [h1]
    refine len_calls ht ?_
    by_cases h2 : ((begins t).length : Int) < n
    · have hi : isLine t n = false := by simp [isLine]; intro _; omega
      rw [hi] at h
      simp [h2]
      simpa using h _ A1
    · have hi : isLine t n = true := by simp [isLine]; omega
      rw [hi] at h
      obtain ⟨hx, b, ho⟩ := ht
      have hw1 : IntKind.wrap .i64 (n - 1) = ((n.toNat - 1 : Nat) : Int) := by rw [wrap_i64] <;> omega
      have hg : (begins t)[n.toNat - 1]? = some (beginOf t n.toNat) := by
        unfold beginOf
        rw [List.getD_eq_getElem?_getD, List.getElem?_eq_getElem (by omega)]; rfl
      have hbo : beginOf t n.toNat ≤ t.length := beginOf_len t _
      simp [h2, ho, ints, hw1, hg]
      refine ⟨hbo, cut_calls V (by simp; omega) ?_⟩
      simp
      have := h _ A1
      simpa [lineText, cut_one] using this
theorem Line_calls {G : Env} (V : Vars G) {t : List UInt8} {n : Int} {σ : AS} {R : Out → AS → Prop} (hl : t.length ≤ 2 ^ 30)
    (h : ∀ σ', Adds σ σ' → R (.ret (.str (if isLine t n then lineText t n.toNat else []))) σ') : ACalls Tryd.prog G 12 [.str t, .int .i64 n] σ R := by
  refine calls12 rfl ?_
  simp [pc12]
  refine line_calls V hl fun σ1 A1 => ?_
  have := h σ1 A1
  cases hi : isLine t n
  · rw [hi] at this; simpa using this
  · rw [hi] at this; simpa using this
def placeP (t : List UInt8) (n c : Int) : Int × Bool := if isLine t n && decide (1 ≤ c) && decide (c ≤ ((lineText t n.toNat).length : Int) + 1) then ((beginOf t n.toNat : Int) + c - 1, true) else (0, false)
theorem place_calls {G : Env} (V : Vars G) {t : List UInt8} {n c : Int} {σ : AS} {R : Out → AS → Prop} (hl : t.length ≤ 2 ^ 30)
    (h : ∀ σ', Adds σ σ' → R (.ret (.tuple [.int .i64 (placeP t n c).1, .bool (placeP t n c).2])) σ') : ACalls Tryd.prog G 14 [.str t, .int .i64 n, .int .i64 c] σ R := by
  refine calls14 rfl ?_
  simp [pc14]
  refine line_calls V hl fun σ1 A1 => ?_
  have := h σ1 A1
  unfold placeP at this
  have hlen : (lineText t n.toNat).length ≤ t.length := by
    unfold lineText
    exact Nat.le_trans (List.takeWhile_sublist _).length_le (by simp)
  have hbo : beginOf t n.toNat ≤ t.length := beginOf_len t _
  cases hi : isLine t n
  · rw [hi] at this
    simpa using this
  · rw [hi] at this
    have hw : IntKind.wrap .i64 (((lineText t n.toNat).length : Int) + 1) = ((lineText t n.toNat).length : Int) + 1 := by rw [wrap_i64] <;> omega
    by_cases h1 : c < 1
    · have h1' : ¬ (1 ≤ c) := by omega
      simp only [h1', decide_false, Bool.and_false, Bool.false_and, Bool.false_eq_true, if_false] at this
      simp [h1]
      exact this
    · by_cases h2 : ((lineText t n.toNat).length : Int) + 1 < c
      · have h2' : ¬ (c ≤ ((lineText t n.toNat).length : Int) + 1) := by omega
        simp only [h2', decide_false, Bool.and_false, Bool.false_eq_true, if_false] at this
        simp [h1, h2, hw]
        exact this
      · have h1' : 1 ≤ c := by omega
        have h2' : c ≤ ((lineText t n.toNat).length : Int) + 1 := by omega
        simp only [h1', h2', decide_true, Bool.and_true, if_true] at this
        have w1 : IntKind.wrap .i64 ((beginOf t n.toNat : Int) + c) = (beginOf t n.toNat : Int) + c := by rw [wrap_i64] <;> omega
        have w2 : IntKind.wrap .i64 ((beginOf t n.toNat : Int) + c - 1) = (beginOf t n.toNat : Int) + c - 1 := by rw [wrap_i64] <;> omega
        simp [h1, h2, hw, w1, w2]
        exact this
end Go.Proofs.YtmbibfeiemblkaaDoor
