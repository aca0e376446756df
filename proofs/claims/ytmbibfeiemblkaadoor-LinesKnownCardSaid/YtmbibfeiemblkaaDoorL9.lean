/- Part of the proofs of layer 26's statements: L9 (what the functions of lines and of its reference do, under the conditions that each theorem names). -/
import Derived.Test.YtmbibfeiemblkaaDoorL8
import Derived.Lib.ItoaLen
import Derived.Deep.DeepMust
set_option linter.unusedSimpArgs false
set_option linter.unusedVariables false
namespace Go.Proofs.YtmbibfeiemblkaaDoor
open Go Go.Abs Go.RowKit
theorem n166_of_105 {P : Program} {ρ : Go.Shelf.Ren} (h : Go.Proofs.Lays.n105 P ρ) : Go.Proofs.Lays.n166 P ρ where
  mixed := h.mixed
  f166 := h.f166
  f240 := h.f240
  f276 := h.f276
  t0 := h.t0
  a0 := h.a0
  z0 := h.z0
  v0 := h.v0
  t3 := h.t3
  a3 := h.a3
  z3 := h.z3
  v3 := h.v3
  t4 := h.t4
  a4 := h.a4
  z4 := h.z4
  v4 := h.v4
  t9 := h.t9
  a9 := h.a9
  z9 := h.z9
  v9 := h.v9
  t20 := h.t20
  a20 := h.a20
  z20 := h.z20
  v20 := h.v20
  t37 := h.t37
  a37 := h.a37
  z37 := h.z37
  v37 := h.v37
  t70 := h.t70
  a70 := h.a70
  z70 := h.z70
  v70 := h.v70
  t72 := h.t72
  a72 := h.a72
  z72 := h.z72
  v72 := h.v72
  t75 := h.t75
  a75 := h.a75
  z75 := h.z75
  v75 := h.v75
  t164 := h.t164
  a164 := h.a164
  z164 := h.z164
  v164 := h.v164
theorem write_string (B b : Nat) (bs : List Value) (s : ByteArray) (w : World) (h : Lib.IsBuilder 49 5 B b bs w) (hlen : bs.length + s.size ≤ 140737488355328) (hBw : B ≤ w.heap.size) :
    Calls Tryd.prog 22 #[.pointer (some ⟨b, 0, none⟩), .string s] w fun e w' => e = .returned (.tuple #[.int .i64 s.size, .nilIface]) ∧ (Lib.BuilderAt 49 5 B b (.pointer (some ⟨b, 0, none⟩)) (bs ++ Lib.strCells s) w' ∧ Below B w w') := Any.Builder_WriteString (n166_of_105 Tryd.lays105) Tryd.Builder_Extra_105 B b bs s w h hlen hBw
theorem isB_below {T e : TypeId} {B b : Nat} {bs : List Value} {w w' : World} (h : Lib.IsBuilder T e B b bs w) (hb : Below w.heap.size w w') : Lib.IsBuilder T e B b bs w' := by
  have hg : w.grownBy w' none := ⟨hb.os, hb.tape, hb.output, hb.size, fun k hk _ => hb.block k hk⟩
  have one : ∀ p, Lib.BuilderAt T e B b p bs w → Lib.BuilderAt T e B b p bs w' := by
    intro p h
    have hl := h.lt
    obtain ⟨hB, v, hv, hown, hne⟩ := h
    refine ⟨hB, v, by rw [hb.block b hl]; exact hv, hown.kept hg ?_, hne⟩
    cases v.ownBlock <;> simp
  exact h.elim (fun x => .inl (one _ x)) (fun x => .inr (one _ x))
theorem isB_lt {T e : TypeId} {B b : Nat} {bs : List Value} {w : World} (h : Lib.IsBuilder T e B b bs w) : b < w.heap.size := h.elim (·.lt) (·.lt)
/-- a world within Tell: the sight's box at bx, the text so far in the builder at b -/
structure TW (m : Int) (w0 : World) (bx b : Nat) (no at_ : Int) (bs : List UInt8) (W : World) : Prop where
  base : WOk m w0
  low : Below w0.heap.size w0 W
  lo : w0.heap.size ≤ b
  lt : bx < b
  box : W.heap[bx]? = some (.cells #[.int .i64 no, .int .i64 at_] 24 (0, 0))
  bd : Lib.IsBuilder 49 5 b b (Lib.byteCells bs) W
section
variable {m : Int} {w0 W : World} {bx b : Nat} {no at_ : Int} {bs : List UInt8}
theorem TW.ok (h : TW m w0 bx b no at_ bs W) : WOk m W := h.base.below h.low
theorem TW.below {W' : World} (h : TW m w0 bx b no at_ bs W) (hb : Below W.heap.size W W') : TW m w0 bx b no at_ bs W' :=
  ⟨h.base, below_trans h.low hb, h.lo, h.lt, by rw [hb.block bx (by have := isB_lt h.bd; have := h.lt; omega)]; exact h.box, isB_below h.bd hb⟩
theorem TW.drew (h : TW m w0 bx b no at_ bs W) : TW m w0 bx b no at_ bs W.drew := h.below (Below.refl _ _).drew
theorem TW.cell (h : TW m w0 bx b no at_ bs W) : W.cell? ⟨bx, 0, none⟩ = some (.int .i64 no) := by simp [World.cell?, h.box]
theorem itoa_t (h : TW m w0 bx b no at_ bs W) (n : Int) (h0 : -9223372036854775808 ≤ n) (h1 : n ≤ 9223372036854775807) : Calls Tryd.prog 23 #[.int .i64 n] W fun e W' => e = .returned (.string ⟨(Lib.itoa n).toArray⟩) ∧ TW m w0 bx b no at_ bs W' :=
  (itoa_w h.ok n h0 h1).mono fun _ _ ⟨he, hb⟩ => ⟨he, h.below hb⟩
theorem reason_t (h : TW m w0 bx b no at_ bs W) (n : Int) : Calls Tryd.prog 19 #[.int .i64 n] W fun e W' => e = .returned (.string ⟨(reasonP n).toArray⟩) ∧ TW m w0 bx b no at_ bs W' :=
  (reason_w h.ok n).mono fun _ _ ⟨he, hb⟩ => ⟨he, h.below hb⟩
theorem line_t (h : TW m w0 bx b no at_ bs W) {s : ByteArray} (hs : s.size ≤ 2 ^ 30) (n : Int) : Calls Tryd.prog 12 #[.string s, .int .i64 n] W fun e W' => e = .returned (.string ⟨(lineP s.data.toList n).toArray⟩) ∧ TW m w0 bx b no at_ bs W' :=
  (line_w h.ok hs n).mono fun _ _ ⟨he, hb⟩ => ⟨he, h.below hb⟩
theorem shown_t (h : TW m w0 bx b no at_ bs W) {s : ByteArray} (hs : s.size ≤ 2 ^ 30) : Calls Tryd.prog 24 #[.string s] W fun e W' => e = .returned (.string ⟨(shown s.data.toList).toArray⟩) ∧ TW m w0 bx b no at_ bs W' :=
  (shown_w h.ok hs).mono fun _ _ ⟨he, hb⟩ => ⟨he, h.below hb⟩
theorem repeat_t (h : TW m w0 bx b no at_ bs W) (c : Nat) (hc : c ≤ 2 ^ 31) (n : Int) (hn : n = c) : Calls Tryd.prog 25 #[.string ⟨#[32]⟩, .int .i64 n] W fun e W' => e = .returned (.string ⟨(List.replicate c (32 : UInt8)).toArray⟩) ∧ TW m w0 bx b no at_ bs W' := by
  subst hn
  refine (Tryd.strings_Repeat ⟨#[32]⟩ c W (by omega) ?_).mono fun _ _ ⟨he, hb⟩ => ⟨?_, h.below hb⟩
  · show 1 * c ≤ _
    omega
  · rw [he]
    have : ∀ c, Lib.repeatL [32] c = List.replicate c (32 : UInt8) := by
      intro c
      induction c with
      | zero => rfl
      | succ c ih => rw [Lib.repeatL, ih, List.replicate_succ]; rfl
    rw [← this]
theorem write_t (h : TW m w0 bx b no at_ bs W) (s : ByteArray) (hl : bs.length + s.size ≤ 2 ^ 40) : Calls Tryd.prog 22 #[.pointer (some ⟨b, 0, none⟩), .string s] W fun e W' => e = .returned (.tuple #[.int .i64 s.size, .nilIface]) ∧ TW m w0 bx b no at_ (bs ++ s.data.toList) W' := by
  refine (write_string b b (Lib.byteCells bs) s W h.bd (by simp [Lib.byteCells]; omega) (Nat.le_of_lt (isB_lt h.bd))).mono fun e W' ⟨he, hb, hl'⟩ => ⟨he, h.base, h.low.trans (hl'.mono h.lo), h.lo, h.lt, by rw [hl'.block bx h.lt]; exact h.box, ?_⟩
  rw [Lib.strCells_eq] at hb
  refine .inr ?_
  rw [show Lib.byteCells (bs ++ s.data.toList) = Lib.byteCells bs ++ Lib.byteCells s.data.toList from by simp [Lib.byteCells]]
  exact hb
theorem string_t (h : TW m w0 bx b no at_ bs W) : Calls Tryd.prog 26 #[.pointer (some ⟨b, 0, none⟩)] W fun e W' => e = .returned (.string ⟨bs.toArray⟩) ∧ Below w0.heap.size w0 W' :=
  (Tryd.Builder_String_any b b bs W h.bd (Nat.le_of_lt (isB_lt h.bd))).mono fun e W' ⟨he, hb⟩ => ⟨he, h.low.trans (hb.mono h.lo)⟩
end
def tellP (t : List UInt8) (no at_ : Int) : List UInt8 :=
  Lib.itoa ((whereP t at_).1 : Int) ++ 58 :: (Lib.itoa ((whereP t at_).2 : Int) ++ 58 :: 32 :: (reasonP no ++ 10 :: (shown (lineP t ((whereP t at_).1 : Int)) ++ 10 :: (List.replicate ((whereP t at_).2 - 1) 32 ++ [94, 10]))))
theorem reasonP_le (no : Int) : (reasonP no).length ≤ 64 := by
  unfold reasonP
  split
  · decide
  · rename_i h
    have h1 : no.toNat < 15 := by omega
    generalize no.toNat = k at h1
    revert k
    decide
theorem lineP_le (t : List UInt8) (n : Int) : (lineP t n).length ≤ t.length := by
  unfold lineP lineText
  split
  · refine Nat.le_trans (List.takeWhile_sublist _).length_le ?_
    simp
  · simp
theorem whereP_1 (t : List UInt8) (at_ : Int) : (whereP t at_).1 ≤ t.length + 1 := Nat.le_trans (lineOf_le t _) (begins_length t)
theorem whereP_2 (t : List UInt8) (at_ : Int) : 1 ≤ (whereP t at_).2 ∧ (whereP t at_).2 ≤ t.length + 1 := by
  have := clamp_le t at_
  unfold whereP
  simp only
  omega

theorem bsz (l : Array UInt8) : (⟨l⟩ : ByteArray).size = l.size := rfl
def tellB (S1 S2 S3 S4 S5 : ByteArray) : List UInt8 := S1.data.toList ++ 58 :: (S2.data.toList ++ 58 :: 32 :: (S3.data.toList ++ 10 :: (S4.data.toList ++ 10 :: (S5.data.toList ++ [94, 10]))))
set_option maxHeartbeats 4000000 in
theorem tell_walk {m : Int} {w : World} (hw : WOk m w) {s : ByteArray} (no at_ : Int) (r c : Int) (S1 S2 S3 L S4 S5 : ByteArray)
    (h1 : S1.size ≤ 21) (h2 : S2.size ≤ 21) (h3 : S3.size ≤ 64) (h4 : S4.size ≤ 2 ^ 30) (h5 : S5.size ≤ 2 ^ 31) (hc0 : 1 ≤ c) (hc1 : c ≤ 2 ^ 31)
    (cW : ∀ w, WOk m w → Calls Tryd.prog 9 #[.string s, .int .i64 at_] w fun e w' => e = .returned (.tuple #[.int .i64 r, .int .i64 c]) ∧ Below w.heap.size w w')
    (cR : ∀ W, WOk m W → Calls Tryd.prog 23 #[.int .i64 r] W fun e w' => e = .returned (.string S1) ∧ Below W.heap.size W w')
    (cC : ∀ W, WOk m W → Calls Tryd.prog 23 #[.int .i64 c] W fun e w' => e = .returned (.string S2) ∧ Below W.heap.size W w')
    (cN : ∀ W, WOk m W → Calls Tryd.prog 19 #[.int .i64 no] W fun e w' => e = .returned (.string S3) ∧ Below W.heap.size W w')
    (cL : ∀ W, WOk m W → Calls Tryd.prog 12 #[.string s, .int .i64 r] W fun e w' => e = .returned (.string L) ∧ Below W.heap.size W w')
    (cS : ∀ W, WOk m W → Calls Tryd.prog 24 #[.string L] W fun e w' => e = .returned (.string S4) ∧ Below W.heap.size W w')
    (cP : ∀ W, WOk m W → Calls Tryd.prog 25 #[.string ⟨#[32]⟩, .int .i64 (c - 1)] W fun e w' => e = .returned (.string S5) ∧ Below W.heap.size W w') :
    Calls Tryd.prog 8 #[.string s, .agg #[.int .i64 no, .int .i64 at_]] w fun e w' => e = .returned (.string ⟨(tellB S1 S2 S3 S4 S5).toArray⟩) ∧ Below w.heap.size w w' := by
  have hsub : wrap64 (c - 1) = c - 1 := by unfold wrap64; omega
  have g1 : ¬ (9223372036854775807 < S1.size + 1) := by omega
  have g2 : ¬ (9223372036854775807 < S1.size + 1 + S2.size) := by omega
  have g3 : ¬ (9223372036854775807 < S1.size + 1 + S2.size + 2) := by omega
  have g4 : ¬ (9223372036854775807 < S1.size + 1 + S2.size + 2 + S3.size) := by omega
  have g5 : ¬ (9223372036854775807 < S1.size + 1 + S2.size + 2 + S3.size + 1) := by omega
  have g6 : ¬ (9223372036854775807 < S4.size + 1) := by omega
  have g7 : ¬ (9223372036854775807 < S5.size + 2) := by omega
  have b0 : Below w.heap.size w (w.alloc (.cells #[.int .i64 no, .int .i64 at_] 24)) := (Below.refl _ w).alloc (Nat.le_refl _) _
  have hx0 : (w.alloc (.cells #[.int .i64 no, .int .i64 at_] 24)).heap[w.heap.size]? = some (.cells #[.int .i64 no, .int .i64 at_] 24 (0, 0)) := heap_alloc_new w _
  go_enter Tryd.func8, Tryd.ntmps8
  go_wp2_with (go_at_call 9; refine (cW _ (hw.below b0)).mono ?_; rintro e W1 ⟨rfl, b1⟩)
  have t2 : TW m w w.heap.size W1.heap.size no at_ [] (W1.alloc (.cells #[.pointer none, .slice none 0 0] 49)) := by
    have b2 : Below W1.heap.size W1 (W1.alloc (.cells #[.pointer none, .slice none 0 0] 49)) := (Below.refl _ W1).alloc (Nat.le_refl _) _
    have hs1 : w.heap.size < (w.alloc (.cells #[.int .i64 no, .int .i64 at_] 24)).heap.size := (Array.getElem?_eq_some_iff.1 hx0).1
    have hs2 := b1.size
    refine ⟨hw, b0.trans ((b1.mono b0.size).trans (b2.mono (by omega))), by omega, by omega, ?_, Lib.fresh_isBuilder 49 5 W1⟩
    rw [b2.block _ (by omega), b1.block _ hs1]
    exact hx0
  have t3 := t2.drew
  have hcell := t3.cell
  go_region_with (first
    | (go_at_call 22; go_must (refine (write_t (by assumption) _ (by simp [bsz]; omega)).mono ?_; rintro e W ⟨rfl, hT⟩))
    | (go_at_call 19; refine ((cN _ (TW.ok (by assumption))).mono fun _ _ ⟨he, hb⟩ => ⟨he, TW.below (by assumption) hb⟩ : Calls Tryd.prog _ _ _ fun e w' => _ ∧ TW m w w.heap.size W1.heap.size no at_ _ w').mono ?_; rintro e W ⟨rfl, hT⟩)
    | (go_at_call_of 23 r; refine ((cR _ (TW.ok (by assumption))).mono fun _ _ ⟨he, hb⟩ => ⟨he, TW.below (by assumption) hb⟩ : Calls Tryd.prog _ _ _ fun e w' => _ ∧ TW m w w.heap.size W1.heap.size no at_ _ w').mono ?_; rintro e W ⟨rfl, hT⟩; have hc := hT.cell)
    | (go_at_call_of 23 c; refine ((cC _ (TW.ok (by assumption))).mono fun _ _ ⟨he, hb⟩ => ⟨he, TW.below (by assumption) hb⟩ : Calls Tryd.prog _ _ _ fun e w' => _ ∧ TW m w w.heap.size W1.heap.size no at_ _ w').mono ?_; rintro e W ⟨rfl, hT⟩; have hc := hT.cell))
  all_goals (
    go_wp2_with (first
      | (go_at_call 12; go_must (refine ((cL _ (TW.ok (by assumption))).mono fun _ _ ⟨he, hb⟩ => ⟨he, TW.below (by assumption) hb⟩ : Calls Tryd.prog _ _ _ fun e w' => _ ∧ TW m w w.heap.size W1.heap.size no at_ _ w').mono ?_; rintro e W ⟨rfl, hT⟩))
      | (go_at_call 24; go_must (refine ((cS _ (TW.ok (by assumption))).mono fun _ _ ⟨he, hb⟩ => ⟨he, TW.below (by assumption) hb⟩ : Calls Tryd.prog _ _ _ fun e w' => _ ∧ TW m w w.heap.size W1.heap.size no at_ _ w').mono ?_; rintro e W ⟨rfl, hT⟩))
      | (go_at_call 25; go_must (refine ((cP _ (TW.ok (by assumption))).mono fun _ _ ⟨he, hb⟩ => ⟨he, TW.below (by assumption) hb⟩ : Calls Tryd.prog _ _ _ fun e w' => _ ∧ TW m w w.heap.size W1.heap.size no at_ _ w').mono ?_; rintro e W ⟨rfl, hT⟩))
      | (go_at_call 22; go_must (refine (write_t (by assumption) _ (by simp [bsz]; omega)).mono ?_; rintro e W ⟨rfl, hT⟩))
      | (go_at_call 26; go_must (refine (string_t (by assumption)).mono ?_; rintro e W ⟨rfl, hT⟩)))
    go_ret
    exact ⟨rfl, by assumption⟩)

theorem repeat_w {m : Int} {w : World} (hw : WOk m w) (c : Nat) (hc : c ≤ 2 ^ 31) (n : Int) (hn : n = c) : Calls Tryd.prog 25 #[.string ⟨#[32]⟩, .int .i64 n] w fun e w' => e = .returned (.string ⟨(List.replicate c (32 : UInt8)).toArray⟩) ∧ Below w.heap.size w w' := by
  subst hn
  refine (Tryd.strings_Repeat ⟨#[32]⟩ c w (by omega) ?_).mono fun _ _ ⟨he, hb⟩ => ⟨?_, hb⟩
  · show 1 * c ≤ _
    omega
  · rw [he]
    have : ∀ c, Lib.repeatL [32] c = List.replicate c (32 : UInt8) := by
      intro c
      induction c with
      | zero => rfl
      | succ c ih => rw [Lib.repeatL, ih, List.replicate_succ]; rfl
    rw [← this]
theorem tell_w {m : Int} {w : World} (hw : WOk m w) {s : ByteArray} (hs : s.size ≤ 2 ^ 30) (no at_ : Int) : Calls Tryd.prog 8 #[.string s, .agg #[.int .i64 no, .int .i64 at_]] w fun e w' => e = .returned (.string ⟨(tellP s.data.toList no at_).toArray⟩) ∧ Below w.heap.size w w' := by
  have hlen : s.data.toList.length = s.size := by simp
  have hr1 := whereP_1 s.data.toList at_
  have hc1 := whereP_2 s.data.toList at_
  have hl := lineP_le s.data.toList ((whereP s.data.toList at_).1 : Int)
  have key := tell_walk hw (s := s) no at_ ((whereP s.data.toList at_).1 : Int) ((whereP s.data.toList at_).2 : Int)
    ⟨(Lib.itoa ((whereP s.data.toList at_).1 : Int)).toArray⟩ ⟨(Lib.itoa ((whereP s.data.toList at_).2 : Int)).toArray⟩ ⟨(reasonP no).toArray⟩
    ⟨(lineP s.data.toList ((whereP s.data.toList at_).1 : Int)).toArray⟩ ⟨(shown (lineP s.data.toList ((whereP s.data.toList at_).1 : Int))).toArray⟩ ⟨(List.replicate ((whereP s.data.toList at_).2 - 1) (32 : UInt8)).toArray⟩
    (by rw [bsz, List.size_toArray]; exact Lib.itoa_length_le _ (by omega) (by omega)) (by rw [bsz, List.size_toArray]; exact Lib.itoa_length_le _ (by omega) (by omega)) (by rw [bsz, List.size_toArray]; exact reasonP_le no)
    (by rw [bsz, List.size_toArray]; unfold shown; rw [List.length_map]; omega) (by rw [bsz, List.size_toArray, List.length_replicate]; omega) (by omega) (by omega)
    (fun W hW => where_w hW hs at_) (fun W hW => itoa_w hW _ (by omega) (by omega)) (fun W hW => itoa_w hW _ (by omega) (by omega)) (fun W hW => reason_w hW no) (fun W hW => line_w hW hs _)
    (fun W hW => by have := shown_w hW (s := ⟨(lineP s.data.toList ((whereP s.data.toList at_).1 : Int)).toArray⟩) (by rw [bsz, List.size_toArray]; omega); simpa using this)
    (fun W hW => repeat_w hW _ (by omega) _ (by omega))
  simpa [tellB, tellP] using key
theorem tell_calls {m : Int} {t : List UInt8} (hl : t.length ≤ 2 ^ 30) (no at_ : Int) {σ : AS} {R : Out → AS → Prop} (h : R (.ret (.str (tellP t no at_))) σ) : ACalls Tryd.prog (GL m) 8 [.str t, .agg [.int .i64 no, .int .i64 at_]] σ R := by
  refine ACalls.of_below fun M w cargs S g hc => ?_
  obtain ⟨hsz, hcs⟩ := hc
  obtain ⟨c0, e0, v0⟩ := hcs 0 _ rfl
  obtain ⟨c1, e1, v1⟩ := hcs 1 _ rfl
  have hargs : cargs = #[c0, c1] := by
    apply Array.ext_getElem?
    intro i
    match i with
    | 0 => simpa using e0
    | 1 => simpa using e1
    | n + 2 => simp at hsz; rw [Array.getElem?_eq_none (by omega), Array.getElem?_eq_none (by simp)]
  subst hargs
  have h0 := str_out v0
  have h1 : c1 = .agg #[.int .i64 no, .int .i64 at_] := by
    cases v1 with
    | agg cs A ha va =>
      have a0 := va 0 (by simp) (by rw [ha]; simp)
      have a1 := va 1 (by simp) (by rw [ha]; simp)
      have : A = #[A[0]'(by rw [ha]; simp), A[1]'(by rw [ha]; simp)] := by
        apply Array.ext
        · exact ha
        · intro i hi1 hi2
          match i, hi2 with
          | 0, _ => rfl
          | 1, _ => rfl
      rw [this]
      simp only [List.getElem_cons_zero, List.getElem_cons_succ] at a0 a1
      rw [a0.int_inv, a1.int_inv]
  subst h0 h1
  refine (tell_w (gok_all S g) (s := ⟨t.toArray⟩) (by rw [bsz, List.size_toArray]; exact hl) no at_).mono fun e w' ⟨he, hb⟩ => ⟨⟨.str (tellP t no at_), _, he, fun M F w => ?_, h⟩, hb⟩
  have := VR.str (M := M) (F := F) (w := w) ⟨(tellP t no at_).toArray⟩
  simpa using this
end Go.Proofs.YtmbibfeiemblkaaDoor
