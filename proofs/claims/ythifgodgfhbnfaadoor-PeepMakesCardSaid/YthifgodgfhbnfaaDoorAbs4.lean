/- The quiet operations' abstract meaning is borne out by the model: memory's parts, slices, literals; no condition. -/
import Derived.Test.YthifgodgfhbnfaaDoorAbs3
namespace Go.Abs
open Go

theorem flat_get {xs : List AV} {sz i j : Nat} {v : AV} (hsz : ∀ x ∈ xs, x.cells.length = sz) (hv : xs[i]? = some v) (hj : j < v.cells.length) :
    i * sz + j < (flat xs).length ∧ (flat xs)[i * sz + j]? = some v.cells[j] := by
  have hd := flat_drop sz xs i hsz
  obtain ⟨hi, hx⟩ := List.getElem?_eq_some_iff.1 hv
  have hcons : xs.drop i = v :: xs.drop (i + 1) := by rw [← hx]; exact List.drop_eq_getElem_cons hi
  have h1 : (flat xs)[i * sz + j]? = ((flat xs).drop (i * sz))[j]? := by rw [List.getElem?_drop]
  have h2 : (flat xs)[i * sz + j]? = some v.cells[j] := by
    rw [h1, hd, hcons]
    simp only [flat, List.flatMap_cons]
    rw [List.getElem?_append_left hj, List.getElem?_eq_getElem hj]
  exact ⟨(List.getElem?_eq_some_iff.1 h2).1, h2⟩

theorem Mem.sub {M F w φ B off n} (h : Mem M F w φ B off n) {d m : Nat} (hm : d + m ≤ n) : Mem M F w φ B (off + d) m := by
  cases φ with
  | stat b => exact h
  | fam f b =>
    refine ⟨h.1, fun hd => ⟨(h.2 hd).1, fun j hj => ?_⟩⟩
    have := (h.2 hd).2 (d + j) (by omega)
    rw [Nat.add_assoc]
    exact this

theorem addr_add (B off n : Nat) : (⟨B, off, none⟩ : Addr).add n = ⟨B, off + n, none⟩ := by
  unfold Addr.add; split
  · rename_i h; subst h; rfl
  · rfl

/-- an element of a slice -/
theorem VR.elem {M F w φ sz xs a c cap} (h : VR M F w (.sl φ sz xs) c) (hcc : c = .slice (some a) xs.length cap) {i : Nat} {v : AV} (hv : xs[i]? = some v) :
    VR M F w (.pv φ v) (.pointer (some (a.add (i * sz)))) := by
  cases h with
  | slz => simp at hv
  | sl _ _ _ B off _ cs hcap hlit hsz hm hc hv' =>
  cases hcc
  rw [addr_add]
  obtain ⟨hi, hx⟩ := List.getElem?_eq_some_iff.1 hv
  have hl : v.cells.length = sz := hsz v (by rw [← hx]; exact List.getElem_mem hi)
  refine .pv φ v B (off + i * sz) (fun j => cs (i * sz + j)) ?_ (fun hr j hj => ?_) (fun hr j hj => ?_)
  · refine hm.sub (n := cap * sz) ?_
    rw [hl]
    have : (i + 1) * sz ≤ cap * sz := Nat.mul_le_mul_right _ (by omega)
    rw [Nat.add_mul, Nat.one_mul] at this
    exact this
  · have := hc hr (i * sz + j) (flat_get hsz hv hj).1
    rw [Nat.add_assoc]; exact this
  · obtain ⟨h1, h2⟩ := flat_get hsz hv hj
    have h3 := hv' hr _ h1
    obtain ⟨_, h4⟩ := List.getElem?_eq_some_iff.1 h2
    rw [h4] at h3
    exact h3

theorem run_und {P : Program} {t : TypeId} {d : TypeDesc} (h : P.underlying t = some d) (w : World) : (underlying t).run P w = .ok d w := run_underlying h w

theorem elOf_spec {P : Program} {t sz} (h : elOf P t = some sz) : ∃ e, P.underlying t = some (.slice e) ∧ szOf P e = some sz := by
  unfold elOf at h
  split at h
  · exact ⟨_, ‹_›, h⟩
  · cases h

theorem arOf_spec {P : Program} {t l s g} (h : arOf P t = some (l, s, g)) : ∃ e, P.underlying t = some (.array l e) ∧ szOf P e = some s ∧ aggOf P e = g := by
  unfold arOf at h
  split at h
  · rename_i n e hd
    cases hs : szOf P e with
    | none => simp [hs] at h
    | some s' => simp [hs] at h; obtain ⟨rfl, rfl, rfl⟩ := h; exact ⟨e, hd, hs, rfl⟩
  · cases h

theorem fiOf_spec {P : Program} {t i f} (h : fiOf P t i = some f) :
    ∃ fs fd, P.underlying t = some (.struct fs) ∧ fs[i]? = some fd ∧ szOf P fd.type = some f.size ∧ f.size ≠ 0 ∧ fd.offset = f.off ∧ aggOf P fd.type = f.agg := by
  unfold fiOf at h
  split at h
  · rename_i fs hd
    split at h
    · rename_i fd hf
      split at h
      · rename_i n hn
        split at h
        · cases h
        · simp at h; subst h; exact ⟨fs, fd, hd, hf, hn, by assumption, rfl, rfl⟩
      · cases h
    · cases h
  · cases h

theorem szOf_und {P : Program} {t : TypeId} {n : Nat} (h : szOf P t = some n) : ∃ d, P.underlying t = some d := by
  unfold szOf at h
  split at h
  · exact ⟨_, ‹_›⟩
  · cases h

theorem agg_inv {M F w cs c} (h : VR M F w (.agg cs) c) : ∃ A : Array Value, c = .agg A ∧ A.size = cs.length ∧ ∀ j (h : j < cs.length) (h' : j < A.size), VR M F w cs[j] A[j] := by
  cases h; exact ⟨_, rfl, ‹_›, ‹_›⟩

theorem agg_sub {M F w} {cs : List AV} {A : Array Value} (hA : A.size = cs.length) (va : ∀ j (h : j < cs.length) (h' : j < A.size), VR M F w cs[j] A[j]) (off n : Nat) (hn : off + n ≤ cs.length) :
    VR M F w (.agg ((cs.drop off).take n)) (.agg (A.extract off (off + n))) := by
  refine .agg _ _ (by simp; omega) (fun j h h' => ?_)
  have h1 : j < n := by simp at h; omega
  have h3 := va (off + j) (by omega) (by omega)
  simpa using h3

theorem partOf_sound {P : Program} {t : TypeId} {n off : Nat} {d : TypeDesc} (hd : P.underlying t = some d) (hn : szOf P t = some n) {cs : List AV} {K : AV → Prop} (h : partOf (aggOf P t) n off cs K) :
    ∃ v, K v ∧ ∀ M F w (A : Array Value), A.size = cs.length → (∀ j (h : j < cs.length) (h' : j < A.size), VR M F w cs[j] A[j]) → ∃ v', (part t A off).run P w = .ok v' w ∧ VR M F w v v' := by
  unfold partOf at h
  split at h
  · rename_i hg
    refine ⟨_, h.2, fun M F w A hA va => ⟨.agg (A.extract off (off + n)), ?_, agg_sub hA va off n h.1⟩⟩
    simp [part, run_isAgg' hd, hg, run_sizeOf' hn]
  · rename_i hg
    obtain ⟨v, hv, hk⟩ := h
    obtain ⟨hi, hx⟩ := List.getElem?_eq_some_iff.1 hv
    refine ⟨v, hk, fun M F w A hA va => ⟨A[off], ?_, ?_⟩⟩
    · simp [part, run_isAgg' hd, hg, Array.getElem?_eq_getElem (show off < A.size by omega)]
    · have := va off hi (by omega)
      rw [hx] at this; exact this

theorem aun_sound {op x} {K : AV → Prop} (h : aun op x K) (P : Program) :
    ∃ v, K v ∧ ∀ M F w x', VR M F w x x' → ∃ v', (Op.unary op x').run P w = .ok v' w ∧ VR M F w v v' := by
  unfold aun at h
  split at h
  · refine ⟨_, h, fun M F w x' hx => ⟨_, by rw [hx.bool_inv]; simp [Op.unary] <;> rfl, .bool _⟩⟩
  · rename_i k n
    refine ⟨_, h, fun M F w x' hx => ⟨.int k (k.wrap (-n)), by rw [hx.int_inv]; simp [Op.unary, Op.intArith], .int ..⟩⟩
  · exact h.elim

theorem isStr_spec {P : Program} {t} (h : isStr P t = true) : P.underlying t = some .string := by
  unfold isStr at h
  split at h
  · assumption
  · cases h

theorem intOf?_spec {P : Program} {t k} (h : intOf? P t = some k) : P.underlying t = some (.int k) := by
  unfold intOf? at h
  split at h
  · simp at h; subst h; assumption
  · cases h

theorem aconv_sound {P : Program} {s d x} {K : AV → Prop} (h : aconv P s d x K) :
    ∃ v, K v ∧ ∀ M F w x', VR M F w x x' → ∃ v', (convert s d x').run P w = .ok v' w ∧ VR M F w v v' := by
  unfold aconv at h
  split at h
  · rename_i k0 n
    obtain ⟨k, hk, hs, hK⟩ := h
    obtain ⟨ds, hs⟩ := Option.isSome_iff_exists.1 hs
    refine ⟨_, hK, fun M F w x' hx => ⟨.int k (k.wrap n), ?_, .int ..⟩⟩
    rw [hx.int_inv]
    simp [convert, run_underlying hs, run_underlying (intOf?_spec hk), Conv.intToInt]
  · obtain ⟨hk, hs, hK⟩ := h
    obtain ⟨ds, hs⟩ := Option.isSome_iff_exists.1 hs
    refine ⟨_, hK, fun M F w x' hx => ?_⟩
    obtain ⟨b, rfl, e⟩ := hx.str_inv
    refine ⟨.string b, ?_, VR.str' e⟩
    simp [convert, run_underlying hs, run_underlying (isStr_spec hk)]
  · exact h.elim

theorem aindex_sound {P : Program} {t x i} {K : AV → Prop} (h : aindex P t x i K) :
    ∃ v, K v ∧ ∀ M F w x' i', VR M F w x x' → VR M F w i i' → ∃ v', (Instr.index t x' i').run P w = .ok v' w ∧ VR M F w v v' := by
  unfold aindex at h
  split at h
  · rename_i s k n
    obtain ⟨hs, h0, b, hb, hK⟩ := h
    refine ⟨_, hK, fun M F w x' i' hx hi => ?_⟩
    obtain ⟨bs, rfl, e⟩ := hx.str_inv
    rw [hi.int_inv]
    refine ⟨.int .u8 b.toNat, ?_, .int ..⟩
    subst e
    have hb' : bs[n.toNat]? = some b := by
      obtain ⟨h1, h2⟩ := List.getElem?_eq_some_iff.1 hb
      rw [getElem?_pos bs n.toNat (by simpa using h1)]
      rw [← h2]; rfl
    simp [Instr.index, asIntOf, run_underlying (isStr_spec hs), h0, hb']
  · rename_i cs k n
    obtain ⟨l, s, g, har, h0, hl, hp⟩ := h
    obtain ⟨e, he, hs, rfl⟩ := arOf_spec har
    obtain ⟨d, hd⟩ := szOf_und hs
    obtain ⟨v, hK, hh⟩ := partOf_sound hd hs hp
    refine ⟨v, hK, fun M F w x' i' hx hi => ?_⟩
    obtain ⟨A, rfl, hA, va⟩ := agg_inv hx
    rw [hi.int_inv]
    obtain ⟨v', h1, h2⟩ := hh M F w A hA va
    exact ⟨v', by simp [Instr.index, asIntOf, run_underlying he, h0, hl, run_sizeOf' hs, h1], h2⟩
  · exact h.elim

theorem afield_sound {P : Program} {t x f} {K : AV → Prop} (h : afield P t x f K) :
    ∃ v, K v ∧ ∀ M F w x', VR M F w x x' → ∃ v', (Instr.field t x' f).run P w = .ok v' w ∧ VR M F w v v' := by
  unfold afield at h
  split at h
  · rename_i cs
    obtain ⟨i, hi, hp⟩ := h
    obtain ⟨fs, fd, hu, hf, hs, hne, ho, hg⟩ := fiOf_spec hi
    obtain ⟨d, hd⟩ := szOf_und hs
    rw [← hg] at hp
    obtain ⟨v, hK, hh⟩ := partOf_sound hd hs hp
    refine ⟨v, hK, fun M F w x' hx => ?_⟩
    obtain ⟨A, rfl, hA, va⟩ := agg_inv hx
    obtain ⟨v', h1, h2⟩ := hh M F w A hA va
    exact ⟨v', by simp [Instr.field, run_underlying hu, hf, asAgg, ho, h1], h2⟩
  · exact h.elim

/-- a part of a variable that nobody writes, or that a family owns -/
theorem pv_sub {φ cs} {d n : Nat} {g : Bool} {K : AV → Prop} (hp : partOf g n d cs fun v => fits g n v ∧ K v) :
    ∃ v, K v ∧ ∀ M F w B off, VR M F w (.pv φ (.agg cs)) (.pointer (some ⟨B, off, none⟩)) → VR M F w (.pv φ v) (.pointer (some ⟨B, off + d, none⟩)) := by
  unfold partOf at hp
  split at hp
  · rename_i hg
    obtain ⟨hn, hl, hK⟩ := hp
    simp only [fits, hg, if_true] at hl
    refine ⟨_, hK, fun M F w B off h => ?_⟩
    cases h with
    | pv _ _ _ _ c hm hc hv =>
    refine .pv φ _ B (off + d) (fun j => c (d + j)) ?_ (fun hr j hj => ?_) (fun hr j hj => ?_)
    · rw [hl]; exact hm.sub (by simpa [AV.cells] using hn)
    · rw [Nat.add_assoc]; exact hc hr _ (by simp [AV.cells] at hj ⊢; omega)
    · have := hv hr (d + j) (by simp [AV.cells] at hj ⊢; omega)
      simpa [AV.cells] using this
  · rename_i hg
    obtain ⟨v, hx, hone, hK⟩ := hp
    obtain ⟨hi, hx'⟩ := List.getElem?_eq_some_iff.1 hx
    simp only [fits, hg] at hone
    have hone : v.cells = [v] := hone
    refine ⟨v, hK, fun M F w B off h => ?_⟩
    cases h with
    | pv _ _ _ _ c hm hc hv =>
    refine .pv φ v B (off + d) (fun _ => c d) ?_ (fun hr j hj => ?_) (fun hr j hj => ?_)
    · rw [hone]; exact hm.sub (by simp [AV.cells]; omega)
    · have : j = 0 := by rw [hone] at hj; simp at hj; omega
      subst this
      exact hc hr d (by simpa [AV.cells] using hi)
    · have : j = 0 := by rw [hone] at hj; simp at hj; omega
      subst this
      have h3 := hv hr d (by simpa [AV.cells] using hi)
      simp only [AV.cells, hx'] at h3
      simp only [hone, List.getElem_cons_zero]
      exact h3

theorem pv_inv {M F w φ v c} (h : VR M F w (.pv φ v) c) : ∃ B off, c = .pointer (some ⟨B, off, none⟩) := by cases h; exact ⟨_, _, rfl⟩
theorem ptr_inv {M F w o off c} (h : VR M F w (.ptr o off) c) : o < M.no ∧ c = .pointer (some ⟨(M.obj o).1, (M.obj o).2 + off, none⟩) := by cases h; exact ⟨‹_›, rfl⟩
theorem sl_inv {M F w φ sz xs c} (h : VR M F w (.sl φ sz xs) c) : ∃ a cap, c = .slice (some a) xs.length cap ∧ xs.length ≤ cap := by cases h; exact ⟨_, _, rfl, ‹_›⟩; exact ⟨_, _, rfl, Nat.le_refl _⟩
theorem sl_inv_fam {M F w f b sz xs c} (h : VR M F w (.sl (.fam f b) sz xs) c) : ∃ B off cap, c = .slice (some ⟨B, off, none⟩) xs.length cap ∧ xs.length ≤ cap := by cases h; exact ⟨_, _, _, rfl, ‹_›⟩
theorem slm_inv {M F w o off sz len c} (h : VR M F w (.slm o off sz len) c) : o < M.no ∧ ∃ cap, len ≤ cap ∧ c = .slice (some ⟨(M.obj o).1, (M.obj o).2 + off, none⟩) len cap := by
  cases h; exact ⟨‹_›, _, ‹_›, rfl⟩
theorem nilsl_inv {M F w c} (h : VR M F w .nilsl c) : c = .slice none 0 0 := by cases h; rfl

theorem afieldAddr_sound {P : Program} {t x f} {K : AV → Prop} (h : afieldAddr P t x f K) :
    ∃ v, K v ∧ ∀ M F w x', VR M F w x x' → ∃ v', (Instr.fieldAt t x' f).run P w = .ok v' w ∧ VR M F w v v' := by
  unfold afieldAddr at h
  split at h
  · rename_i o off
    obtain ⟨i, hi, hK⟩ := h
    obtain ⟨fs, fd, hu, hf, hs, hne, ho, hg⟩ := fiOf_spec hi
    refine ⟨_, hK, fun M F w x' hx => ?_⟩
    obtain ⟨hlt, rfl⟩ := ptr_inv hx
    refine ⟨_, ?_, .ptr o (off + i.off) hlt⟩
    simp [Instr.fieldAt, run_underlying hu, hf, Instr.sureAddr, fieldPlace, run_sizeOf' hs, hne, ho, addr_add, Nat.add_assoc]
  · rename_i φ cs
    obtain ⟨i, hi, hp⟩ := h
    obtain ⟨fs, fd, hu, hf, hs, hne, ho, hg⟩ := fiOf_spec hi
    obtain ⟨v, hK, hh⟩ := pv_sub (φ := φ) hp
    refine ⟨_, hK, fun M F w x' hx => ?_⟩
    obtain ⟨B, off, rfl⟩ := pv_inv hx
    refine ⟨_, ?_, hh M F w B off hx⟩
    simp [Instr.fieldAt, run_underlying hu, hf, Instr.sureAddr, fieldPlace, run_sizeOf' hs, hne, ho, addr_add]
  · exact h.elim

theorem aindexAddr_sound {P : Program} {t x i} {K : AV → Prop} (h : aindexAddr P t x i K) :
    ∃ v, K v ∧ ∀ M F w x' i', VR M F w x x' → VR M F w i i' → ∃ v', (Instr.indexAt t x' i').run P w = .ok v' w ∧ VR M F w v v' := by
  unfold aindexAddr at h
  split at h
  · rename_i φ sz xs k n
    obtain ⟨he, h0, v, hv, hK⟩ := h
    obtain ⟨e, hu, hs⟩ := elOf_spec he
    refine ⟨_, hK, fun M F w x' i' hx hi => ?_⟩
    rw [hi.int_inv]
    obtain ⟨a, cap, rfl, hcap⟩ := sl_inv hx
    refine ⟨_, ?_, hx.elem rfl hv⟩
    have hl : n < (xs.length : Int) := by
      have := (List.getElem?_eq_some_iff.1 hv).1
      omega
    simp [Instr.indexAt, asIntOf, run_underlying hu, h0, hl, run_sizeOf' hs]
  · rename_i o off sz len k n
    obtain ⟨he, h0, hl, hK⟩ := h
    obtain ⟨e, hu, hs⟩ := elOf_spec he
    refine ⟨_, hK, fun M F w x' i' hx hi => ?_⟩
    rw [hi.int_inv]
    obtain ⟨hlt, cap, hcap, rfl⟩ := slm_inv hx
    refine ⟨_, ?_, .ptr o _ hlt⟩
    simp [Instr.indexAt, asIntOf, run_underlying hu, h0, hl, run_sizeOf' hs, addr_add, Nat.add_assoc]
  · rename_i o off k n
    obtain ⟨l, s, g, har, h0, hl, hK⟩ := h
    obtain ⟨e, hu, hs, rfl⟩ := arOf_spec har
    refine ⟨_, hK, fun M F w x' i' hx hi => ?_⟩
    rw [hi.int_inv]
    obtain ⟨hlt, rfl⟩ := ptr_inv hx
    refine ⟨_, ?_, .ptr o _ hlt⟩
    simp [Instr.indexAt, Instr.sureAddr, asIntOf, run_underlying hu, h0, hl, run_sizeOf' hs, addr_add, Nat.add_assoc]
  · rename_i φ cs k n
    obtain ⟨l, s, g, har, h0, hl, hp⟩ := h
    obtain ⟨e, hu, hs, rfl⟩ := arOf_spec har
    obtain ⟨v, hK, hh⟩ := pv_sub (φ := φ) hp
    refine ⟨_, hK, fun M F w x' i' hx hi => ?_⟩
    rw [hi.int_inv]
    obtain ⟨B, off, rfl⟩ := pv_inv hx
    refine ⟨_, ?_, hh M F w B off hx⟩
    simp [Instr.indexAt, Instr.sureAddr, asIntOf, run_underlying hu, h0, hl, run_sizeOf' hs, addr_add]
  · exact h.elim

theorem acap_sound {P : Program} {t x} {K : AV → Prop} (h : acap P t x K) :
    ∃ v, K v ∧ ∀ M F w x' ty, VR M F w x x' → ∃ v', (Builtin.cap_ #[t] ty #[x']).run P w = .ok v' w ∧ VR M F w v v' := by
  unfold acap at h
  split at h
  · obtain ⟨he, hK⟩ := h
    obtain ⟨sz, he⟩ := Option.isSome_iff_exists.1 he
    obtain ⟨e, hu, hs⟩ := elOf_spec he
    refine ⟨_, hK, fun M F w x' ty hx => ⟨.int .i64 0, ?_, .int ..⟩⟩
    rw [nilsl_inv hx]
    simp [Builtin.cap_, run_underlying hu, goInt]
  · rename_i φ z xs
    obtain ⟨he, hf, hK⟩ := h
    obtain ⟨sz, he⟩ := Option.isSome_iff_exists.1 he
    obtain ⟨e, hu, hs⟩ := elOf_spec he
    refine ⟨_, hK, fun M F w x' ty hx => ⟨.int .i64 xs.length, ?_, .int ..⟩⟩
    cases hx with
    | sl _ _ _ B off cap cs hcap hlit hsz hm hc hv =>
      have := hlit hf
      subst this
      simp [Builtin.cap_, run_underlying hu, goInt]
    | slz => simp [Builtin.cap_, run_underlying hu, goInt]
  · exact h.elim

theorem alen_sound {P : Program} {t x} {K : AV → Prop} (h : alen P t x K) :
    ∃ v, K v ∧ ∀ M F w x' ty, VR M F w x x' → ∃ v', (Builtin.len_ #[t] ty #[x']).run P w = .ok v' w ∧ VR M F w v v' := by
  unfold alen at h
  split at h
  · obtain ⟨hs, hK⟩ := h
    refine ⟨_, hK, fun M F w x' ty hx => ?_⟩
    obtain ⟨b, rfl, rfl⟩ := hx.str_inv
    refine ⟨.int .i64 b.data.toList.length, ?_, .int ..⟩
    simp [Builtin.len_, run_underlying (isStr_spec hs), goInt]
  · obtain ⟨he, hK⟩ := h
    obtain ⟨sz, he⟩ := Option.isSome_iff_exists.1 he
    obtain ⟨e, hu, hs⟩ := elOf_spec he
    refine ⟨_, hK, fun M F w x' ty hx => ⟨.int .i64 0, ?_, .int ..⟩⟩
    rw [nilsl_inv hx]
    simp [Builtin.len_, run_underlying hu, goInt]
  · rename_i φ z xs
    obtain ⟨he, hK⟩ := h
    obtain ⟨sz, he⟩ := Option.isSome_iff_exists.1 he
    obtain ⟨e, hu, hs⟩ := elOf_spec he
    refine ⟨_, hK, fun M F w x' ty hx => ⟨.int .i64 xs.length, ?_, .int ..⟩⟩
    obtain ⟨a, cap, rfl, _⟩ := sl_inv hx
    simp [Builtin.len_, run_underlying hu, goInt]
  · rename_i o off z len
    obtain ⟨he, hK⟩ := h
    obtain ⟨sz, he⟩ := Option.isSome_iff_exists.1 he
    obtain ⟨e, hu, hs⟩ := elOf_spec he
    refine ⟨_, hK, fun M F w x' ty hx => ⟨.int .i64 len, ?_, .int ..⟩⟩
    obtain ⟨_, cap, _, rfl⟩ := slm_inv hx
    simp [Builtin.len_, run_underlying hu, goInt]
  · exact h.elim

end Go.Abs
