/- An interpreter of the language over data, and the proof that what it answers is what the machine does; no condition. -/
import Derived.Test.YtdojjjjhbgkpfaaAiS2
set_option linter.unusedVariables false
set_option linter.unusedSimpArgs false
namespace Go.Ai
section
variable {P : Program} {β : Nat → Option BV} {I : Imm} {w : World} {σ : List Blk}
theorem known_siz {e : TypeId} (h : known P e = true) (w : World) : (sizeOf e).run P w = .ok (P.cellsOf e) w := by
  unfold known at h
  obtain ⟨d, hd⟩ := Option.isSome_iff_exists.1 h
  exact run_siz hd w
theorem run_siz' {t : TypeId} (h : P.cellsOf t ≠ 0) (w : World) : (sizeOf t).run P w = .ok (P.cellsOf t) w := by
  unfold Program.cellsOf at h ⊢
  cases hi : P.info? t with
  | none => simp [hi] at h
  | some i => simp [sizeOf, typeInfo, hi]
theorem fieldOf_und {s : TypeId} {f off : Nat} {u : TypeId} (h : fieldOf P s f = some (off, u)) : ∃ fs fl, P.underlying s = some (.struct fs) ∧ fs[f]? = some fl ∧ fl.offset = off ∧ fl.type = u := by
  unfold fieldOf at h
  split at h
  · rename_i fs hu
    simp only [Option.map_eq_some_iff, Prod.mk.injEq] at h
    obtain ⟨fl, h1, h2, h3⟩ := h
    exact ⟨fs, fl, hu, h1, h2, h3⟩
  · simp at h
theorem fieldAddr_sound {s : TypeId} {f off : Nat} {u : TypeId} (h : fieldOf P s f = some (off, u)) (hz : P.cellsOf u ≠ 0) (b o : Nat) (w : World) :
    (Instr.fieldAt s (.pointer (some ⟨b, o, none⟩)) f).run P w = .ok (.pointer (some ⟨b, o + off, none⟩)) w := by
  obtain ⟨fs, fl, h1, h2, rfl, rfl⟩ := fieldOf_und h
  simp [Instr.fieldAt, run_und h1, h2, Instr.sureAddr, fieldPlace, run_siz' hz, hz, addr_add]
theorem field_sound {s : TypeId} {f off : Nat} {u : TypeId} {cs : List V} {v : V} {c : Value} (h : fieldOf P s f = some (off, u)) (hp : part P u cs off = some v) (hx : VR β I (.agg cs) c) (w : World) :
    ∃ r, (Instr.field s c f).run P w = .ok r w ∧ VR β I v r := by
  obtain ⟨fs, fl, h1, h2, rfl, rfl⟩ := fieldOf_und h
  simp only [VR] at hx
  obtain ⟨vs, rfl, hx⟩ := hx
  obtain ⟨r, h3, h4⟩ := part_sound hp hx w
  exact ⟨r, by simp [Instr.field, run_und h1, h2, asAgg, h3], h4⟩
theorem aindex_sound {t : TypeId} {x ix v : V} {c i : Value} (h : aindex P t x ix = some v) (hx : VR β I x c) (hix : VR β I ix i) (w : World) :
    ∃ r, (Instr.index t c i).run P w = .ok r w ∧ VR β I v r := by
  unfold aindex at h
  split at h
  · rename_i len e cs k n hu
    split at h
    · rename_i hc
      simp only [VR] at hx hix
      obtain ⟨vs, rfl, hx⟩ := hx
      obtain ⟨rfl, _⟩ := hix
      obtain ⟨r, h1, h2⟩ := part_sound h hx w
      exact ⟨r, by simp [Instr.index, asIntOf, run_und hu, hc.2.1, hc.2.2, known_siz hc.1, h1], h2⟩
    · simp at h
  · rename_i s k n hu
    split at h
    · rename_i hc
      simp only [VR] at hx hix
      obtain ⟨rfl, _⟩ := hx
      obtain ⟨rfl, _⟩ := hix
      simp only [Option.map_eq_some_iff] at h
      obtain ⟨b, h1, rfl⟩ := h
      have h2 : s[n.toNat]? = some b := by
        rw [← h1]
        obtain ⟨hlt, hb⟩ := Array.getElem?_eq_some_iff.1 h1
        have : n.toNat < s.size := hlt
        simp only [getElem?_pos, this, h1]
        congr 1
      exact ⟨_, by simp [Instr.index, asIntOf, run_und hu, hc, h2]; rfl, by simp [VR, scalar]⟩
    · simp at h
  · simp at h
theorem aindexAddr_sound (hi : Inv β I σ w) {t : TypeId} {x ix v : V} {c i : Value} (h : aindexAddr P σ t x ix = some v) (hx : VR β I x c) (hix : VR β I ix i) (w' : World) :
    ∃ r, (Instr.indexAt t c i).run P w' = .ok r w' ∧ VR β I v r := by
  unfold aindexAddr at h
  split at h
  · rename_i len e tag bi o k n hu
    split at h
    · rename_i hc
      simp at h
      subst h
      simp only [VR] at hx hix
      obtain ⟨y, hy, rfl⟩ := hx
      obtain ⟨rfl, _⟩ := hix
      exact ⟨_, by simp [Instr.indexAt, asIntOf, run_und hu, Instr.sureAddr, hc.2.1, hc.2.2, known_siz hc.1]; rfl, by simp only [VR]; exact ⟨y, hy, by rw [addr_add, Nat.add_assoc]⟩⟩
    · simp at h
  · rename_i len e cs k n hu
    split at h
    · rename_i hc
      simp at h
      subst h
      simp only [VR] at hx hix
      obtain ⟨b, o, rfl, hcs⟩ := hx
      obtain ⟨rfl, _⟩ := hix
      exact ⟨_, by simp [Instr.indexAt, asIntOf, run_und hu, Instr.sureAddr, hc.2.1, hc.2.2, known_siz hc.1]; rfl, by simp only [VR]; exact ⟨b, _, by rw [addr_add], (hcs.drop _).take _⟩⟩
    · simp at h
  · rename_i e tag off len k n hu
    split at h
    · rename_i hc
      split at h
      · rename_i z xs ro hk
        split at h
        · rename_i hz
          simp at h
          subst h
          simp only [VR] at hx hix
          obtain ⟨rfl, _⟩ := hix
          have hb := hi.blk tag _ hk
          simp only [BlkR] at hb
          rcases hx with ⟨y, hy, ⟨hcap, rfl⟩ | ⟨rfl, _⟩⟩ | ⟨_, _, rfl, _⟩
          · rcases hb with ⟨h1, rfl⟩ | ⟨b, cap, cs, e', h1, _⟩
            · rw [hy] at h1; simp at h1
            · rw [hy] at h1
              simp at h1
              subst h1
              refine ⟨_, by simp [Instr.indexAt, asIntOf, run_und hu, hc.2.1, hc.2.2, known_siz hc.1]; rfl, ?_⟩
              simp only [VR]
              refine ⟨_, hy, ?_⟩
              rw [addr_add, Nat.add_zero, Nat.add_mul, hz]
          · omega
          · omega
        · simp at h
      · simp at h
    · simp at h
  · rename_i e tag off len z k n hu
    split at h
    · rename_i hc
      simp at h
      subst h
      simp only [VR] at hx hix
      obtain ⟨y, a, cap, hy, hle, rfl, ha⟩ := hx
      obtain ⟨rfl, _⟩ := hix
      rcases ha with rfl | rfl
      · omega
      · exact ⟨_, by simp [Instr.indexAt, asIntOf, run_und hu, hc.2.1, hc.2.2.1, known_siz hc.1]; rfl, by simp only [VR]; exact ⟨y, hy, by rw [addr_add, Nat.zero_mul, Nat.zero_add, hc.2.2.2]⟩⟩
    · simp at h
  · rename_i e z rows k n hu
    split at h
    · rename_i hc
      simp only [Option.map_eq_some_iff] at h
      obtain ⟨r, hr, rfl⟩ := h
      simp only [VR, TR] at hx hix
      obtain ⟨a, cap, rfl, hle, ha⟩ := hx
      obtain ⟨rfl, _⟩ := hix
      rcases ha with rfl | ⟨b, off, rfl, hrows⟩
      · simp at hr
      · obtain ⟨_, hcs⟩ := hrows.get hr
        exact ⟨_, by simp [Instr.indexAt, asIntOf, run_und hu, hc.2.1, hc.2.2.1, known_siz hc.1]; rfl, by simp only [VR]; exact ⟨b, _, by rw [addr_add, ← hc.2.2.2], hcs⟩⟩
    · simp at h
  · simp at h
/-! ### Slices -/
def OptR (β : Nat → Option BV) (I : Imm) : Option V → Option Value → Prop
  | none, none => True
  | some v, some c => VR β I v c
  | _, _ => False
theorem sliceBound_run {v : V} {c : Value} {d n y : Nat} (h : bound? (some v) d = some n) (hx : VR β I v c) (hy : n ≤ y) (code : BoundsCode) (w : World) : (Instr.sliceBound c y code).run P w = .ok n w := by
  unfold bound? at h
  split at h
  · simp at *
  · rename_i k m heq
    simp at heq
    subst heq
    split at h
    · rename_i h0
      simp at h
      subst h
      simp only [VR] at hx
      obtain ⟨rfl, _⟩ := hx
      have : m ≤ (y : Int) := by omega
      simp [Instr.sliceBound, asIntOf, h0, this]
    · simp at h
  · simp at h
theorem bounds_run {lo hi : Option V} {lc hc : Option Value} {l h len cap : Nat} (b : Bool) (h1 : bound? hi len = some h) (h2 : bound? lo 0 = some l) (hh : OptR β I hi hc) (hl : OptR β I lo lc) (hle : l ≤ h) (hcap : h ≤ cap) (w : World) :
    (Instr.sliceBounds b len cap lc hc none).run P w = .ok (l, h, cap) w := by
  unfold Instr.sliceBounds
  cases hi with
  | none =>
    cases hc with
    | some _ => exact hh.elim
    | none =>
      simp [bound?] at h1
      subst h1
      cases lo with
      | none =>
        cases lc with
        | none => simp [bound?] at h2; subst h2; rfl
        | some _ => exact hl.elim
      | some v =>
        cases lc with
        | none => exact hl.elim
        | some c => simp [sliceBound_run (P := P) h2 hl hle _ w]
  | some v =>
    cases hc with
    | none => exact hh.elim
    | some c =>
      cases lo with
      | none =>
        cases lc with
        | none => simp [bound?] at h2; subst h2; simp [sliceBound_run (P := P) h1 hh hcap _ w]
        | some _ => exact hl.elim
      | some v =>
        cases lc with
        | none => exact hl.elim
        | some c => simp [sliceBound_run (P := P) h1 hh hcap _ w, sliceBound_run (P := P) h2 hl hle _ w]
theorem bounds_run3 {lo hi : Option V} {m : V} {lc hc : Option Value} {mc : Value} {l h len cap k : Nat} (b : Bool) (h1 : bound? hi len = some h) (h2 : bound? lo 0 = some l) (h3 : bound? (some m) 0 = some k) (hs : hi.isSome = true)
    (hh : OptR β I hi hc) (hl : OptR β I lo lc) (hm : VR β I m mc) (hle : l ≤ h) (hk : h ≤ k) (hcap : k ≤ cap) (w : World) :
    (Instr.sliceBounds b len cap lc hc (some mc)).run P w = .ok (l, h, k) w := by
  unfold Instr.sliceBounds
  have e3 := fun code => sliceBound_run (P := P) h3 hm hcap code w
  cases hi with
  | none => simp at hs
  | some v =>
    cases hc with
    | none => exact hh.elim
    | some c =>
      have e1 := fun code => sliceBound_run (P := P) h1 hh hk code w
      cases lo with
      | none =>
        cases lc with
        | none => simp [bound?] at h2; subst h2; simp [e3, e1]
        | some _ => exact hl.elim
      | some v =>
        cases lc with
        | none => exact hl.elim
        | some c => simp [e3, e1, sliceBound_run (P := P) h2 hl hle _ w]
theorem sliceAt_slice {t e : TypeId} (hu : P.underlying t = some (.slice e)) (x : Value) (lo hi mx : Option Value) (w : World) : (Instr.sliceAt t x lo hi mx).run P w = (Instr.slice t x lo hi mx).run P w := by
  simp [Instr.sliceAt, run_und hu]
theorem aslice_sound (hi : Inv β I σ w) {t : TypeId} {x v : V} {lo hg mx : Option V} {c : Value} {lc hc mc : Option Value} (h : aslice P σ t x lo hg mx = some v) (hx : VR β I x c) (hl : OptR β I lo lc) (hh : OptR β I hg hc) (hm : OptR β I mx mc) :
    ∃ r, (Instr.sliceAt t c lc hc mc).run P w = .ok r w ∧ VR β I v r := by
  unfold aslice at h
  split at h
  · -- a string
    rename_i s hu
    split at h
    · rename_i hv lv h1 h2
      split at h
      · rename_i hle
        simp at h
        subst h
        simp only [VR] at hx
        obtain ⟨rfl, _⟩ := hx
        cases mc with
        | some _ => exact hm.elim
        | none =>
          refine ⟨_, ?_, by simp only [VR]; exact ⟨rfl, rfl⟩⟩
          simp [Instr.sliceAt, run_und hu, Instr.slice, bounds_run (P := P) false h1 h2 hh hl hle.1 hle.2]
      · simp at h
    · simp at h
  · -- data
    rename_i e z rows hu
    split at h
    · rename_i hv lv h1 h2
      split at h
      · rename_i hle
        obtain ⟨hk, rfl, hle, hle2⟩ := hle
        simp at h
        subst h
        simp only [VR, TR] at hx
        obtain ⟨a, cap, rfl, hcap, ha⟩ := hx
        cases mc with
        | some _ => exact hm.elim
        | none =>
          refine ⟨_, by rw [sliceAt_slice hu]; simp [run_und hu, Instr.slice, bounds_run (P := P) true h1 h2 hh hl hle (by omega : hv ≤ cap), known_siz hk]; rfl, ?_⟩
          simp only [VR, TR]
          have hlen : ((rows.drop lv).take (hv - lv)).length = hv - lv := by simp; omega
          refine ⟨_, _, by rw [hlen], by rw [hlen]; omega, ?_⟩
          rcases Nat.eq_zero_or_pos (hv - lv) with h0 | h0
          · left; rw [h0]; simp
          · right
            rcases ha with rfl | ⟨b, off, rfl, hr⟩
            · simp at hle2; omega
            · rw [if_neg (by omega)]
              exact ⟨b, _, by simp [addr_add], (hr.drop lv).take _⟩
      · simp at h
    · rename_i hv lv m h1 h2
      split at h
      · rename_i k h3
        split at h
        · rename_i hle
          obtain ⟨hk, rfl, rfl, hle, hs⟩ := hle
          simp at h
          subst h
          simp only [VR, TR] at hx
          obtain ⟨a, cap, rfl, hcap, ha⟩ := hx
          cases mc with
          | none => exact hm.elim
          | some mc =>
            refine ⟨_, by rw [sliceAt_slice hu]; simp [run_und hu, Instr.slice, bounds_run3 (P := P) true h1 h2 h3 hs hh hl hm (Nat.le_refl _) (Nat.le_refl _) (by omega : lv ≤ cap), known_siz hk]; rfl, by simp only [VR]; exact ⟨_, rfl⟩⟩
        · simp at h
      · simp at h
    · simp at h
  · -- a row of one's own
    rename_i e tag off len hu
    split at h
    · rename_i hv lv z xs ro h1 h2 hk
      have hb := hi.blk tag _ hk
      simp only [BlkR] at hb
      split at h
      · split at h
        · rename_i hle
          obtain ⟨hkn, rfl, hle, hle2⟩ := hle
          simp at h
          subst h
          simp only [VR] at hx
          cases mc with
          | some _ => exact hm.elim
          | none =>
            rcases hx with ⟨y, hy, ⟨hcap, rfl⟩ | ⟨rfl, hcap, a, rfl⟩⟩ | ⟨hy, rfl, rfl, a, rfl⟩
            · rcases hb with ⟨h3, rfl⟩ | ⟨b, cap, cs, e', h3, h4, h5, h6, h7, h8, h9⟩
              · rw [hy] at h3; simp at h3
              · rw [hy] at h3
                simp at h3
                subst h3
                refine ⟨_, by rw [sliceAt_slice hu]; simp [run_und hu, Instr.slice, bounds_run (P := P) true h1 h2 hh hl hle (by simp at *; omega : hv ≤ cap - off), known_siz hkn]; rfl, ?_⟩
                simp only [VR]
                refine .inl ⟨_, hy, ?_⟩
                simp only at hcap ⊢
                by_cases hq : cap - off = lv
                · rw [if_pos hq]
                  exact .inr ⟨by omega, by omega, _, by rw [show hv - lv = 0 by omega, show cap - off - lv = 0 by omega]⟩
                · rw [if_neg hq]
                  exact .inl ⟨by omega, by rw [addr_add, ← Nat.add_mul, Nat.sub_sub]⟩
            · rcases hb with ⟨h3, rfl⟩ | ⟨b, cap, cs, e', h3, h4, h5, h6, h7, h8, h9⟩
              · rw [hy] at h3; simp at h3
              · rw [hy] at h3
                simp at h3
                subst h3
                simp only at hcap
                obtain rfl : hv = 0 := by omega
                obtain rfl : lv = 0 := by omega
                refine ⟨_, by rw [sliceAt_slice hu]; simp [run_und hu, Instr.slice, bounds_run (P := P) true h1 h2 hh hl hle (by omega : 0 ≤ 0), known_siz hkn]; rfl, ?_⟩
                simp only [VR]
                exact .inl ⟨_, hy, .inr ⟨by simp, by simpa using hcap, _, rfl⟩⟩
            · rcases hb with ⟨h3, rfl⟩ | ⟨b, cap, cs, e', h3, h4, h5, h6, h7, h8, h9⟩
              · simp at hle2
                subst hle2
                obtain rfl : lv = 0 := by omega
                refine ⟨_, by rw [sliceAt_slice hu]; simp [run_und hu, Instr.slice, bounds_run (P := P) true h1 h2 hh hl hle (by omega : 0 ≤ 0), known_siz hkn]; rfl, ?_⟩
                simp only [VR]
                exact .inr ⟨hy, by simp, by simp, _, rfl⟩
              · rw [hy] at h3; simp at h3
        · simp at h
      · rename_i m
        split at h
        · rename_i k h3
          split at h
          · rename_i hle
            obtain ⟨hkn, rfl, rfl, hle, hs⟩ := hle
            simp at h
            subst h
            simp only [VR] at hx
            cases mc with
            | none => exact hm.elim
            | some mc =>
              rcases hx with ⟨y, hy, ⟨hcap, rfl⟩ | ⟨rfl, hcap, a, rfl⟩⟩ | ⟨hy, rfl, rfl, a, rfl⟩
              · rcases hb with ⟨h3', rfl⟩ | ⟨b, cap, cs, e', h3', h4, h5, h6, h7, h8, h9⟩
                · rw [hy] at h3'; simp at h3'
                · rw [hy] at h3'
                  simp at h3'
                  subst h3'
                  refine ⟨_, by rw [sliceAt_slice hu]; simp [run_und hu, Instr.slice, bounds_run3 (P := P) true h1 h2 h3 hs hh hl hm (Nat.le_refl _) (Nat.le_refl _) (by simp at *; omega : lv ≤ cap - off), known_siz hkn]; rfl, by simp only [VR]; exact ⟨_, rfl⟩⟩
              · rcases hb with ⟨h3', rfl⟩ | ⟨b, cap, cs, e', h3', h4, h5, h6, h7, h8, h9⟩
                · rw [hy] at h3'; simp at h3'
                · rw [hy] at h3'
                  simp at h3'
                  subst h3'
                  simp only at hcap
                  obtain rfl : lv = 0 := by omega
                  refine ⟨_, by rw [sliceAt_slice hu]; simp [run_und hu, Instr.slice, bounds_run3 (P := P) true h1 h2 h3 hs hh hl hm (Nat.le_refl _) (Nat.le_refl _) (by omega : 0 ≤ 0), known_siz hkn]; rfl, by simp only [VR]; exact ⟨_, rfl⟩⟩
              · rcases hb with ⟨h3', rfl⟩ | ⟨b, cap, cs, e', h3', h4, h5, h6, h7, h8, h9⟩
                · simp at hle
                  subst hle
                  refine ⟨_, by rw [sliceAt_slice hu]; simp [run_und hu, Instr.slice, bounds_run3 (P := P) true h1 h2 h3 hs hh hl hm (Nat.le_refl _) (Nat.le_refl _) (by omega : 0 ≤ 0), known_siz hkn]; rfl, by simp only [VR]; exact ⟨_, rfl⟩⟩
                · rw [hy] at h3'; simp at h3'
          · simp at h
        · simp at h
    · simp at h
  · -- an empty slice
    rename_i e hu
    split at h
    · rename_i h1 h2 h3
      split at h
      · rename_i hc'
        simp at h
        subst h
        simp only [VR] at hx
        obtain ⟨a, rfl⟩ := hx
        cases mx with
        | none =>
          cases mc with
          | some _ => exact hm.elim
          | none => exact ⟨_, by rw [sliceAt_slice hu]; simp [run_und hu, Instr.slice, bounds_run (P := P) true h1 h2 hh hl (Nat.le_refl _) (Nat.le_refl _), known_siz hc'.1]; rfl, by simp only [VR]; exact ⟨_, rfl⟩⟩
        | some m =>
          cases mc with
          | none => exact hm.elim
          | some mc => exact ⟨_, by rw [sliceAt_slice hu]; simp [run_und hu, Instr.slice, bounds_run3 (P := P) true h1 h2 h3 (hc'.2 rfl) hh hl hm (Nat.le_refl _) (Nat.le_refl _) (Nat.le_refl _), known_siz hc'.1]; rfl, by simp only [VR]; exact ⟨_, rfl⟩⟩
      · simp at h
    · simp at h
  · -- nil
    rename_i e hu
    split at h
    · rename_i h1 h2 h3
      split at h
      · rename_i hc'
        simp at h
        subst h
        simp only [VR] at hx
        obtain ⟨rfl, _⟩ := hx
        cases mx with
        | none =>
          cases mc with
          | some _ => exact hm.elim
          | none => exact ⟨_, by rw [sliceAt_slice hu]; simp [run_und hu, Instr.slice, bounds_run (P := P) true h1 h2 hh hl (Nat.le_refl _) (Nat.le_refl _), known_siz hc'.1]; rfl, by simp only [VR]; exact ⟨_, rfl⟩⟩
        | some m =>
          cases mc with
          | none => exact hm.elim
          | some mc => exact ⟨_, by rw [sliceAt_slice hu]; simp [run_und hu, Instr.slice, bounds_run3 (P := P) true h1 h2 h3 (hc'.2 rfl) hh hl hm (Nat.le_refl _) (Nat.le_refl _) (Nat.le_refl _), known_siz hc'.1]; rfl, by simp only [VR]; exact ⟨_, rfl⟩⟩
      · simp at h
    · simp at h
  · -- a window
    rename_i e tag off len z hu
    split at h
    · rename_i hv lv h1 h2
      split at h
      · rename_i hle
        obtain ⟨hk, hle, hle2, rfl⟩ := hle
        simp at h
        subst h
        simp only [VR] at hx
        obtain ⟨y, a, cap, hy, hcap, rfl, ha⟩ := hx
        cases mc with
        | some _ => exact hm.elim
        | none =>
          refine ⟨_, by rw [sliceAt_slice hu]; simp [run_und hu, Instr.slice, bounds_run (P := P) true h1 h2 hh hl hle (by omega : hv ≤ cap), known_siz hk]; rfl, ?_⟩
          simp only [VR]
          refine ⟨y, _, _, hy, ?_, rfl, ?_⟩
          · omega
          · rcases Nat.eq_zero_or_pos (hv - lv) with h0 | h0
            · exact .inl h0
            · right
              rcases ha with rfl | rfl
              · omega
              · rw [if_neg (by omega)]; simp [addr_add]
      · simp at h
    · simp at h
  · -- an array's address
    rename_i n e tag o hu
    split at h
    · rename_i hv lv h1 h2
      split at h
      · rename_i hle
        obtain ⟨hk, hle, hle2⟩ := hle
        simp at h
        subst h
        simp only [VR] at hx
        obtain ⟨y, hy, rfl⟩ := hx
        cases mc with
        | some _ => exact hm.elim
        | none =>
          refine ⟨_, by simp [Instr.sliceAt, Instr.sureAddr, run_und hu, bounds_run (P := P) false h1 h2 hh hl hle (by omega : hv ≤ n), known_siz hk]; rfl, ?_⟩
          simp only [VR]
          refine ⟨y, _, _, hy, ?_, rfl, ?_⟩
          · omega
          · rcases Nat.eq_zero_or_pos (hv - lv) with h0 | h0
            · exact .inl h0
            · right
              rw [if_neg (by omega)]; simp [addr_add]
      · simp at h
    · simp at h
  · -- the address of an array that nobody changes
    rename_i n e cs hu
    split at h
    · rename_i hv lv h1 h2
      split at h
      · rename_i hle
        obtain ⟨hk, hle, hle2, hle3⟩ := hle
        simp at h
        subst h
        simp only [VR] at hx
        obtain ⟨b, o, rfl, hcs⟩ := hx
        cases mc with
        | some _ => exact hm.elim
        | none =>
          refine ⟨_, by simp [Instr.sliceAt, Instr.sureAddr, run_und hu, bounds_run (P := P) false h1 h2 hh hl hle (by omega : hv ≤ n), known_siz hk]; rfl, ?_⟩
          simp only [VR, TR]
          have hcl : ((cs.drop (lv * P.cellsOf e)).take ((hv - lv) * P.cellsOf e)).length = (hv - lv) * P.cellsOf e := by
            have : hv * P.cellsOf e ≤ n * P.cellsOf e := Nat.mul_le_mul_right _ hle2
            have h3 : hv * P.cellsOf e = lv * P.cellsOf e + (hv - lv) * P.cellsOf e := by rw [← Nat.add_mul]; congr 1; omega
            simp
            omega
          have ct : ∀ (k : Nat) (l : List T), chunkT (P.cellsOf e) k l = chunkT (P.cellsOf e) k (l.take (k * P.cellsOf e)) := by
            intro k
            induction k with
            | zero => intro l; simp [chunkT]
            | succ k ih =>
              intro l
              simp only [chunkT]
              congr 1
              · rw [List.take_take]; congr 1; rw [Nat.add_mul]; omega
              · rw [ih (l.drop _), ih ((l.take _).drop _)]
                congr 1
                rw [List.drop_take, List.take_take]
                congr 1
                rw [Nat.add_mul]
                omega
          rw [ct]
          obtain ⟨c1, c2, c3⟩ := chunkT_flat (hv - lv) _ hcl
          rw [c2]
          refine ⟨_, _, rfl, by omega, ?_⟩
          rcases Nat.eq_zero_or_pos (hv - lv) with h0 | h0
          · left; rw [h0]; simp [chunkT]
          · right
            rw [if_neg (by omega)]
            refine ⟨b, _, by rw [addr_add], TRrows.of_cells c3 ?_⟩
            rw [c1]
            exact (hcs.drop _).take _
      · simp at h
    · simp at h
  · simp at h
theorem aarr_sound {arr : TypeId} {x v : V} {c : Value} (h : aarr P arr x = some v) (hx : VR β I x c) (w : World) : ∃ r, (Instr.arrayAt arr c).run P w = .ok r w ∧ VR β I v r := by
  unfold aarr at h
  split at h
  · rename_i n e tag off len z hu
    split at h
    · rename_i hc
      simp at h
      subst h
      simp only [VR] at hx
      obtain ⟨y, a, cap, hy, hcap, rfl, ha⟩ := hx
      rcases ha with rfl | rfl
      · omega
      · exact ⟨_, by simp [Instr.arrayAt, run_und hu, show ¬ len < n by omega]; rfl, by simp only [VR]; exact ⟨y, hy, by simp⟩⟩
    · simp at h
  · rename_i n e z rows hu
    split at h
    · rename_i hc
      simp at h
      subst h
      simp only [VR, TR] at hx
      obtain ⟨a, cap, rfl, hcap, ha⟩ := hx
      rcases ha with rfl | ⟨b, off, rfl, hr⟩
      · simp at hc; omega
      · exact ⟨_, by simp [Instr.arrayAt, run_und hu, show ¬ rows.length < n by omega]; rfl, by simp only [VR]; exact ⟨b, off, rfl, hr.flat⟩⟩
    · simp at h
  · simp at h
end
end Go.Ai

set_option linter.unusedVariables false
set_option linter.unusedSimpArgs false
namespace Go.Ai
section
variable {P : Program} {β : Nat → Option BV} {I : Imm} {w : World} {σ : List Blk}
/-! ### Structs and arrays built -/
theorem setFold : ∀ (vs : List Value) (k off : Nat) (cells : Array Value), off + k + vs.length ≤ cells.size →
    ((vs.zipIdx k).foldl (fun cs (x : Value × Nat) => cs.setIfInBounds (off + x.2) x.1) cells).toList = setL cells.toList (off + k) vs
  | [], k, off, cells, h => by simp [setL]
  | v :: vs, k, off, cells, h => by
    simp only [List.zipIdx_cons, List.foldl_cons]
    have ih := setFold vs (k + 1) off (cells.setIfInBounds (off + k) v) (by simp at h ⊢; omega)
    rw [ih]
    simp only [Array.toList_setIfInBounds, setL]
    have hlt : off + k < cells.toList.length := by simp at h ⊢; omega
    rw [show off + (k + 1) = off + k + 1 by omega]
    rw [List.take_succ_eq_append_getElem (by simpa using hlt)]
    simp only [List.getElem_set_self]
    rw [List.take_set_of_le (Nat.le_refl _), List.drop_set_of_lt (by omega)]
    simp only [List.length_cons, List.append_assoc, List.cons_append, List.nil_append]
    congr 3
    congr 1
    omega
theorem fill_sound {pl : Nat → Option (Nat × Nat)} {pl' : Nat → Option (Nat × Nat)} (hpl : ∀ i o s, pl i = some (o, s) → pl' i = some (o, s)) : ∀ {parts : List (Nat × V)} {cparts : List (Nat × Value)} {cells out : List V} {cs : Array Value},
    afill pl cells parts = some out → parts.map (·.1) = cparts.map (·.1) → VRs β I (parts.map (·.2)) (cparts.map (·.2)) → VRs β I cells cs.toList →
    ∃ r, Instr.fill pl' cs cparts = some r ∧ VRs β I out r.toList
  | [], [], cells, out, cs, h, _, _, hc => by
    simp [afill] at h
    subst h
    exact ⟨cs, rfl, hc⟩
  | (i, v) :: parts, (j, c) :: cparts, cells, out, cs, h, hi, hv, hc => by
    simp only [List.map_cons, List.cons.injEq] at hi
    simp only [List.map_cons, VRs] at hv
    obtain ⟨rfl, hi⟩ := hi
    simp only [afill] at h
    split at h
    · rename_i off size vs h1 h2
      split at h
      · rename_i hle
        have hvc := hv.1.cells h2
        have hl := hvc.length
        have hcl := hc.length
        have hcs : c.cells.size = size := by rw [← Array.length_toList, ← hl]; exact hle.1
        have hfold : ((c.cells.zipIdx).foldl (fun cs (x : Value × Nat) => cs.setIfInBounds (off + x.2) x.1) cs).toList = setL cs.toList off c.cells.toList := by
          have h0 := setFold c.cells.toList 0 off cs (by simp at hcl ⊢; omega)
          rw [Nat.add_zero] at h0
          rw [← h0, ← Array.foldl_toList]
          simp
        have hnew : VRs β I (setL cells off vs) ((c.cells.zipIdx).foldl (fun cs (x : Value × Nat) => cs.setIfInBounds (off + x.2) x.1) cs).toList := by
          rw [hfold]; exact hc.setL hvc off
        obtain ⟨r, h3, h4⟩ := fill_sound hpl h hi hv.2 hnew
        refine ⟨r, ?_, h4⟩
        simp only [Instr.fill, hpl _ _ _ h1]
        rw [if_neg]
        · exact h3
        · simp [hcs]
          simp at hcl
          omega
      · simp at h
    · simp at h
  | [], _ :: _, _, _, _, _, hi, _, _ => by simp at hi
  | _ :: _, [], _, _, _, _, hi, _, _ => by simp at hi
theorem run_places' (w : World) : ∀ (fs : List Field), (∀ f ∈ fs, known P f.type = true) → (fs.mapM fun f => Prod.mk f.offset <$> sizeOf f.type).run P w = .ok (fs.map fun f => (f.offset, P.cellsOf f.type)) w
  | [], _ => by simp
  | f :: fs, h => by
    have hs := known_siz (h f (by simp)) w
    simp [List.mapM_cons, hs, run_places' w fs fun g hg => h g (by simp [hg])]
theorem zeroV_run {t : TypeId} {v : V} (h : zeroV P t = some v) (w : World) : ∃ c, (zeroValue t).run P w = .ok c w ∧ VR β I v c ∧ (P.info? t).bind (·.zero) = some c := by
  unfold zeroV at h
  rw [Option.bind_eq_some_iff] at h
  obtain ⟨c, h1, h2⟩ := h
  refine ⟨c, ?_, ofVal_sound c h2, h1⟩
  cases hi : P.info? t with
  | none => simp [hi] at h1
  | some i =>
    simp [hi] at h1
    simp [zeroValue, typeInfo, hi, h1]
theorem abuild_sound {t : TypeId} {parts : List (Nat × V)} {cparts : Array (Nat × Value)} {v : V} (h : abuild P t parts = some v) (hi : parts.map (·.1) = cparts.toList.map (·.1)) (hv : VRs β I (parts.map (·.2)) (cparts.toList.map (·.2))) (w : World) :
    ∃ r, (Instr.build t cparts).run P w = .ok r w ∧ VR β I v r := by
  unfold abuild at h
  split at h
  · rename_i zero fs hz hu
    split at h
    · rename_i hk
      simp only [Option.map_eq_some_iff] at h
      obtain ⟨out, h1, rfl⟩ := h
      obtain ⟨c, h2, h3, _⟩ := zeroV_run (β := β) (I := I) hz w
      simp only [VR] at h3
      obtain ⟨vs, rfl, h3⟩ := h3
      obtain ⟨r, h4, h5⟩ := fill_sound (pl' := fun x => (fs.map fun f => (f.offset, P.cellsOf f.type))[x]?) (fun i o s hp => by
        simp only [fieldOf, hu] at hp
        simp only [Option.map_map, Option.map_eq_some_iff] at hp
        obtain ⟨f, hf, he⟩ := hp
        simp at he
        simp [hf, he]) h1 hi hv h3
      refine ⟨.agg r, ?_, by simp only [VR]; exact ⟨r, rfl, h5⟩⟩
      have hpl := run_places' (P := P) w fs.toList (fun f hf => by
        rw [Array.all_eq_true_iff_forall_mem] at hk
        exact hk f (by simpa using hf))
      have h4' : Instr.fill (fun x => Option.map (fun f => (f.offset, P.cellsOf f.type)) fs[x]?) vs cparts.toList = some r := by
        rw [← h4]
        congr 1
        funext x
        simp
      simp only [Instr.build, Sem.run_bind, h2, Result.andThen_ok, run_und hu, Value.cells, Array.mapM_eq_mapM_toList, Sem.run_map, bind_pure_comp, hpl]
      simp [h4']
    · simp at h
  · rename_i zero n e hz hu
    split at h
    · rename_i hk
      simp only [Option.map_eq_some_iff] at h
      obtain ⟨out, h1, rfl⟩ := h
      obtain ⟨c, h2, h3, _⟩ := zeroV_run (β := β) (I := I) hz w
      simp only [VR] at h3
      obtain ⟨vs, rfl, h3⟩ := h3
      obtain ⟨r, h4, h5⟩ := fill_sound (pl' := fun i => some (i * P.cellsOf e, P.cellsOf e)) (fun i o s hp => hp) h1 hi hv h3
      refine ⟨.agg r, ?_, by simp only [VR]; exact ⟨r, rfl, h5⟩⟩
      simp [Instr.build, h2, run_und hu, Value.cells, known_siz hk, h4]
    · simp at h
  · simp at h
/-! ### len, min, max -/
theorem alen_sound {t : TypeId} {x : V} {c : Value} {n : Int} {ts : Array TypeId} {ty : TypeId} (ht : ts[0]? = some t) (h : alen P σ t x = some n) (hx : VR β I x c) (w : World) :
    (Builtin.len_ ts ty #[c]).run P w = .ok (.int .i64 n) w := by
  unfold alen at h
  split at h
  · rename_i s hu; simp at h; subst h; simp only [VR] at hx; obtain ⟨rfl, _⟩ := hx
    simp [Builtin.len_, ht, run_und hu, goInt]
  · rename_i k e hu; simp at h; subst h
    simp [Builtin.len_, ht, run_und hu, goInt]
  · rename_i a hu
    split at h
    · rename_i n' e' hu2
      simp at h
      subst h
      simp [Builtin.len_, ht, run_und hu, run_und hu2, goInt]
    · simp at h
  · rename_i e z rows hu; simp at h; subst h; simp only [VR, TR] at hx; obtain ⟨a, cap, rfl, _⟩ := hx
    simp [Builtin.len_, ht, run_und hu, goInt]
  · rename_i e hu; simp at h; subst h; simp only [VR] at hx; obtain ⟨a, rfl⟩ := hx
    simp [Builtin.len_, ht, run_und hu, goInt]
  · rename_i e hu; simp at h; subst h; simp only [VR] at hx; obtain ⟨rfl, _⟩ := hx
    simp [Builtin.len_, ht, run_und hu, goInt]
  · rename_i e tag off len hu; simp at h; subst h; simp only [VR] at hx
    rcases hx with ⟨y, hy, ⟨_, rfl⟩ | ⟨rfl, _, a, rfl⟩⟩ | ⟨_, _, rfl, a, rfl⟩ <;> simp [Builtin.len_, ht, run_und hu, goInt]
  · rename_i e tag off len z hu; simp at h; subst h; simp only [VR] at hx; obtain ⟨y, a, cap, _, _, rfl, _⟩ := hx
    simp [Builtin.len_, ht, run_und hu, goInt]
  · simp at h
theorem minmax_sound {f : Int → Int → Int} {g : Value → Value → Sem Value} (hg : ∀ k k' a b (w : World), (g (.int k a) (.int k' b)).run P w = .ok (.int k (f a b)) w) :
    ∀ (l : List V) {cs : List Value} {v : V} {x : V} {c : Value}, minmax f (x :: l) = some v → VR β I x c → VRs β I l cs → ∃ r, (cs.foldlM g c).run P w = .ok r w ∧ VR β I v r
  | [], cs, v, x, c, h, hx, hl => by
    cases cs with
    | cons => simp [VRs] at hl
    | nil =>
      cases x <;> try (simp [minmax] at h; done)
      rename_i u
      cases u <;> simp [minmax] at h
      subst h
      exact ⟨c, by simp, hx⟩
  | y :: l, cs, v, x, c, h, hx, hl => by
    cases cs with
    | nil => simp [VRs] at hl
    | cons d cs =>
      simp only [VRs] at hl
      unfold minmax at h
      split at h
      · simp_all
      · rename_i k a k' b rest heq
        simp only [List.cons.injEq] at heq
        obtain ⟨rfl, rfl, rfl⟩ := heq
        split at h
        · rename_i hk
          simp only [VR] at hx
          obtain ⟨rfl, _⟩ := hx
          have hd := hl.1
          simp only [VR] at hd
          obtain ⟨rfl, _⟩ := hd
          simp only [List.foldlM_cons, Sem.run_bind, hg, Result.andThen_ok]
          exact minmax_sound hg _ h (by simp [VR, scalar]) hl.2
        · simp at h
      · simp at h
end
end Go.Ai
