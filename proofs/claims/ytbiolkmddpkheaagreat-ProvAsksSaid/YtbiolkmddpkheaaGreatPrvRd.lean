/- Contracts of functions of the loaded program: called with data in the ranges that each names, it returns this value and writes to no old memory. -/
import Derived.Test.YtbiolkmddpkheaaGreatRows
import Derived.Test.YtbiolkmddpkheaaGreatAiG
import Derived.Test.YtbiolkmddpkheaaGreatPrvF
import Derived.Test.YtbiolkmddpkheaaGreatPrvB
set_option linter.unusedVariables false
set_option maxRecDepth 100000
namespace Go.Proofs.YtbiolkmddpkheaaGreat
open Go.ChangeShapes Go.WideShapes Go.ChangeAt Go.RowKit Go.Ai
theorem own : ownKnob Tryz.prog.godebug = none := by kernel_rfl
theorem laidOut : laidOutB Tryz.prog = true := by kernel_rfl
theorem rdMac (W : World) : Rd Tryz.prog W 23 fun ts => ∃ m : Mc, isB m.a ∧ ts = [.s (.int .u8 m.a), .s (.int .u8 m.b), .s (.int .u8 m.c), .s (.int .u8 m.d), .s (.int .u8 m.e), .s (.int .u8 m.f)] :=
  Rd.mono (rd_array (n := 6) (e := 5) Tryz.underlying23 (by kernel_rfl) (rd_int Tryz.underlying5 (by kernel_rfl))) fun ts ⟨rows, e, hn, hr⟩ => by
    subst e
    match rows, hn, hr with
    | [a, b, c, d, e, f], _, hr =>
      obtain ⟨a, rfl, ha⟩ := hr a (by simp)
      obtain ⟨b, rfl, hb⟩ := hr b (by simp)
      obtain ⟨c, rfl, hc⟩ := hr c (by simp)
      obtain ⟨d, rfl, hd⟩ := hr d (by simp)
      obtain ⟨e, rfl, he⟩ := hr e (by simp)
      obtain ⟨f, rfl, hf⟩ := hr f (by simp)
      exact ⟨⟨a, b, c, d, e, f⟩, bounds_u8 ha, rfl⟩
theorem rows_of {α : Type} (f : α → List T) : ∀ {rows : List (List T)}, (∀ r ∈ rows, ∃ x : α, r = f x) → ∃ l : List α, rows = l.map f
  | [], _ => ⟨[], rfl⟩
  | r :: rows, h => by
    obtain ⟨x, rfl⟩ := h r (by simp)
    obtain ⟨l, rfl⟩ := rows_of f (rows := rows) (fun r hr => h r (by simp [hr]))
    exact ⟨x :: l, rfl⟩
theorem rdSl {W : World} {α : Type} {t e z : Nat} {f : α → List T} (ht : Tryz.prog.underlying t = some (.slice e)) (hc : Tryz.prog.cellsOf t = 1) (hz : Tryz.prog.cellsOf e = z) (hz0 : 0 < z) (he : Rd Tryz.prog W e fun ts => ∃ x : α, ts = f x) :
    Rd Tryz.prog W t fun ts => ∃ l : List α, ts = [.sl z (l.map f)] :=
  Rd.mono (rd_slice ht hc (by rw [hz]; exact hz0) he) fun ts ⟨rows, e1, _, hr⟩ => by
    obtain ⟨l, rfl⟩ := rows_of f (rows := rows) (fun r hr' => (hr r hr').2)
    exact ⟨l, by rw [e1, hz]⟩
theorem rdIn (W : World) : Rd Tryz.prog W 3 fun ts => ∃ n : Int, ts = inT n := Rd.mono (rd_int Tryz.underlying3 (by kernel_rfl)) fun ts ⟨n, e, _⟩ => ⟨n, e⟩
theorem rdKi (W : World) : Rd Tryz.prog W 59 fun ts => ∃ n : Int, ts = inT n := Rd.mono (rd_int Tryz.underlying59 (by kernel_rfl)) fun ts ⟨n, e, _⟩ => ⟨n, e⟩
theorem rdIs (W : World) : Rd Tryz.prog W 35 fun ts => ∃ l : List Int, ts = [.sl 1 (l.map inT)] := rdSl Tryz.underlying35 (by kernel_rfl) (by kernel_rfl) (by decide) (rdIn W)
theorem rdKs (W : World) : Rd Tryz.prog W 24 fun ts => ∃ l : List Int, ts = [.sl 1 (l.map inT)] := rdSl Tryz.underlying24 (by kernel_rfl) (by kernel_rfl) (by decide) (rdKi W)
theorem rdMp (W : World) : Rd Tryz.prog W 32 fun ts => ∃ x : Mp, ts = mpT x := by
  refine Rd.mono (rd_struct Tryz.underlying32 (by kernel_rfl) (gs := [_, _, _]) ⟨by kernel_rfl, rdIn W, by kernel_rfl, rdIn W, by kernel_rfl, rdIn W, trivial⟩) fun ts h => ?_
  obtain ⟨_, _, rfl, ⟨a, rfl⟩, _, _, rfl, ⟨b, rfl⟩, _, _, rfl, ⟨c, rfl⟩, rfl⟩ := h
  exact ⟨⟨a, b, c⟩, rfl⟩
theorem rdCr (W : World) : Rd Tryz.prog W 34 fun ts => ∃ x : Cr, ts = crT x := by
  refine Rd.mono (rd_struct Tryz.underlying34 (by kernel_rfl) (gs := [_, _]) ⟨by kernel_rfl, rdIn W, by kernel_rfl, rdIn W, trivial⟩) fun ts h => ?_
  obtain ⟨_, _, rfl, ⟨a, rfl⟩, _, _, rfl, ⟨b, rfl⟩, rfl⟩ := h
  exact ⟨⟨a, b⟩, rfl⟩
theorem rdMb (W : World) : Rd Tryz.prog W 37 fun ts => ∃ x : Mb, ts = mbT x := by
  refine Rd.mono (rd_struct Tryz.underlying37 (by kernel_rfl) (gs := [_, _]) ⟨by kernel_rfl, rdIn W, by kernel_rfl, rdIs W, trivial⟩) fun ts h => ?_
  obtain ⟨_, _, rfl, ⟨a, rfl⟩, _, _, rfl, ⟨b, rfl⟩, rfl⟩ := h
  exact ⟨⟨a, b⟩, rfl⟩
theorem rdMs (W : World) : Rd Tryz.prog W 25 fun ts => ∃ l : List Mp, ts = [.sl 3 (l.map mpT)] := rdSl Tryz.underlying25 (by kernel_rfl) (by kernel_rfl) (by decide) (rdMp W)
theorem rdCs (W : World) : Rd Tryz.prog W 26 fun ts => ∃ l : List Cr, ts = [.sl 2 (l.map crT)] := rdSl Tryz.underlying26 (by kernel_rfl) (by kernel_rfl) (by decide) (rdCr W)
theorem rdBs (W : World) : Rd Tryz.prog W 27 fun ts => ∃ l : List Mb, ts = [.sl 2 (l.map mbT)] := rdSl Tryz.underlying27 (by kernel_rfl) (by kernel_rfl) (by decide) (rdMb W)
theorem rdPv (W : World) : Rd Tryz.prog W 29 fun ts => ∃ p : Pv, isB p.own.a ∧ ts = [.s (.int .u8 p.own.a), .s (.int .u8 p.own.b), .s (.int .u8 p.own.c), .s (.int .u8 p.own.d), .s (.int .u8 p.own.e), .s (.int .u8 p.own.f), .sl 1 (p.ks.map inT), .sl 3 (p.ms.map mpT), .sl 2 (p.cs.map crT), .sl 2 (p.bs.map mbT)] := by
  refine Rd.mono (rd_struct Tryz.underlying29 (by kernel_rfl) (gs := [_, _, _, _, _]) ⟨by kernel_rfl, rdMac W, by kernel_rfl, rdKs W, by kernel_rfl, rdMs W, by kernel_rfl, rdCs W, by kernel_rfl, rdBs W, trivial⟩) fun ts h => ?_
  obtain ⟨_, _, rfl, ⟨m, hm, rfl⟩, _, _, rfl, ⟨a, rfl⟩, _, _, rfl, ⟨b, rfl⟩, _, _, rfl, ⟨c, rfl⟩, _, _, rfl, ⟨d, rfl⟩, rfl⟩ := h
  exact ⟨⟨m, a, b, c, d⟩, hm, rfl⟩
theorem got_pv {H : Type} {enc : TypeId × Value → H} {W : World} {r : Reach} {b0 : Nat} {v : Value} {d : DataW H} {ps : List MemPlace} (hval : Value.okWide Tryz.prog W r b0 29 v) (hd : DataW.Trod enc Tryz.prog W 0 (fun _ => true) true 29 v d ps) :
    ∃ x, VR noB (memI W) x v ∧ ∃ p : Pv, x = pvV p ∧ isB p.own.a := by
  obtain ⟨x, h1, ts, rfl, p, hp, rfl⟩ := got_agg (.inl ⟨_, Tryz.underlying29⟩) (rdPv W) hval hd
  exact ⟨_, h1, p, rfl, hp⟩
end Go.Proofs.YtbiolkmddpkheaaGreat
