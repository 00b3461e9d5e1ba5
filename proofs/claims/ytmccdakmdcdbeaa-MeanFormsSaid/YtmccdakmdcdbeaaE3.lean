/-
  E3: comps.Reaches; what its bits say.
-/
import Derived.Test.YtmccdakmdcdbeaaE2
set_option linter.unusedSimpArgs false
set_option linter.unusedVariables false
namespace Go.Proofs.Ytmccdakmdcdbeaa
open Go.RowKit

def reachB (K : Nat) (es : List Edg) (a b : Nat) : Bool := (warR K (edgeR es es.length) K a).testBit b

set_option maxRecDepth 100000 in
set_option maxHeartbeats 2000000 in
theorem reaches_any {w : World} {K : Nat} {es : List Edg} {A : Option Addr} {c : Nat} (hK : K ≤ 64) (hE : EdgesIn K es) (hC : edgRd.C w A es) (hl : es.length ≤ 9223372036854775807) {a b : Nat} (ha : a < K) (hb : b < K) :
    Calls Try.prog 48 #[.int .i64 K, .slice A es.length c, .int .i64 a, .int .i64 b] w fun e w' => e = .returned (.bool (reachB K es a b)) ∧ Below w.heap.size w w' := by
  have CM := Lib.hid (cmay_any (c := c) hK hE hC hl)
  have d1 : decide ((a : Int) < 0) = false := by simp
  have d2 : decide ((K : Int) ≤ a) = false := by simp; omega
  have d3 : decide ((b : Int) < 0) = false := by simp
  have d4 : decide ((K : Int) ≤ b) = false := by simp; omega
  go_enter Try.func48, Try.ntmps48
  go_wp2_with (first | (go_at_call 61; refine CM.out.mono ?_; rintro e w1 ⟨rfl, hb1⟩; have HB1 := Lib.hid hb1; have CR := Lib.hid (reach_any (c := c) hK hE (hC.mono hb1) hl); clear hb1) | (go_at_call 62; refine CR.out.mono ?_; rintro e w2 ⟨rfl, hh, hlt, hb2⟩; have x0 := (blk_cell hh a).trans (rowsArr_at _ ha); have HB2 := Lib.hid hb2; have HL := Lib.hid (hlt a ha); clear hb2 hh hlt; obtain ⟨v, hv⟩ : ∃ v, v = warR K (edgeR es es.length) K a := ⟨_, rfl⟩; rw [← hv] at x0 HL; have HV := Lib.hid hv; clear hv))
  go_ret
  refine ⟨ret_bool ?_, below_then HB1.out HB2.out⟩
  rw [bit_test HL.out, HV.out]
  rfl
end Go.Proofs.Ytmccdakmdcdbeaa
