/-
  E1: edges; comps.may.
-/
import Derived.Test.YtmccdakmdcdbeaaG1
set_option linter.unusedSimpArgs false
set_option linter.unusedVariables false
namespace Go.Proofs.Ytmccdakmdcdbeaa
open Go.RowKit

/-- An edge between names that are there. -/
structure Edg where
  fr : Nat
  to : Nat
  neg : Bool
def edgRd : Rd Edg := Rd.iso (Rd.pair Rd.int (Rd.pair Rd.int Rd.bool)) (fun x => ((x.fr : Int), (x.to : Int), x.neg))
theorem edgRd_open {w : World} {x : Edg} {cs : List Value} (h : edgRd.K w x cs) : cs = [.int .i64 x.fr, .int .i64 x.to, .bool x.neg] := by
  obtain ⟨c1, c2, rfl, rfl, c3, c4, rfl, rfl, rfl⟩ := h
  rfl
theorem edgRd_mk (w : World) (x : Edg) : edgRd.K w x [.int .i64 x.fr, .int .i64 x.to, .bool x.neg] := ⟨[_], [_, _], rfl, rfl, [_], [_], rfl, rfl, rfl⟩
theorem edg_at {w : World} {A : Option Addr} {xs : List Edg} (h : edgRd.C w A xs) {i : Nat} {x : Edg} (hx : xs[i]? = some x) :
    ∃ ad, A = some ad ∧ ad.block < w.heap.size ∧ w.cell? (ad.add (i * 3)) = some (.int .i64 x.fr) ∧
      w.cell? ⟨(ad.add (i * 3)).block, (ad.add (i * 3)).off + 1, none⟩ = some (.int .i64 x.to) ∧
      w.cell? ⟨(ad.add (i * 3)).block, (ad.add (i * 3)).off + 2, none⟩ = some (.bool x.neg) := by
  obtain ⟨ad, cs, hA, hK, hc⟩ := h i x hx
  obtain rfl := edgRd_open hK
  have h0 := hc 0 _ rfl
  have h1 := hc 1 _ rfl
  have h2 := hc 2 _ rfl
  rw [show edgRd.sz = 3 from rfl] at h0 h1 h2
  rw [add_off _ _ _ (by omega)] at h1 h2
  refine ⟨ad, hA, ?_, h0, h1, h2⟩
  have := World.block_lt_of_cell? w _ h0
  rwa [block_of_add] at this
/-- Edges among K names. -/
def EdgesIn (K : Nat) (es : List Edg) : Prop := ∀ e ∈ es, e.fr < K ∧ e.to < K
def MayERel (w : World) (es : List Edg) (cnt : Value) (wr : World) : Prop := ∃ k : Nat, cnt = .int .i64 k ∧ k ≤ es.length ∧ Below w.heap.size w wr

set_option maxRecDepth 100000 in
set_option maxHeartbeats 2000000 in
theorem cmay_any {w : World} {K : Nat} {es : List Edg} {A : Option Addr} {c : Nat} (hK : K ≤ 64) (hE : EdgesIn K es) (hC : edgRd.C w A es) (hl : es.length ≤ 9223372036854775807) :
    Calls Try.prog 61 #[.int .i64 K, .slice A es.length c] w fun e w' => e = .returned (.bool true) ∧ Below w.heap.size w w' := by
  have k1 : decide ((K : Int) < 0) = false := by simp
  have k2 : decide ((64 : Int) < K) = false := by simp; omega
  go_enter Try.func61, Try.ntmps61
  go_wp2_with fail
  go_loopw [15] (fun cnt wr => MayERel w es cnt wr) (fun cnt _ => es.length - (intOf cnt).toNat)
  case atStart => exact ⟨0, rfl, Nat.zero_le _, below_refl _⟩
  case round =>
    obtain ⟨k, rfl, hk, hb⟩ := hrel
    have HB := Lib.hid hb
    clear hb
    by_cases hlt : k < es.length
    · obtain ⟨x, hx⟩ : ∃ x, es[k]? = some x := ⟨_, List.getElem?_eq_getElem hlt⟩
      obtain ⟨ad, eA, -, q0, q1, q2⟩ := edg_at (hC.mono HB.out) hx
      subst eA
      have hki : (k : Int) < es.length := by omega
      have hin := hE x (List.mem_of_getElem? hx)
      have d1 : decide ((x.fr : Int) < 0) = false := by simp
      have d2 : decide ((K : Int) ≤ x.fr) = false := by simp; omega
      have d3 : decide ((x.to : Int) < 0) = false := by simp
      have d4 : decide ((K : Int) ≤ x.to) = false := by simp; omega
      have f1 := hin.1
      have f2 := hin.2
      clear hx hin
      have hba := below_alloc' (below_refl wr) (Obj.cells #[Value.int .i64 x.fr, Value.int .i64 x.to, Value.bool x.neg] 81)
      have HBA := Lib.hid hba
      clear hba
      go_wp2_with fail
      go_roundw
      case rel => exact ⟨k + 1, by go_num, hlt, below_then HB.out HBA.out⟩
      case measure => simp [intOf]; omega
    · go_wp2
      go_ret
      exact ⟨rfl, HB.out⟩
end Go.Proofs.Ytmccdakmdcdbeaa
