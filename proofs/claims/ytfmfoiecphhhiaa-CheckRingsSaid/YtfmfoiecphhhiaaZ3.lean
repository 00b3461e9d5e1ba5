/-
  Z3: templeref0.Decimal of a digit.
-/
import Derived.Test.YtfmfoiecphhhiaaA4
import Derived.Test.YtfmfoiecphhhiaaU1
import Derived.Test.YtfmfoiecphhhiaaB1
set_option linter.unusedSimpArgs false
set_option linter.unusedVariables false
namespace Go.Proofs.Ytfmfoiecphhhiaa
open Go.RowKit

/-- A digit's text. -/
def digS (i : Nat) : ByteArray := ⟨#[UInt8.ofNat (48 + i)]⟩
def DcL (w : World) (i : Nat) (s3 s4 : Value) (wr : World) : Prop := Below w.heap.size w wr ∧ ((s3 = .int .u64 i ∧ s4 = .slice none 0 0) ∨ (s3 = .int .u64 0 ∧ ∃ b c, s4 = .slice (some ⟨b, 0, none⟩) 1 c ∧ wr.heap[b]? = some (.cells #[.int .u8 (48 + (i : Int) % 10)] 5 (0, 0))))
def nilS : Value → Nat
  | .slice none _ _ => 1
  | _ => 0
set_option maxRecDepth 100000 in
set_option maxHeartbeats 4000000 in
theorem decimal_any (w : World) (i : Nat) (hi : i < 10) : Calls Try.prog 9 #[.int .i64 i] w fun e w' => e = .returned (.string (digS i)) ∧ Below w.heap.size w w' := by
  have d0 : decide ((i : Int) < 0) = false := decide_eq_false (by omega)
  go_enter Try.func9, Try.ntmps9
  go_upto_region 5 with fail
  go_loopw [3, 4] (fun s3 s4 wr => DcL w i s3 s4 wr) (fun _ s4 _ => nilS s4)
  case atStart => exact ⟨below_refl _, .inl ⟨rfl, rfl⟩⟩
  case round =>
    obtain ⟨hb, ⟨rfl, rfl⟩ | ⟨rfl, b, c, rfl, hB⟩⟩ := hrel
    · have HB := Lib.hid hb
      clear hb
      rcases Nat.eq_zero_or_pos i with h0 | h0
      · subst h0
        have hn := heap_alloc_new wr (Obj.cells #[.int .u8 48] 5)
        have hq := below_alloc' (below_refl wr) (Obj.cells #[.int .u8 48] 5)
        have HN := Lib.hid hn
        have HQ := Lib.hid hq
        clear hn hq
        go_wp2_with fail
        go_roundw
        case rel => exact ⟨below_then HB.out HQ.out, .inr ⟨by go_num, _, _, rfl, HN.out⟩⟩
        case measure => simp [nilS]
      · have d1 : decide ((0 : Int) < (i : Int)) = true := decide_eq_true (by omega)
        have hn := heap_alloc_new wr (Obj.cells #[.int .u8 (48 + (i : Int) % 10)] 5)
        have hq := below_alloc' (below_refl wr) (Obj.cells #[.int .u8 (48 + (i : Int) % 10)] 5)
        have HN := Lib.hid hn
        have HQ := Lib.hid hq
        have hdv : (i : Int) / 10 = 0 := by omega
        clear hn hq
        go_wp2_with fail
        go_roundw
        case rel => exact ⟨below_then HB.out HQ.out, .inr ⟨by first | rfl | go_num, _, _, rfl, HN.out⟩⟩
        case measure => simp [nilS]
    · have HB := Lib.hid hb
      have hcv : (convert 44 9 (.slice (some ⟨b, 0, none⟩) 1 c)).run Try.prog wr = .ok (.string (digS i)) wr := by
        have hm : (48 + (i : Int) % 10) = ((UInt8.ofNat (48 + i)).toNat : Int) := by
          rw [UInt8.toNat_ofNat']
          omega
        have h1 := run_convert_bytes_back (P := Try.prog) wr 44 9 5 ⟨b, 0, none⟩ c [UInt8.ofNat (48 + i)] Try.underlying44 Try.underlying5 Try.underlying9 (fun j hj => by
          have hj0 : j = 0 := by simpa using hj
          subst hj0
          rw [add_plain, blk_cell hB]
          simp [hm])
        simpa [digS] using h1
      have HCV := Lib.hid hcv
      clear hb hB
      go_wp2_with fail
      go_ret
      exact ⟨rfl, HB.out⟩
end Go.Proofs.Ytfmfoiecphhhiaa
