/-
  M3: mean.Table's rest as a whole; conj.
-/
import Derived.Test.YtbidpeggdhkahaaM2
import Derived.Deep.RegionHeld3
set_option linter.unusedSimpArgs false
set_option linter.unusedVariables false
namespace Go.Proofs.Ytbidpeggdhkahaa
open Go.RowKit
attribute [local go_sem] max2_mxz max_mxz

theorem rest_any {w : World} {t : TS} {NM PL : Rk} (St : Stat w t) (F : t.Fits) (Rw : Rows w t NM PL) {r c : Nat} {rr : Rul} {cc : Conj} (hr : t.G.rules[r]? = some rr) (hc : rr.conj[c]? = some cc)
    {A : Option Addr} {cap : Nat} (hA : symRd.C w A cc.seq) {pos : Nat} (hpos : pos ≤ cc.seq.length) {i j : Int} (hi0 : 0 ≤ i) (hij : i ≤ j) (hj : j ≤ t.W.size) :
    Calls Try.prog 64 #[.pointer (some ⟨t.p, 0, none⟩), .slice A cc.seq.length cap, .int .i64 (t.off r c), .int .i64 pos, .int .i64 i, .int .i64 j] w
      fun e w' => e = .returned (.int .i64 (restF t NM PL cc.seq (t.off r c) pos i j)) ∧ Below w.heap.size w w' := by
  have hoff := F.off r rr c cc hr hc
  have hQ := F.Q
  have hW := F.W32
  by_cases hp : pos = cc.seq.length
  · subst hp
    have h := rest_end t.p A cc.seq.length cap (t.off r c) cc.seq.length i j w rfl
    unfold restF
    rw [List.getElem?_eq_none (Nat.le_refl _)]
    exact h
  · have hlt : pos < cc.seq.length := by omega
    have hs : cc.seq[pos]? = some cc.seq[pos] := List.getElem?_eq_getElem hlt
    generalize cc.seq[pos] = s at hs
    obtain ⟨sa, rfl, -, s0, s1, s2⟩ := sym_at hA hs
    have S := St.now
    have hP := S.cP
    have hR := S.rP (t.off r c + pos + 1) (by omega)
    have hl := F.seq r rr c cc hr hc
    have hm : ∀ a b : Int, 0 ≤ a → a ≤ t.W.size → 0 ≤ b → b ≤ t.W.size → a * (t.W.size + 1) + b < t.S := fun a b h0 h1 h2 h3 => (key_bd t h0 h1 h2 h3).2
    have hsym := F.sym r rr c cc pos s hr hc hs
    unfold restF
    rw [hs]
    by_cases hn : s.name < 0
    · simp only [if_pos hn]
      exact rest_b t.p t.W (some sa) cc.seq.length cap (t.off r c) pos i j w sa s.name s.lo s.hi t.Q t.xP t.pb t.S (t.yP (t.off r c + pos + 1)) (t.pr (t.off r c + pos + 1)) (PL (t.off r c + pos + 1) (i + 1) j)
        rfl (by omega) (by omega) hl (by simpa using s0) (by simpa using s1) (by simpa using s2) hn (by omega) (by omega) (by omega) S.cW hW hP
        (by rw [show ((t.off r c : Int) + pos + 1).toNat = t.off r c + pos + 1 by omega]; exact hR) hi0 hij hj hm
        (fun hlt' => (Rw.p (t.off r c + pos + 1) (i + 1) j (by omega) (by omega) (by omega) (by omega) (by omega)).1)
    · simp only [if_neg hn]
      have hN := S.cN
      have hM := S.rN s.name.toNat (by omega)
      exact rest_c t.p t.W (some sa) cc.seq.length cap (t.off r c) pos i j w sa s.name s.lo s.hi t.Q t.xP t.K t.xN t.pb t.nb t.S (t.yP (t.off r c + pos + 1)) (t.yN s.name.toNat) (t.pr (t.off r c + pos + 1)) (fun d => NM s.name.toNat i (i + d)) (fun d => PL (t.off r c + pos + 1) (i + d) j) (t.nr s.name.toNat)
        rfl (by omega) (by omega) hl (by simpa using s0) (by simpa using s1) (by simpa using s2) (by omega) (by omega) (by omega) (by omega) (by omega) S.cW hW hN hP
        (by rw [show ((t.off r c : Int) + pos + 1).toNat = t.off r c + pos + 1 by omega]; exact hR) hM hi0 hij hj hm
        (fun d hd => (Rw.n s.name.toNat i (i + d) (by omega) (by omega) (by omega) (by omega) (by omega)).1)
        (fun d hd => (Rw.p (t.off r c + pos + 1) (i + d) j (by omega) (by omega) (by omega) (by omega) (by omega)).1)

theorem less_yes (p : Nat) (W : ByteArray) (b c S : Nat) (i j rank old : Int) (w : World)
   (hw : w.cell? ⟨p, 3, none⟩ = some (.string W)) (hW : W.size ≤ 32) (hi0 : 0 ≤ i) (hi : i ≤ W.size) (hj0 : 0 ≤ j) (hj : j ≤ W.size)
   (hS : i * (W.size + 1) + j < S)
   (hc : w.cell? ⟨b, (i * (W.size + 1) + j).toNat, none⟩ = some (.int .i64 old)) (hf : w.frozen? ⟨b, (i * (W.size + 1) + j).toNat, none⟩ = false) (hl : lessB old rank = true) :
   Calls Try.prog 49 #[.pointer (some ⟨p, 0, none⟩), .slice (some ⟨b, 0, none⟩) S c, .int .i64 i, .int .i64 j, .int .i64 rank] w
     fun e w' => e = .returned (.bool true) ∧ w' = w.setCell ⟨b, (i * (W.size + 1) + j).toNat, none⟩ (.int .i64 rank) :=
  (less_any p W b c S i j rank old w hw hW hi0 hi hj0 hj hS hc hf).mono fun e w' ⟨he, hw⟩ => ⟨by rw [he, hl], by rw [hw]; simp [setIf, hl]⟩
theorem less_no (p : Nat) (W : ByteArray) (b c S : Nat) (i j rank old : Int) (w : World)
   (hw : w.cell? ⟨p, 3, none⟩ = some (.string W)) (hW : W.size ≤ 32) (hi0 : 0 ≤ i) (hi : i ≤ W.size) (hj0 : 0 ≤ j) (hj : j ≤ W.size)
   (hS : i * (W.size + 1) + j < S)
   (hc : w.cell? ⟨b, (i * (W.size + 1) + j).toNat, none⟩ = some (.int .i64 old)) (hf : w.frozen? ⟨b, (i * (W.size + 1) + j).toNat, none⟩ = false) (hl : lessB old rank = false) :
   Calls Try.prog 49 #[.pointer (some ⟨p, 0, none⟩), .slice (some ⟨b, 0, none⟩) S c, .int .i64 i, .int .i64 j, .int .i64 rank] w
     fun e w' => e = .returned (.bool false) ∧ w = w' :=
  (less_any p W b c S i j rank old w hw hW hi0 hi hj0 hj hS hc hf).mono fun e w' ⟨he, hw⟩ => ⟨by rw [he, hl], by rw [hw]; simp [setIf, hl]⟩

/-- What is known behind 'conj'. -/
def ConjPost (w : World) (t : TS) (NM PL : Rk) (s : Rk × Bool) (e : Ending) (w' : World) : Prop :=
  e = .returned (.bool s.2) ∧ Upd t.R w w' ∧ Rows w' t NM s.1

def ConjRel (w : World) (t : TS) (NM PL : Rk) (seq : List Sym) (a : Nat) (i j : Int) (g p : Value) (wr : World) : Prop :=
  ∃ (n : Nat) (s : Rk × Bool), n ≤ seq.length + 1 ∧ p = .int .i64 ((n : Int) - 1) ∧ g = .bool s.2 ∧ conjDown t NM seq a i j n s = conjF t NM PL seq a i j ∧ Upd t.R w wr ∧ Rows wr t NM s.1

set_option maxRecDepth 100000 in
set_option maxHeartbeats 2000000 in
theorem conj_any {w : World} {t : TS} {NM PL : Rk} (St : Stat w t) (F : t.Fits) (Rw : Rows w t NM PL) {r c : Nat} {rr : Rul} {cc : Conj} (hr : t.G.rules[r]? = some rr) (hc : rr.conj[c]? = some cc)
    {i j : Int} (hi0 : 0 ≤ i) (hij : i ≤ j) (hj : j ≤ t.W.size) :
    Calls Try.prog 48 #[.pointer (some ⟨t.p, 0, none⟩), .int .i64 r, .int .i64 c, .int .i64 i, .int .i64 j] w
      (ConjPost w t NM PL (conjF t NM PL cc.seq (t.off r c) i j)) := by
  have hoff := F.off r rr c cc hr hc
  have hQ := F.Q
  have hW := F.W32
  have hl := F.seq r rr c cc hr hc
  have S := St.now
  have hrl : r < t.G.rules.length := (List.getElem?_eq_some_iff.1 hr).1
  have hcl : c < rr.conj.length := (List.getElem?_eq_some_iff.1 hc).1
  have hrn := F.rules
  have hcn := (F.conj r rr hr).2
  obtain ⟨cR, hR⟩ := S.cR
  obtain ⟨ra, cC, era, -, -, r1⟩ := S.gR.rul r rr hr
  obtain ⟨ca, cS, eca, -, -, c1⟩ := S.gR.con r rr c cc hr hc
  obtain ⟨AS, hAS⟩ : ∃ A, A = t.sa r c := ⟨_, rfl⟩
  rw [era] at hR
  rw [eca] at r1
  rw [← hAS] at c1
  have HAS := Lib.hid hAS
  clear hAS era eca
  have b1 : (0 : Int) ≤ r := by omega
  have b2 : (r : Int) < t.G.rules.length := by omega
  have b3 : (0 : Int) ≤ c := by omega
  have b4 : (c : Int) < rr.conj.length := by omega
  go_enter Try.func48, Try.ntmps48
  go_wp2_with fail
  go_loopw [11, 13] (fun g p wr => ConjRel w t NM PL cc.seq (t.off r c) i j g p wr) (fun _ p _ => (intOf p + 1).toNat)
  case atStart => exact ⟨cc.seq.length + 1, (PL, false), by omega, by go_num, rfl, rfl, Upd.refl _ _, Rw⟩
  case round =>
    obtain ⟨n, s, hn, rfl, rfl, hdone, hu, Rr⟩ := hrel
    have HU := Lib.hid hu
    clear hu
    have St' := St.upd HU.out
    have S' := St'.now
    rcases n with _ | n
    · have hs : s = conjF t NM PL cc.seq (t.off r c) i j := hdone
      have HS := Lib.hid hs
      clear hs hdone
      go_wp2_with fail
      go_ret
      exact ⟨by rw [← HS.out]; rfl, HU.out, by rw [← HS.out]; exact Rr⟩
    · have f1 := S'.cP
      have f2 := S'.cA
      have f3 := S'.rA r rr hr
      have f4 := S'.oA r rr c cc hr hc
      have f5 := S'.rP (t.off r c + n) (by omega)
      have e0 : (((n + 1 : Nat) : Int) - 1) = (n : Int) := by omega
      have e1 : IntKind.i64.wrap ((t.off r c : Int) + n) = (t.off r c : Int) + n := IntWalk.i64_in _ (by omega)
      rw [show t.off r c + n = ((t.off r c : Int) + n).toNat by omega] at f5
      have g0 : (0 : Int) ≤ (t.off r c : Int) + n := by omega
      have g1 : (t.off r c : Int) + n < t.Q := by omega
      obtain ⟨rk, hrk⟩ : ∃ x, x = restF t NM s.1 cc.seq (t.off r c) n i j := ⟨_, rfl⟩
      have R1 : Calls Try.prog 64 #[.pointer (some ⟨t.p, 0, none⟩), .slice AS cc.seq.length cS, .int .i64 (t.off r c), .int .i64 n, .int .i64 i, .int .i64 j] wr.drew
          fun e w' => e = .returned (.int .i64 rk) ∧ Below wr.heap.size wr.drew w' := by
        rw [hrk]
        exact rest_any St'.drew F Rr.drew hr hc (by rw [HAS.out]; exact (St'.drew).now.gR.sym r rr c cc hr hc) (by omega) hi0 hij hj
      have HR1 := Lib.hid R1
      clear R1
      have HRK := Lib.hid hrk
      clear hrk
      rw [e0]
      have p1 := Rr.p (t.off r c + n) i j (by omega) (by omega) (by omega) (by omega) (by omega)
      have kb := key_bd t hi0 (by omega) (by omega) hj
      have e9 : ((t.off r c : Int) + n).toNat = t.off r c + n := by omega
      have HE := Lib.hid e9
      clear e9
      have hst : conjStep t NM cc.seq (t.off r c) i j n s = if lessB (s.1 (t.off r c + n) i j) rk then (putR s.1 (t.off r c + n) i j rk, true) else s := by rw [HRK.out]; rfl
      have hdn : conjDown t NM cc.seq (t.off r c) i j (n + 1) s = conjDown t NM cc.seq (t.off r c) i j n (conjStep t NM cc.seq (t.off r c) i j n s) := rfl
      rw [hdn] at hdone
      clear hdn
      cases hl : lessB (s.1 (t.off r c + n) i j) rk with
      | false =>
        rw [hl] at hst
        simp only [Bool.false_eq_true, if_false] at hst
        rw [hst] at hdone
        have HD := Lib.hid hdone
        have HL := Lib.hid hl
        clear hl e0 hst hdone
        go_wp2_with fail
        go_region_held3 (fun w' => w'.cell? ⟨t.p, 6, none⟩ = some (.slice (some ⟨t.pb, 0, none⟩) t.Q t.xP) ∧ w'.cell? ⟨t.p, 7, none⟩ = some (.slice (some ⟨t.ab, 0, none⟩) t.G.rules.length t.xA) ∧ w'.cell? ⟨t.ab, r, none⟩ = some (.slice (some ⟨t.ar r, 0, none⟩) rr.conj.length (t.yA r)) ∧ w'.cell? ⟨t.ar r, c, none⟩ = some (.int .i64 (t.off r c)) ∧ w'.cell? ⟨t.pb, ((t.off r c : Int) + n).toNat, none⟩ = some (.slice (some ⟨t.pr (t.off r c + n), 0, none⟩) t.S (t.yP (t.off r c + n)))) (first | exact ⟨j1, j2, j3, j4, j5⟩ | exact ⟨f1, f2, f3, f4, f5⟩)
          (first | (go_at_call 64; refine HR1.out.mono ?_; rintro e w2 ⟨rfl, hb2⟩; have j1 := below_cell (w := wr.drew) hb2 f1; have j2 := below_cell (w := wr.drew) hb2 f2; have j3 := below_cell (w := wr.drew) hb2 f3; have j4 := below_cell (w := wr.drew) hb2 f4; have j5 := below_cell (w := wr.drew) hb2 f5; have R2 := Lib.hid (Rr.drew.below hb2); have S2 := Lib.hid (St'.drew.below hb2); have HB2 := Lib.hid hb2; clear hb2) | (go_at_call 49; refine (less_no t.p t.W (t.pr (t.off r c + n)) (t.yP (t.off r c + n)) t.S i j rk (s.1 (t.off r c + n) i j) _ S2.out.now.cW hW hi0 (by omega) (by omega) hj kb.2 (R2.out.p (t.off r c + n) i j (by omega) (by omega) (by omega) (by omega) (by omega)).1 (R2.out.p (t.off r c + n) i j (by omega) (by omega) (by omega) (by omega) (by omega)).2 HL.out).mono ?_; rintro e w3 ⟨rfl, rfl⟩))
        clear f1 f2 f3 f4 f5 e1
        go_wp2
        go_roundw
        case rel => exact ⟨n, s, by omega, by go_num, rfl, HD.out, HU.out.trans ((Upd.refl t.R wr).drew.trans (Upd.of_below (a := wr.drew) HB2.out)), R2.out⟩
        case measure => simp [intOf]
      | true =>
        rw [hl] at hst
        simp only [if_true] at hst
        rw [hst] at hdone
        have HD := Lib.hid hdone
        have HL := Lib.hid hl
        clear hl e0 hst hdone
        go_wp2_with fail
        go_region_held3 (fun w' => w'.cell? ⟨t.p, 6, none⟩ = some (.slice (some ⟨t.pb, 0, none⟩) t.Q t.xP) ∧ w'.cell? ⟨t.p, 7, none⟩ = some (.slice (some ⟨t.ab, 0, none⟩) t.G.rules.length t.xA) ∧ w'.cell? ⟨t.ab, r, none⟩ = some (.slice (some ⟨t.ar r, 0, none⟩) rr.conj.length (t.yA r)) ∧ w'.cell? ⟨t.ar r, c, none⟩ = some (.int .i64 (t.off r c)) ∧ w'.cell? ⟨t.pb, ((t.off r c : Int) + n).toNat, none⟩ = some (.slice (some ⟨t.pr (t.off r c + n), 0, none⟩) t.S (t.yP (t.off r c + n)))) (first | exact ⟨k1, k2, k3, k4, k5⟩ | exact ⟨j1, j2, j3, j4, j5⟩ | exact ⟨f1, f2, f3, f4, f5⟩)
          (first | (go_at_call 64; refine HR1.out.mono ?_; rintro e w2 ⟨rfl, hb2⟩; have j1 := below_cell (w := wr.drew) hb2 f1; have j2 := below_cell (w := wr.drew) hb2 f2; have j3 := below_cell (w := wr.drew) hb2 f3; have j4 := below_cell (w := wr.drew) hb2 f4; have j5 := below_cell (w := wr.drew) hb2 f5; have R2 := Lib.hid (Rr.drew.below hb2); have S2 := Lib.hid (St'.drew.below hb2); have HB2 := Lib.hid hb2; clear hb2) | (go_at_call 49; refine (less_yes t.p t.W (t.pr (t.off r c + n)) (t.yP (t.off r c + n)) t.S i j rk (s.1 (t.off r c + n) i j) _ S2.out.now.cW hW hi0 (by omega) (by omega) hj kb.2 (R2.out.p (t.off r c + n) i j (by omega) (by omega) (by omega) (by omega) (by omega)).1 (R2.out.p (t.off r c + n) i j (by omega) (by omega) (by omega) (by omega) (by omega)).2 HL.out).mono ?_; rintro e w3 ⟨rfl, rfl⟩; have U3 := Lib.hid ((Upd.refl t.R w2).setCell (p := ⟨t.pr (t.off r c + n), (i * (t.W.size + 1) + j).toNat, none⟩) (.inr ⟨t.off r c + n, by omega, rfl⟩) (.int .i64 rk)); have S3 := Lib.hid (S2.out.upd U3.out); have k1 := S3.out.now.cP; have k2 := S3.out.now.cA; have k3 := S3.out.now.rA r rr hr; have k4 := S3.out.now.oA r rr c cc hr hc; have k5 := S3.out.now.rP (t.off r c + n) (by omega); rw [← HE.out] at k5))
        clear f1 f2 f3 f4 f5 e1
        go_wp2
        go_roundw
        case rel => exact ⟨n, (putR s.1 (t.off r c + n) i j rk, true), by omega, by go_num, rfl, HD.out, HU.out.trans (((Upd.refl t.R wr).drew.trans (Upd.of_below (a := wr.drew) HB2.out)).trans U3.out), R2.out.putP F (by omega) (by omega) (by omega) (by omega) (by omega) rk⟩
        case measure => simp [intOf]
end Go.Proofs.Ytbidpeggdhkahaa
