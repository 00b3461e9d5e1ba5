/-
  V7: templelaw11.MeanMore answers true.
-/
import Derived.Test.YtmccdakmdcdbeaaV6
set_option linter.unusedSimpArgs false
set_option linter.unusedVariables false
namespace Go.Proofs.Ytmccdakmdcdbeaa
open Go.RowKit

def DnI (rules : List Rul) (i : Nat) (r k : Nat) : Prop := r < i ∧ ∃ x, rules[r]? = some x ∧ k < x.conj.length
def DnJ (rules : List Rul) (i j : Nat) (r k : Nat) : Prop := DnI rules i r k ∨ (r = i ∧ k < j)
def MutI (w0 : World) (rules : List Rul) (vc : Nat → Value) (sq : Nat → Nat → Value) (cnt : Value) (wr : World) : Prop := ∃ i : Nat, cnt = .int .i64 i ∧ i ≤ rules.length ∧ MutSt w0 rules vc sq (DnI rules i) wr
def MutJ (w0 : World) (rules : List Rul) (vc : Nat → Value) (sq : Nat → Nat → Value) (i n : Nat) (cnt : Value) (wr : World) : Prop := ∃ j : Nat, cnt = .int .i64 j ∧ j ≤ n ∧ MutSt w0 rules vc sq (DnJ rules i j) wr
/-- The rule that is added, laid. -/
def moreObjs (N : Nat) (p q : Nat) : List Obj := [symO [⟨(p : Int), 0, 0⟩, ⟨(q : Int), 0, 0⟩], .cells #[.bool false, .slice (some ⟨N, 0, none⟩) 2 2] 48 (0, 0)]
def more3 (N m p q : Nat) : List Obj := [symO [⟨(p : Int), 0, 0⟩, ⟨(q : Int), 0, 0⟩], .cells #[.bool false, .slice (some ⟨N, 0, none⟩) 2 2] 48 (0, 0), .cells #[.int .i64 m, .slice (some ⟨N + 1, 0, none⟩) 1 1] 53 (0, 0)]
def moreRule (m p q : Nat) : Rul := ⟨(m : Int), [⟨false, [⟨(p : Int), 0, 0⟩, ⟨(q : Int), 0, 0⟩]⟩]⟩
def GoodM (B : Nat) (v : Value) (w7 : World) (N p q : Nat) (w' : World) : Prop := Upd (fun b => b < B ∨ v.ownBlock = some b) w7 w' ∧ ∀ j o, (moreObjs N p q)[j]? = some o → w'.heap[N + j]? = some o
theorem more_K {B N m p q : Nat} {v : Value} {w7 w' : World} (g : GoodM B v w7 N p q w') : rulRd.K w' (moreRule m p q) [.int .i64 m, .slice (some ⟨N + 1, 0, none⟩) 1 1] := by
  have h0 := symO_C (g.2 0 _ rfl)
  have d1 : conjRd.C w' (some ⟨N + 1, 0, none⟩) [⟨false, [⟨(p : Int), 0, 0⟩, ⟨(q : Int), 0, 0⟩]⟩] := C_blk [[.bool false, .slice (some ⟨N, 0, none⟩) 2 2]] (g.2 1 _ rfl) rfl ⟨⟨conjRd_mk (x := ⟨false, [⟨(p : Int), 0, 0⟩, ⟨(q : Int), 0, 0⟩]⟩) (Nat.le_refl _) (by simp) h0, rfl⟩, trivial⟩
  exact rulRd_mk (x := moreRule m p q) (Nat.le_refl _) (by decide) d1
set_option maxRecDepth 100000 in
set_option maxHeartbeats 4000000 in
theorem more_any2 {w : World} (G : Gram) (W : ByteArray) {A A' : Option Addr} {c c' : Nat} (x y : Int) (hWs : W.size < 140737488351233) (hG : Holdable G) (n1 : G.names.length ≤ c) (n2 : c ≤ 9223372036854775807) (n3 : Rd.str.C w A G.names) (n4 : G.rules.length ≤ c') (n5 : c' ≤ 9223372036854775807) (n6 : rulRd.C w A' G.rules) :
    Calls Try.prog 11 #[.agg #[.int .i64 G.start, .slice A G.names.length c, .slice A' G.rules.length c'], .string W, .int .i64 x, .int .i64 y] w
      fun e w' => e = .returned (.bool true) ∧ Below w.heap.size w w' := by
  have hb0 : Below w.heap.size w (w.alloc (Obj.cells #[Value.int .i64 G.start, Value.slice A G.names.length c, Value.slice A' G.rules.length c'] 25)) := below_alloc' (below_refl w) _
  have B0 := heap_alloc_new w (Obj.cells #[Value.int .i64 G.start, Value.slice A G.names.length c, Value.slice A' G.rules.length c'] 25)
  have N3 := Lib.hid (n3.mono hb0)
  have N6 := Lib.hid (n6.mono hb0)
  clear n3 n6
  go_enter Try.func11, Try.ntmps11
  go_wp2_with fail
  obtain ⟨bx, hbx⟩ : ∃ bx, bx = w.heap.size := ⟨_, rfl⟩
  rw [← hbx] at B0 ⊢
  generalize w.alloc (Obj.cells #[Value.int .i64 G.start, Value.slice A G.names.length c, Value.slice A' G.rules.length c'] 25) = w0 at hb0 B0 N3 N6 ⊢
  have HB0 := Lib.hid hb0
  have HX := Lib.hid B0
  clear hb0 B0 hbx
  go_wp2_with (first
    | (go_at_call 13; refine (awake_any _).mono ?_; rintro e w1 ⟨rfl, hb1⟩; have HB1 := Lib.hid hb1; have z0 : w1.cell? ⟨bx, 0, none⟩ = some (.int .i64 G.start) := blk_cell (blk_below HX.out hb1) 0; have z1 : w1.cell? ⟨bx, 1, none⟩ = some (.slice A G.names.length c) := blk_cell (blk_below HX.out hb1) 1; have z2 : w1.cell? ⟨bx, 2, none⟩ = some (.slice A' G.rules.length c') := blk_cell (blk_below HX.out hb1) 2; clear hb1)
    | fail)
  refine (copyD_any G n1 n2 (N3.out.mono HB1.out) n4 n5 (N6.out.mono HB1.out) hG).mono ?_
  rintro e w2 ⟨vn, vr, vc, base, B, rfl, on, D, h1, h2, h3, h4, hb2⟩
  obtain ⟨An, kn, rfl, -, -, -⟩ := on.shape
  obtain ⟨Ar, kr, er, q1, q2, -⟩ := D.row.shape
  have hrl : (rawL G.rules G.rules.length vc).length = G.rules.length := by simp [rawL]
  rw [hrl] at er q1
  subst er
  clear z0 z1 z2
  have hl9 := heap_alloc_new w2 (Obj.cells #[.int .i64 G.start, .slice An G.names.length kn, .slice Ar G.rules.length kr] 25)
  have h29 : Below w2.heap.size w2 (w2.alloc (Obj.cells #[.int .i64 G.start, .slice An G.names.length kn, .slice Ar G.rules.length kr] 25)) := below_alloc' (below_refl _) _
  go_wp2_with fail
  generalize w2.alloc (Obj.cells #[.int .i64 G.start, .slice An G.names.length kn, .slice Ar G.rules.length kr] 25) = W0 at hl9 h29 ⊢
  have D0 := D.later (Upd.of_below (R := fun _ => False) h29) (fun _ h => h.elim)
  obtain ⟨sq, M⟩ := deep_mut D0
  have hRC : ∀ b, RC G.rules.length vc b → B ≤ b ∧ b < w2.heap.size := fun b ⟨r, hr, hb⟩ => by have := D.blk r b hr hb; exact ⟨this.1, this.2.1⟩
  have ON0 := Lib.hid (on.below h29)
  have M0 := Lib.hid M
  have HRC := Lib.hid hRC
  have HL9 := Lib.hid hl9
  have H4 := Lib.hid h4
  have HB2 := Lib.hid (below_then HB1.out (below_then hb2 h29))
  have hs01 := HB1.out.size
  have hs10 := hb2.size
  have hs20 := h29.size
  clear on D D0 M hRC hl9 h29 h4 hb2 N3 N6 HB1 HX hrl
  obtain ⟨b9, hb9⟩ : ∃ b9, b9 = w2.heap.size := ⟨_, rfl⟩
  rw [← hb9] at HL9 HRC hs10 hs20 h3 ⊢
  clear hb9
  go_loopw [10] (fun cnt wr => MutI W0 G.rules vc sq cnt wr) (fun cnt _ => G.rules.length - (intOf cnt).toNat)
  case atStart => exact ⟨0, rfl, Nat.zero_le _, (MutSt.start M0.out).imp (fun r k h => absurd h.1 (Nat.not_lt_zero _))⟩
  case round =>
    obtain ⟨i, rfl, hi, hst⟩ := hrel
    have h9 : ¬ RC G.rules.length vc b9 := fun h => by have := HRC.out b9 h; omega
    have u0 : wr.cell? ⟨b9, 0, none⟩ = some (.int .i64 G.start) := hst.1.cell (blk_cell HL9.out 0) h9
    have u1 : wr.cell? ⟨b9, 1, none⟩ = some (.slice An G.names.length kn) := hst.1.cell (blk_cell HL9.out 1) h9
    have u2 : wr.cell? ⟨b9, 2, none⟩ = some (.slice Ar G.rules.length kr) := hst.1.cell (blk_cell HL9.out 2) h9
    have HST := Lib.hid hst
    clear hst h9
    by_cases hlt : i < G.rules.length
    · have hx : G.rules[i]? = some G.rules[i] := List.getElem?_eq_getElem hlt
      obtain ⟨xr, hxe⟩ : ∃ x, x = G.rules[i] := ⟨_, rfl⟩
      rw [← hxe] at hx
      clear hxe u0 u1
      obtain ⟨g, cr, eg, hng, -, c1⟩ := M0.out.row i xr hx
      cases eg
      have r1 : wr.cell? ⟨g, i * 2 + 1, none⟩ = some (vc i) := HST.out.1.cell c1 hng
      obtain ⟨Ac, cc, ec, l1, l2⟩ := M0.out.con i xr hx
      have EC := Lib.hid ec
      rw [ec] at r1
      have HX := Lib.hid hx
      have HNG := Lib.hid hng
      have hiI : (i : Int) < (G.rules.length : Int) := by omega
      have C1 := Lib.hid c1
      clear c1 ec hx hng
      go_wp2_with fail
      clear r1 u2
      go_loopw [11] (fun cnt wr' => MutJ W0 G.rules vc sq i xr.conj.length cnt wr') (fun cnt _ => xr.conj.length - (intOf cnt).toNat)
      case atStart => exact ⟨0, rfl, Nat.zero_le _, HST.out.imp (fun r k h => h.elim id (fun h => absurd h.2 (Nat.not_lt_zero _)))⟩
      case round =>
        clear HST
        obtain ⟨j, rfl, hj, hst⟩ := hrel
        have h9 : ¬ RC G.rules.length vc b9 := fun h => by have := HRC.out b9 h; omega
        have u2 : wr.cell? ⟨b9, 2, none⟩ = some (.slice (some ⟨g, 0, none⟩) G.rules.length kr) := hst.1.cell (blk_cell HL9.out 2) h9
        have r1 : wr.cell? ⟨g, i * 2 + 1, none⟩ = some (vc i) := hst.1.cell C1.out HNG.out
        rw [EC.out] at r1
        have HST := Lib.hid hst
        clear hst h9
        by_cases hltj : j < xr.conj.length
        · have hy : xr.conj[j]? = some xr.conj[j] := List.getElem?_eq_getElem hltj
          have HY := Lib.hid hy
          obtain ⟨ng, hng2, -⟩ := HST.out.2
          obtain ⟨gc, c3, e3, s1, s2, -⟩ := hng2 i xr j _ HX.out hy
          have E3 := Lib.hid e3
          rw [EC.out] at e3
          cases e3
          have hjI : (j : Int) < (xr.conj.length : Int) := by omega
          clear hng2 hy
          go_wp2_with fail
          go_roundw
          case rel => exact ⟨j + 1, by go_num, by omega, (HST.out.strike HX.out HY.out E3.out).imp (fun r k h => by
            rcases h with h | ⟨rfl, h⟩
            · exact .inl (.inl h)
            · by_cases e : k = j
              · exact .inr ⟨rfl, e⟩
              · exact .inl (.inr ⟨rfl, by omega⟩))⟩
          case measure => simp [intOf]; omega
        · have hje : j = xr.conj.length := by omega
          subst hje
          go_wp2_with fail
          go_roundw
          case rel =>
            refine ⟨i + 1, by go_num, by omega, HST.out.imp (fun r k h => ?_)⟩
            obtain ⟨h1, z, hz, hk⟩ := h
            by_cases e : r = i
            · subst e
              rw [HX.out] at hz
              injection hz with hz
              subst hz
              exact .inr ⟨rfl, hk⟩
            · exact .inl ⟨by omega, z, hz, hk⟩
          case measure => simp [intOf]; omega
    · have hie : i = G.rules.length := by omega
      subst hie
      have UE := HST.out.1
      have rC := MutSt.all M0.out HST.out (fun r k x hx hk => ⟨(List.getElem?_eq_some_iff.1 hx).1, x, hx, hk⟩)
      obtain ⟨A8, k8, e8, l1, l2, l3⟩ := (ON0.out.flat_upd flat_str UE (fun b hb h => by have := HRC.out b h; have := H4.out b hb; omega)).rd
      injection e8 with e8 _
      cases e8
      have X9 := Lib.hid ((UE.block b9 (blk_lt HL9.out) (fun h => by have := HRC.out b9 h; omega)).trans HL9.out)
      have HBE := Lib.hid (HB2.out.trans (UE.below HB2.out.size (fun b h => by have := HRC.out b h; omega)))
      have e2 : (posG G).rules.length = G.rules.length := by simp [posG]
      have cn := new_whole (w := wr) (posG G) W l1 l2 l3 (by rw [e2]; exact q1) q2 rC
      rw [e2] at cn
      have CN := Lib.hid cn
      have L3 := Lib.hid l3
      have R3 := Lib.hid rC
      have E2 := Lib.hid e2
      clear UE rC l3 cn e2 HST HL9 ON0 M0 HRC H4 HB2
      go_wp2_with fail
      refine CN.out.mono ?_
      clear CN
      rintro e w6 ⟨hb6, ⟨-, rfl⟩ | ⟨hmay, -, hW, t, fin, tL, tG, tW, rfl, tS, tR, tSol⟩⟩
      · have HB6 := Lib.hid (below_then HBE.out hb6)
        clear hb6 u0 u1 u2
        go_wp2_with (first
          | (go_at_call 15; refine (num_any _ _).mono ?_; rintro e w6 ⟨rfl, rfl⟩)
          | fail)
        go_ret
        exact ⟨rfl, below_then HB0.out HB6.out⟩
      · have T6 := Lib.hid (show Tab w6 t fin from ⟨tL, tS, tR, tSol⟩)
        have X6 := Lib.hid (blk_below X9.out hb6)
        have HB6 := Lib.hid (below_then HBE.out hb6)
        have L6 := Lib.hid (L3.out.mono hb6)
        have R6 := Lib.hid (R3.out.mono hb6)
        have TG := Lib.hid tG
        have TW := Lib.hid tW
        have F0 := Lib.hid tL.F
        have MAY := Lib.hid hmay
        have hK1 : 1 ≤ G.names.length := (mayG hmay).K1
        have hK64 : G.names.length ≤ 64 := (mayG hmay).K64
        have hR256 : G.rules.length ≤ 256 := by have := (mayG hmay).rules; rwa [E2.out] at this
        obtain ⟨m, hm⟩ : ∃ m, G.names.length = m + 1 := ⟨G.names.length - 1, by omega⟩
        have HM := Lib.hid hm
        have hkk : (G.names.length : Int) - 1 = (m : Int) := by omega
        have hz0 : ((G.names.length : Int) = 0) = False := eq_false (by omega)
        have z0 : w6.cell? ⟨b9, 0, none⟩ = some (.int .i64 G.start) := blk_cell X6.out 0
        have z1 : w6.cell? ⟨b9, 1, none⟩ = some (.slice An G.names.length kn) := blk_cell X6.out 1
        have z2 : w6.cell? ⟨b9, 2, none⟩ = some (.slice Ar G.rules.length kr) := blk_cell X6.out 2
        have cg := copyG_any (w := w6) (posG G) l1 l2 L6.out (by rw [E2.out]; exact q1) q2 R6.out (holdable_of (mayG hmay))
        rw [E2.out] at cg
        have CG := Lib.hid cg
        clear hb6 u0 u1 u2 cg tL tG tW tS tR tSol hmay X9 HBE L3 R3 hm L6 R6 X6
        go_wp2_with (first
          | (go_at_call 15; refine (num_any _ _).mono ?_; rintro e w6 ⟨rfl, rfl⟩)
          | (go_at_call 26; refine CG.out.mono ?_; rintro e w7 ⟨vn2, vr2, base2, B2, rfl, on2, or2, h12, h22, h32, h42, hb7⟩; obtain ⟨An2, kn2, rfl, p1, p2, p3⟩ := on2.shape; obtain ⟨Ar2, kr2, rfl, p4, p5, p6⟩ := or2.shape; have ON2 := Lib.hid on2; have OR2 := Lib.hid or2; have H42 := Lib.hid h42; have HB7 := Lib.hid hb7; have P3 := Lib.hid p3; clear on2 or2 h42 hb7 CG z0 z1 z2 p3 p6)
          | fail)
        have hl15 := heap_alloc_new w7 (Obj.cells #[.int .i64 (posG G).start, .slice An2 (posG G).names.length kn2, .slice Ar2 (posG G).rules.length kr2] 25)
        have h78 : Below w7.heap.size w7 (w7.alloc (Obj.cells #[.int .i64 (posG G).start, .slice An2 (posG G).names.length kn2, .slice Ar2 (posG G).rules.length kr2] 25)) := below_alloc' (below_refl _) _
        generalize w7.alloc (Obj.cells #[.int .i64 (posG G).start, .slice An2 (posG G).names.length kn2, .slice Ar2 (posG G).rules.length kr2] 25) = W8 at hl15 h78 ⊢
        have c2 : W8.cell? ⟨w7.heap.size, 2, none⟩ = some (.slice Ar2 (posG G).rules.length kr2) := blk_cell hl15 2
        have c2a : ∀ o, (W8.alloc o).cell? ⟨w7.heap.size, 2, none⟩ = some (.slice Ar2 (posG G).rules.length kr2) := fun o => below_cell (below_alloc' (below_refl _) o) c2
        have c2b : ∀ o o', ((W8.alloc o).alloc o').cell? ⟨w7.heap.size, 2, none⟩ = some (.slice Ar2 (posG G).rules.length kr2) := fun o o' => below_cell (below_alloc' (below_alloc' (below_refl _) o) o') c2
        have c2c : ∀ o o' o'', (((W8.alloc o).alloc o').alloc o'').cell? ⟨w7.heap.size, 2, none⟩ = some (.slice Ar2 (posG G).rules.length kr2) := fun o o' o'' => below_cell (below_alloc' (below_alloc' (below_alloc' (below_refl _) o) o') o'') c2
        obtain ⟨pa, hpa, hpa1⟩ := umod_nat x m
        obtain ⟨pb, hpb, hpb1⟩ := umod_nat y m
        have hum : IntKind.u64.wrap ((m : Int) + 1) = (m : Int) + 1 := by rw [u64_wrap]; omega
        have hwm : IntKind.i64.wrap ((m : Int) + 1) = (m : Int) + 1 := IntWalk.i64_in _ (by omega)
        have hwa : IntKind.i64.wrap (pa : Int) = (pa : Int) := IntWalk.i64_in _ (by omega)
        have hwb : IntKind.i64.wrap (pb : Int) = (pb : Int) := IntWalk.i64_in _ (by omega)
        have hzm : ((m : Int) + 1 = 0) = False := eq_false (by omega)
        have H78 := Lib.hid h78
        have HL15 := Lib.hid hl15
        have hrb : Hid (∀ b, (Value.slice Ar2 (posG G).rules.length kr2).ownBlock = some b → B2 ≤ b ∧ b < w7.heap.size) := fun b hb => OR2.out.base hb
        have hs78 : w7.heap.size < W8.heap.size := blk_lt hl15
        have OF := Lib.hid (own_free (Good := GoodM B2 (.slice Ar2 (posG G).rules.length kr2) w7 W8.heap.size pb pa) OR2.out (fun w' h => h.1))
        have hR2 : (posG G).rules.length ≤ 256 := by rw [E2.out]; exact hR256
        clear h78 hl15
        have HRR := Lib.hid (allocs_heap (more3 W8.heap.size m pb pa) W8)
        have HB79 : Hid (Below w7.heap.size w7 (allocs W8 (more3 W8.heap.size m pb pa)).drew) := below_drew' (below_then H78.out (allocs_below _ (below_refl _)))
        have hq8 : (allocs W8 (more3 W8.heap.size m pb pa)).drew.heap[w7.heap.size]? = some (.cells #[.int .i64 (posG G).start, .slice An2 (posG G).names.length kn2, .slice Ar2 (posG G).rules.length kr2] 25 (0, 0)) := (allocs_old _ _ _ hs78).trans HL15.out
        have Q8 := Lib.hid hq8
        have hs89 : W8.heap.size ≤ (allocs W8 (more3 W8.heap.size m pb pa)).drew.heap.size := (allocs_below (w := W8) (more3 W8.heap.size m pb pa) (below_refl _)).size
        clear hq8
        go_region_law
          (first
            | ((refine step_append_one (w := (allocs W8 (more3 W8.heap.size m pb pa)).drew) (d := freeRd rulRd (GoodM B2 (.slice Ar2 (posG G).rules.length kr2) w7 W8.heap.size pb pa)) (base := 0) (by rfl) _ _ 23 53 _ 32 (by rfl) Try.underlying23 infoRul (by rfl) (by show 0 < 2; decide) (v := (.slice Ar2 (posG G).rules.length kr2)) (xs := (posG G).rules) (by rfl) (OF.out.below HB79.out) (moreRule m pb pa) #[.int .i64 m, .slice (some ⟨W8.heap.size + 1, 0, none⟩) 1 1] (fun w' _ => ⟨rfl, by simp [Value.oneCell'], fun w'' g => more_K g⟩) (b := W8.heap.size + 2) (c := 1) (by rfl) (by exact HRR.out 2 _ rfl) (by omega) (by decide) (Nat.zero_le _) ?_); intro v9 w9 o9 g9 t9; obtain ⟨A9, k9, rfl, -, -, -⟩ := o9.shape; have q9 := blk_grown Q8.out g9 (fun e => by have := hrb.out _ e.symm; omega); have S9 : Hid (∀ j o, (moreObjs W8.heap.size pb pa)[j]? = some o → w9.heap[W8.heap.size + j]? = some o) := (fun j o ho => blk_grown (w := (allocs W8 (more3 W8.heap.size m pb pa)).drew) (show (allocs W8 (more3 W8.heap.size m pb pa)).drew.heap[W8.heap.size + j]? = some o from HRR.out j o (by match j, ho with | 0, ho => exact ho | 1, ho => exact ho | n + 2, ho => simp [moreObjs] at ho)) g9 (fun e => by have := hrb.out _ e.symm; omega)); have r0 := blk_cell q9 0; have r1 := blk_cell q9 1; have r2 := blk_cell q9 2; have f2 := blk_frozen q9 2; simp at r0 r1 r2; have hs9 : W8.heap.size ≤ w9.heap.size := (by have := g9.size; omega); have T9 : Hid (∀ q, (Value.slice A9 ((posG G).rules ++ [moreRule m pb pa]).length k9).ownBlock = some q → q ≠ w7.heap.size) := (fun q hq' => t9.elim (fun t => by rw [hq'] at t; have := hrb.out q t.symm; omega) (fun t => by rw [hq'] at t; injection t with t; omega)); have G9 := Lib.hid g9; have O9 := Lib.hid o9; clear o9 g9 t9 q9))
        all_goals
          clear c2 c2a c2b c2c hum hwm hwa hwb hzm hpa hpb hkk
          obtain ⟨WF, hWF⟩ : ∃ WF, WF = w9.setCell ⟨w7.heap.size, 2, none⟩ (.slice A9 ((posG G).rules.length + 1) k9) := ⟨_, rfl⟩
          rw [← hWF]
          have v0 : WF.cell? ⟨w7.heap.size, 0, none⟩ = some (.int .i64 (posG G).start) := by
            rw [hWF, World.cell?_setCell_other _ _ _ _ (fun e => by injection e with _ e; cases e)]; exact r0
          have v1 : WF.cell? ⟨w7.heap.size, 1, none⟩ = some (.slice An2 (posG G).names.length kn2) := by
            rw [hWF, World.cell?_setCell_other _ _ _ _ (fun e => by injection e with _ e; cases e)]; exact r1
          have v2 : WF.cell? ⟨w7.heap.size, 2, none⟩ = some (.slice A9 ((posG G).rules.length + 1) k9) := by
            rw [hWF]; exact World.cell?_setCell_same _ _ _ r2
          have U9 : Upd (fun b => b = w7.heap.size) w9 WF := by
            rw [hWF]; exact (Upd.refl (fun b => b = w7.heap.size) w9).setCell (p := ⟨w7.heap.size, 2, none⟩) rfl _
          have U79 : Upd (fun b => (Value.slice Ar2 (posG G).rules.length kr2).ownBlock = some b) w7 w9 := (Upd.of_below HB79.out).trans (Upd.of_grown G9.out)
          have U7F : Upd (fun b => (Value.slice Ar2 (posG G).rules.length kr2).ownBlock = some b ∨ b = w7.heap.size) w7 WF := (U79.mono (fun b h => .inl h)).trans (U9.mono (fun b h => .inr h))
          have hs67 := HB7.out.size
          have hBF : Below w6.heap.size w6 WF := HB7.out.trans (U7F.below hs67 (fun b h => by
            rcases h with h | rfl
            · have := hrb.out b h; omega
            · omega))
          have hgood : GoodM B2 (Value.slice Ar2 (posG G).rules.length kr2) w7 W8.heap.size pb pa WF := ⟨by
            rw [hWF]; exact (U79.mono (fun b h => .inr h)).setNew (p := ⟨w7.heap.size, 2, none⟩) (Nat.le_refl _) _, fun j o ho => by
            have h1 := S9.out j o ho
            exact (U9.block _ (blk_lt h1) (by omega)).trans h1⟩
          obtain ⟨A10, k10, e8, m1, m2, m3⟩ := (ON2.out.flat_upd flat_str U7F (fun b hb h => by
            have := H42.out b hb
            rcases h with h | rfl
            · have := hrb.out b h; omega
            · omega)).rd
          injection e8 with e8 _
          cases e8
          obtain ⟨A11, k11, e8, m4, m5, m6⟩ := (O9.out.flat_upd (flat_free _ _) U9 (fun b hb h => T9.out b hb h)).rd
          injection e8 with e8 _
          cases e8
          have cn := new_whole (w := WF) (addG (posG G) (moreRule m pb pa)) W m1 m2 m3 m4 m5 (C_free m6 hgood)
          have e1 : (addG (posG G) (moreRule m pb pa)).rules.length = (posG G).rules.length + 1 := by simp [addG]
          rw [e1] at cn
          have CN := Lib.hid cn
          have T8 := Lib.hid (T6.out.below hBF)
          have HB8 := Lib.hid (below_then HB6.out hBF)
          clear hWF U9 U79 U7F hBF hgood m1 m2 m3 m4 m5 m6 e1 cn T6 HB6 HB79 HRR Q8 S9 O9 G9 T9 ON2 OR2 OF H42 hrb HB7 H78 HL15 P3 r0 r1 r2 f2
          go_wp2_with fail
          clear v0 v1 v2
          refine CN.out.mono ?_
          clear CN
          rintro e w10 ⟨hb10, ⟨-, rfl⟩ | ⟨-, -, -, u, fin', uL, uG, uW, rfl, uS, uR, uSol⟩⟩
          · have HB10 := Lib.hid (below_then HB8.out hb10)
            clear hb10
            go_wp2_with (first
              | (go_at_call 15; refine (num_any _ _).mono ?_; rintro e w10 ⟨rfl, rfl⟩)
              | fail)
            go_ret
            exact ⟨rfl, below_then HB0.out HB10.out⟩
          · have U10 := Lib.hid (show Tab w10 u fin' from ⟨uL, uS, uR, uSol⟩)
            have T10 := Lib.hid (T8.out.below hb10)
            have HB10 := Lib.hid (below_then HB8.out hb10)
            have UG := Lib.hid uG
            have UW := Lib.hid uW
            have FU := Lib.hid uL.F
            clear hb10 uL uG uW uS uR uSol T8 HB8
            go_wp2_with (first
              | (go_at_call 15; refine (num_any _ _).mono ?_; rintro e w10 ⟨rfl, rfl⟩)
              | fail)
            go_loopw [18] (fun cnt wr => NumRel w10 (W.size + 1) cnt wr) (fun cnt _ => W.size + 1 - (intOf cnt).toNat)
            case atStart => exact ⟨0, rfl, Nat.zero_le _, below_refl _⟩
            case round =>
              obtain ⟨i, rfl, hi, hb⟩ := hrel
              have HB := Lib.hid hb
              clear hb
              by_cases hlt : i ≤ W.size
              · go_wp2_with fail
                go_loopw [19] (fun cnt wr' => TillRel w10 i W.size cnt wr') (fun cnt _ => W.size + 1 - (intOf cnt).toNat)
                case atStart => exact ⟨i, rfl, Nat.le_refl _, by omega, HB.out⟩
                case round =>
                  clear HB
                  obtain ⟨j, rfl, hij, hj, hb⟩ := hrel
                  have HB := Lib.hid hb
                  clear hb
                  by_cases hltj : j ≤ W.size
                  · go_wp2_with fail
                    go_loopw [20] (fun cnt wr' => NumRel w10 (m + 1) cnt wr') (fun cnt _ => m + 1 - (intOf cnt).toNat)
                    case atStart => exact ⟨0, rfl, Nat.zero_le _, HB.out⟩
                    case round =>
                      clear HB
                      obtain ⟨q, rfl, hq, hb⟩ := hrel
                      have HB5 := Lib.hid hb
                      have T5 := Lib.hid (T10.out.below hb)
                      have U5 := Lib.hid (U10.out.below hb)
                      clear hb
                      by_cases hltq : q ≤ m
                      · have hqb : q < 64 := by have := HM.out; omega
                        have hq1 := Lib.hid (show q + 1 ≤ m + 1 by omega)
                        have hq2 := Lib.hid (show m + 1 - (q + 1) < m + 1 - q by omega)
                        obtain ⟨R, hR⟩ : ∃ R, t.rank fin.1 q i j = R := ⟨_, rfl⟩
                        obtain ⟨RU, hRU⟩ : ∃ R, u.rank fin'.1 q i j = R := ⟨_, rfl⟩
                        have ans := more_ans T5.out U5.out (H := G) TG.out (by rw [UG.out, TG.out]) (by rw [UW.out, TW.out]) (m := q) (by unfold TS.K; rw [TG.out]; show q < G.names.length; rw [HM.out]; omega) (i := i) (j := j) (by omega) (by omega) (by rw [TW.out]; omega)
                        rw [hR, hRU] at ans
                        have HR := Lib.hid hR
                        have HRU := Lib.hid hRU
                        clear hR hRU
                        by_cases h0 : 0 < R
                        · have eT := Lib.hid (show decide (0 < R) = true by simpa using h0)
                          have eU := Lib.hid (show decide (0 < RU) = true by simpa using (ans h0).1)
                          have hgt : decide (R < RU) = false := by have := (ans h0).2; simpa using this
                          clear ans h0
                          go_wp2_with (first
                            | (go_at_call_of 16 (t.p); refine Calls.mono (has_any (t := t) (NM := fin.1) (PL := fin.2) (by exact (show Hid (Tab _ t fin) by assumption).out.st) F0.out (by exact (show Hid (Tab _ t fin) by assumption).out.rw) _ _ _) ?_; rintro e w5 ⟨rfl, hb5⟩; have T5 := Lib.hid ((show Hid (Tab _ t fin) by assumption).out.below hb5); have U5 := Lib.hid ((show Hid (Tab _ u fin') by assumption).out.below hb5); have HB5 := Lib.hid (below_then (show Hid (Below w10.heap.size w10 _) by assumption).out hb5); clear hb5; rw [HR.out, eT.out])
                            | (go_at_call_of 16 (u.p); refine Calls.mono (has_any (t := u) (NM := fin'.1) (PL := fin'.2) (by exact (show Hid (Tab _ u fin') by assumption).out.st) FU.out (by exact (show Hid (Tab _ u fin') by assumption).out.rw) _ _ _) ?_; rintro e w5 ⟨rfl, hb5⟩; have T5 := Lib.hid ((show Hid (Tab _ t fin) by assumption).out.below hb5); have U5 := Lib.hid ((show Hid (Tab _ u fin') by assumption).out.below hb5); have HB5 := Lib.hid (below_then (show Hid (Below w10.heap.size w10 _) by assumption).out hb5); clear hb5; rw [HRU.out, eU.out])
                            | (go_at_call_of 19 (t.p); refine Calls.mono (rank_any (t := t) (NM := fin.1) (PL := fin.2) (by exact (show Hid (Tab _ t fin) by assumption).out.st) F0.out (by exact (show Hid (Tab _ t fin) by assumption).out.rw) _ _ _) ?_; rintro e w5 ⟨rfl, hb5⟩; have T5 := Lib.hid ((show Hid (Tab _ t fin) by assumption).out.below hb5); have U5 := Lib.hid ((show Hid (Tab _ u fin') by assumption).out.below hb5); have HB5 := Lib.hid (below_then (show Hid (Below w10.heap.size w10 _) by assumption).out hb5); clear hb5; rw [HR.out])
                            | (go_at_call_of 19 (u.p); refine Calls.mono (rank_any (t := u) (NM := fin'.1) (PL := fin'.2) (by exact (show Hid (Tab _ u fin') by assumption).out.st) FU.out (by exact (show Hid (Tab _ u fin') by assumption).out.rw) _ _ _) ?_; rintro e w5 ⟨rfl, hb5⟩; have T5 := Lib.hid ((show Hid (Tab _ t fin) by assumption).out.below hb5); have U5 := Lib.hid ((show Hid (Tab _ u fin') by assumption).out.below hb5); have HB5 := Lib.hid (below_then (show Hid (Below w10.heap.size w10 _) by assumption).out hb5); clear hb5; rw [HRU.out])
                            | fail)
                          go_roundw
                          case rel => exact ⟨q + 1, by go_num, hq1.out, HB5.out⟩
                          case measure => first | exact hq2.out | (simpa [intOf] using hq2.out) | (have h := hq2.out; simp [intOf]; omega)
                        · have eT := Lib.hid (show decide (0 < R) = false by simpa using h0)
                          clear ans h0
                          go_wp2_with (first
                            | (go_at_call_of 16 (t.p); refine Calls.mono (has_any (t := t) (NM := fin.1) (PL := fin.2) (by exact (show Hid (Tab _ t fin) by assumption).out.st) F0.out (by exact (show Hid (Tab _ t fin) by assumption).out.rw) _ _ _) ?_; rintro e w5 ⟨rfl, hb5⟩; have T5 := Lib.hid ((show Hid (Tab _ t fin) by assumption).out.below hb5); have U5 := Lib.hid ((show Hid (Tab _ u fin') by assumption).out.below hb5); have HB5 := Lib.hid (below_then (show Hid (Below w10.heap.size w10 _) by assumption).out hb5); clear hb5; rw [HR.out, eT.out])
                            | fail)
                          go_roundw
                          case rel => exact ⟨q + 1, by go_num, hq1.out, HB5.out⟩
                          case measure => first | exact hq2.out | (simpa [intOf] using hq2.out) | (have h := hq2.out; simp [intOf]; omega)
                      · have hqe : q = m + 1 := by omega
                        subst hqe
                        go_wp2_with fail
                        go_roundw
                        case rel => exact ⟨j + 1, by go_num, by omega, by omega, HB5.out⟩
                        case measure => simp [intOf]; omega
                  · have hje : j = W.size + 1 := by omega
                    subst hje
                    go_wp2_with fail
                    go_roundw
                    case rel => exact ⟨i + 1, by go_num, by omega, HB.out⟩
                    case measure => simp [intOf]; omega
              · have hie : i = W.size + 1 := by omega
                subst hie
                go_wp2_with fail
                go_ret
                exact ⟨rfl, below_then HB0.out (below_then HB10.out HB.out)⟩
end Go.Proofs.Ytmccdakmdcdbeaa
