/-
  F5: slices.SortedFunc over the keys of a map of edges: a slice of all of them.
-/
import Derived.Test.YtmccdakmdcdbeaaF7
import Derived.Shelf.SlSortCmp.NoneTotal
set_option linter.unusedSimpArgs false
set_option linter.unusedVariables false
namespace Go.Proofs.Ytmccdakmdcdbeaa
open Go.RowKit Go.Sort Go.Maps Go.Shelf

theorem encE_len (xs : List Edg) : ∀ cs ∈ xs.map encE, cs.length = 3 := by
  intro cs h
  obtain ⟨e, -, rfl⟩ := List.mem_map.1 h
  rfl
theorem holdsK_block {w : World} {g : Nat} {cur : Array Value} {t : TypeId} {xs : List Edg} (hb : w.heap[g]? = some (.cells cur t (0, 0))) (ht : cur.toList.take (xs.length * 3) = encEs xs) : HoldsK encE 3 w g 0 xs.toArray := by
  intro j hj
  rw [size_flatK] at hj
  have hj' : j < xs.length * 3 := by simpa using hj
  refine ⟨?_, by simp [World.frozen?, hb]⟩
  rw [blk_cell hb, Nat.zero_add, get_flatK _ _ _ _ hj]
  have hi : j / 3 < xs.length := by omega
  have h1 : (xs.map encE)[j / 3]? = some (encE xs[j / 3]) := by simp [List.getElem?_eq_getElem hi]
  have hm : j % 3 < (encE xs[j / 3]).length := Nat.mod_lt _ (by omega)
  have h2 := flatten_get (encE_len xs) h1 (List.getElem?_eq_getElem hm)
  rw [show j / 3 * 3 + j % 3 = j by omega] at h2
  have h3 : (cur.toList.take (xs.length * 3))[j]? = (encEs xs)[j]? := by rw [ht]
  rw [List.getElem?_take_of_lt hj'] at h3
  rw [← Array.getElem?_toList, h3]
  show (encEs xs)[j]? = some (id _)
  unfold encEs
  rw [h2]
  have h4 : xs.toArray[j / 3]! = xs[j / 3] := by simp [hi]
  rw [h4, id, getElem!_pos (encE xs[j / 3]) (j % 3) hm]
theorem readE {w : World} {g : Nat} {d : Array Edg} (h : HoldsK encE 3 w g 0 d) : edgRd.C w (some ⟨g, 0, none⟩) d.toList := by
  intro i x hx
  have hi : i < d.size := by simpa using (List.getElem?_eq_some_iff.1 hx).1
  have hxi : d[i]! = x := by
    rw [getElem!_pos d i hi]
    have := (List.getElem?_eq_some_iff.1 hx).2
    simpa using this
  refine ⟨_, encE x, rfl, edgRd_mk w x, fun j u hu => ?_⟩
  have hj : j < 3 := by simpa [encE] using (List.getElem?_eq_some_iff.1 hu).1
  have h1 := (HoldsK.cell (enc := encE) (k := 3) h hi hj).1
  rw [add_plain, show edgRd.sz = 3 from rfl, ← Nat.add_assoc, h1, hxi]
  have hj' : j < (encE x).length := hj
  rw [getElem!_pos (encE x) j hj']
  exact congrArg some (List.getElem?_eq_some_iff.1 hu).2
theorem grownBy_sortK {w : World} {g n : Nat} {os : Array Obj} (d : Array Edg) : w.grownBy (sortWorldK encE 3 w g 0 n d os) (some g) := by
  unfold sortWorldK putRowK
  refine ⟨rfl, rfl, rfl, by simp, fun k hk hne => ?_⟩
  rw [heap_grow_old _ _ (by simpa using hk)]
  have : g ≠ k := fun e => hne (by rw [e])
  simp [putRow, mapBlock, Sort.ahead, Array.getElem?_modify, this]
theorem permIn_perm {d d' : Array Edg} (h : PermIn 0 d.size d d') : d'.toList.Perm d.toList := by
  obtain ⟨h1, -, h3⟩ := h
  have e1 : d.extract 0 d.size = d := by simp
  have e2 : d'.extract 0 d.size = d' := by rw [← h1]; simp
  rw [e1, e2] at h3
  exact h3
theorem sort_none (cap : Nat) (p : Option Addr) (fv : Value) (w : World) : Calls Try.prog 56 #[.slice p 0 cap, fv] w fun e w' => e = .returned (.tuple #[]) ∧ w' = w :=
  AnyF.slices_SortFunc_none sortEdge p cap fv w
set_option maxHeartbeats 1000000 in
theorem sortedFunc_any (Bm b : Nat) (L0 : List Edg) (hs : Small L0) (w : World) (hBm : Bm < w.heap.size) (hm : w.cell? ⟨Bm, 0, none⟩ = some (.map (some b))) (hown : EMap w b L0) (hl : L0.length ≤ 1000000) :
    Calls Try.prog 45 #[.func (.func 57) #[] #[.pointer (some ⟨Bm, 0, none⟩)], .func (.func 47) #[] #[]] w (SortedPost w L0) := by
  have CC := Lib.hid (collect_any Bm b L0 hs w hBm hm hown hl)
  clear hm hown
  go_enter Try.func45, Try.ntmps45
  go_wp2_with fail
  refine CC.out.mono ?_
  rintro e w1 ⟨v, xs, rfl, hS, hxl, hrow, hb⟩
  rcases hrow.2 with ⟨rfl, hz⟩ | ⟨gb, cap, cur, rfl, hbase, hgb, r1, r2, r3, r4⟩
  · have hss : xs = [] := List.eq_nil_of_length_eq_zero hz
    subst hss
    have HB := Lib.hid hb
    clear hb hrow
    go_wp2_with (go_at_call 56; refine (sort_none 0 none _ _).mono ?_; rintro e w' ⟨rfl, rfl⟩)
    go_ret
    exact ⟨none, 0, [], rfl, Rd.C.nil _ _ _, hS, by simp, HB.out⟩
  · have hH := holdsK_block hgb r4
    have hgl := blk_lt hgb
    have cS := Lib.hid (sort_any gb 0 cap xs.toArray w1 hH hgl (by simp; omega))
    rw [List.size_toArray] at cS
    have HB := Lib.hid hb
    have HH := Lib.hid hH
    clear hb hrow r4 hH hgb
    go_wp2_with (go_at_call 56; refine cS.out.mono ?_; rintro e w' ⟨rfl, d', nn, os, hp, hw⟩; have HP := Lib.hid hp; have HW := Lib.hid hw; clear hp hw)
    go_ret
    have hp := permIn_perm (d := xs.toArray) (d' := d') (by rw [List.size_toArray]; exact HP.out)
    have hlen : d'.toList.length = xs.length := by rw [hp.length_eq]
    have hds : d'.size = xs.length := by rw [← hlen]; simp
    refine ⟨some ⟨gb, 0, none⟩, cap, d'.toList, by rw [hlen]; rfl, ?_, fun x => by rw [hp.mem_iff]; simpa using hS x, by rw [hlen]; exact hxl, ?_⟩
    · rw [HW.out]
      exact readE (holdsK_sortWorldK_c encE 3 w1 gb 0 xs.toArray d' nn os HH.out hgl (by simp [hds]))
    · rw [HW.out]
      exact HB.out.grown (grownBy_sortK d') HB.out.size (fun j hj => by cases hj; exact hbase)
theorem edges_any {w : World} (G : Gram) {A A' : Option Addr} {c c' : Nat} (n1 : G.names.length ≤ c) (n2 : c ≤ 9223372036854775807) (n3 : Rd.str.C w A G.names) (n4 : G.rules.length ≤ c') (n5 : c' ≤ 9223372036854775807) (n6 : rulRd.C w A' G.rules) :
    Calls Try.prog 37 #[.agg #[.int .i64 G.start, .slice A G.names.length c, .slice A' G.rules.length c']] w (EdgesPost w G) :=
  edges_of G n1 n2 n3 n4 n5 n6 (fun Bm b L0 w hs hB hm ho hl => sortedFunc_any Bm b L0 hs w hB hm ho hl)
/-- strata.Strata whole. -/
theorem strata_whole {w : World} (G : Gram) {A A' : Option Addr} {c c' : Nat} (n1 : G.names.length ≤ c) (n2 : c ≤ 9223372036854775807) (n3 : Rd.str.C w A G.names) (n4 : G.rules.length ≤ c') (n5 : c' ≤ 9223372036854775807) (n6 : rulRd.C w A' G.rules) :
    Calls Try.prog 27 #[.agg #[.int .i64 G.start, .slice A G.names.length c, .slice A' G.rules.length c']] w (StrataPost w (RefG G) (GoodLev G)) :=
  strata_any G n1 n2 (fun w' hb => edges_any G n1 n2 (n3.mono hb) n4 n5 (n6.mono hb))
end Go.Proofs.Ytmccdakmdcdbeaa
