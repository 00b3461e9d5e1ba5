/-
  U1: a region that draws its order and whose operations and callees leave all that stood alone: one walk, in the order of the text. No program in sight.
-/
import Derived.Test.YtbidpeggdhkahaaA1
import Derived.BigQuiet
set_option linter.unusedSimpArgs false
set_option linter.unusedVariables false
namespace Go.Proofs.Ytbidpeggdhkahaa
open Go.RowKit

/-- The walk of the text's order, behind a wall: nothing looks into it. -/
structure WQ (P : Program) (ops : Array Oper) (C : World → Prop) (Q : Act → Prop) (l : List Oper) (a : Act) : Prop where
  out : wpQuiet P ops C Q l a
section
variable {P : Program} {ops : Array Oper} {C : World → Prop} {Q : Act → Prop} {a : Act} {o : Oper} {rest : List Oper}
theorem qv_skip (hw : Region.wanted o (yielded ops a.tmps) = false) (h : WQ P ops C Q rest (a.put o.dst undef)) : WQ P ops C Q (o :: rest) a := ⟨BigFrame.wpQuiet_skip hw h.out⟩
theorem qv_val {v : Value} (hw : Region.wanted o (yielded ops a.tmps) = true) (h : ∀ w, C w → (execOp a.eval o).run P w = .ok (.value v) w) (hk : WQ P ops C Q rest (a.put o.dst v)) : WQ P ops C Q (o :: rest) a :=
  ⟨BigFrame.wpQuiet_want hw fun K hK => ⟨v, fun w hC => by unfold Oper.quietAt; rw [h w hC]; exact ⟨rfl, rfl⟩, hK _ hk.out⟩⟩
theorem qv_call {f : FuncId} {args : Array Value} {v : Value} (hw : Region.wanted o (yielded ops a.tmps) = true) (h : ∀ w, C w → (execOp a.eval o).run P w = .ok (.enter f args) w)
    (hc : ∀ w, C w → Calls P f args w fun e w'' => e = .returned v ∧ C w'') (hk : WQ P ops C Q rest (a.put o.dst v)) : WQ P ops C Q (o :: rest) a :=
  ⟨BigFrame.wpQuiet_want hw fun K hK => ⟨v, fun w hC => by unfold Oper.quietAt; rw [h w hC]; exact ⟨rfl, hc w hC⟩, hK _ hk.out⟩⟩
theorem qv_val' (hw : Region.wanted o (yielded ops a.tmps) = true) (h : ∃ v, (∀ w, C w → (execOp a.eval o).run P w = .ok (.value v) w) ∧ WQ P ops C Q rest (a.put o.dst v)) : WQ P ops C Q (o :: rest) a :=
  let ⟨_, h1, h2⟩ := h
  qv_val hw h1 h2
theorem qv_call' (hw : Region.wanted o (yielded ops a.tmps) = true) (h : ∃ f args v, (∀ w, C w → (execOp a.eval o).run P w = .ok (.enter f args) w) ∧ (∀ w, C w → Calls P f args w fun e w'' => e = .returned v ∧ C w'') ∧ WQ P ops C Q rest (a.put o.dst v)) : WQ P ops C Q (o :: rest) a :=
  let ⟨_, _, _, h1, h2, h3⟩ := h
  qv_call hw h1 h2 h3
theorem qv_nil (h : Q a) : WQ P ops C Q [] a := ⟨wpQuiet_nil h⟩
end

/-- The class: all that stood when the region began is as it was. -/
theorem wp_region_below {P : Program} {id : Nat} {Q : Exit → Act → World → Prop} {a : Act} {w : World} {l : List Oper} (hm : P.follows .mixedOrders = true) (hB : Region.lexB .any l.toArray = true)
    (h : WQ P l.toArray (fun w' => Below w.heap.size w w') (fun a' => ∀ w', Below w.heap.size w w' → Q .normal a' w') l a) : (Code.region id l.toArray true).wp P Q a w :=
  wp_region_quiet (C := fun w' => Below w.heap.size w w') hm hB (Below.refl _ _).drew (by simpa using h.out)
theorem calls_in {P : Program} {f : FuncId} {args : Array Value} {w w5 : World} {v : Value} (hC : Below w.heap.size w w5) (h : Calls P f args w5 fun e w' => e = .returned v ∧ Below w5.heap.size w5 w') :
    Calls P f args w5 fun e w'' => e = .returned v ∧ Below w.heap.size w w'' := h.mono fun _ _ ⟨he, hb⟩ => ⟨he, below_then hC hb⟩
theorem calls_same {P : Program} {f : FuncId} {args : Array Value} {w w5 : World} {v : Value} (hC : Below w.heap.size w w5) (h : Calls P f args w5 fun e w' => e = .returned v ∧ w' = w5) :
    Calls P f args w5 fun e w'' => e = .returned v ∧ Below w.heap.size w w'' := h.mono fun _ _ ⟨he, hb⟩ => ⟨he, by rw [hb]; exact hC⟩
end Go.Proofs.Ytbidpeggdhkahaa
