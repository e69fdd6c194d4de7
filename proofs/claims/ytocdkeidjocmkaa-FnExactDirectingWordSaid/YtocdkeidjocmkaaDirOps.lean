/- Operations on tuples, as a walk meets them. -/
import Derived.Test.YtocdkeidjocmkaaDirMem
namespace Go.Proofs.Ytocdkeidjocmkaa
set_option linter.unusedVariables false
set_option linter.unusedSimpArgs false
open Go.ChangeShapes Go.WideShapes Go.ChangeAt Go.RowKit

theorem wpList_value {P : Program} {ops : Array Oper} {rest : List Oper} {o : Oper} {a : Act} {w w' : World} {Q : Exit → Act → World → Prop} (hg : o.guard = none) (v : Value) (hrun : (execOp a.eval o).run P w = .ok (.value v) w')
    (h : wpList P ops Q rest (a.put o.dst v) w') : wpList P ops Q (o :: rest) a w :=
  wpList_plain hg fun K hK => by
    unfold Oper.wp
    rw [hrun]
    exact hK _ _ h
theorem wpList_skipU {P : Program} {ops : Array Oper} {rest : List Oper} {o : Oper} {a : Act} {w w' : World} {Q : Exit → Act → World → Prop} (hg : o.guard = none) (hrun : (execOp a.eval o).run P w = .ok .skip w')
    (h : wpList P ops Q rest (a.put o.dst undef) w') : wpList P ops Q (o :: rest) a w :=
  wpList_plain hg fun K hK => by
    unfold Oper.wp
    rw [hrun]
    exact hK _ _ h
section
variable {ops : Array Oper} {rest : List Oper} {o : Oper} {a : Act} {w : World} {Q : Exit → Act → World → Prop}
theorem wpList_buildT (hg : o.guard = none) (ho : o.op = .build 103 #[]) (h : wpList Try.prog ops Q rest (a.put o.dst (tupV [])) w) : wpList Try.prog ops Q (o :: rest) a w :=
  wpList_value hg _ (by
    have := run_build_tup w
    simp only [execOp, ho, List.map_toArray, List.map_nil, Sem.run_bind, Sem.run_pure, Result.andThen_ok, this]) h
theorem alloc_tup (w : World) : (Instr.alloc 103 true (.tuple #[])).run Try.prog w = .ok (.pointer (some ⟨w.heap.size, 0, none⟩)) (w.alloc (.cells (tupL []).toArray 103)) := by kernel_rfl
theorem wpList_allocT (hg : o.guard = none) (ho : o.op = .alloc 103) (h : wpList Try.prog ops Q rest (a.put o.dst (.pointer (some ⟨w.heap.size, 0, none⟩))) (w.alloc (.cells (tupL []).toArray 103))) : wpList Try.prog ops Q (o :: rest) a w :=
  wpList_value hg _ (by
    have := alloc_tup w
    simp only [execOp, ho, Sem.run_bind, Sem.run_pure, Result.andThen_ok, this]) h
theorem wpList_storeT (hg : o.guard = none) (x v : Operand) (ho : o.op = .store 103 x v) (z y : List Nat) (hx : a.eval x = .pointer (some ⟨w.heap.size, 0, none⟩)) (hv : a.eval v = tupV y) (h : wpList Try.prog ops Q rest (a.put o.dst undef) (w.alloc (.cells (tupL y).toArray 103))) :
    wpList Try.prog ops Q (o :: rest) a (w.alloc (.cells (tupL z).toArray 103)) :=
  wpList_skipU hg (by
    have := store_tup w y z
    simp only [execOp, ho, hx, hv, Sem.run_bind, Sem.run_pure, Result.andThen_ok, this]) h
theorem wpList_loadT (hg : o.guard = none) (x : Operand) (ho : o.op = .load 103 x) (b off : Nat) (y : List Nat) (hx : a.eval x = .pointer (some ⟨b, off, none⟩)) (hc : w.rangeAt b off (tupL y)) (h : wpList Try.prog ops Q rest (a.put o.dst (tupV y)) w) : wpList Try.prog ops Q (o :: rest) a w :=
  wpList_value hg _ (by
    have := load_tup hc
    simp only [execOp, ho, hx, Sem.run_bind, Sem.run_pure, Result.andThen_ok, this]) h
theorem wpList_litT (hg : o.guard = none) (x : Operand) (ho : o.op = .buildSlice 104 1 #[(0, x)]) (y : List Nat) (hx : a.eval x = tupV y) (h : wpList Try.prog ops Q rest (a.put o.dst (.slice (some ⟨w.heap.size, 0, none⟩) 1 1)) (w.alloc (.cells (tupL y).toArray 103))) : wpList Try.prog ops Q (o :: rest) a w :=
  wpList_value hg _ (by
    have := lit_tup w y
    simp only [execOp, ho, hx, List.map_toArray, List.map_cons, List.map_nil, Sem.run_bind, Sem.run_pure, Result.andThen_ok, this]) h
end
end Go.Proofs.Ytocdkeidjocmkaa
