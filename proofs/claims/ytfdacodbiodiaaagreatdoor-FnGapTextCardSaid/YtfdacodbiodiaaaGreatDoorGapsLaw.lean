/- GapsOf of both sides; eqGapS, markGapS, heldGapS of the law. -/
import Derived.Test.YtfdacodbiodiaaaGreatDoorGaps
import Derived.Deep.RegionHeld3
namespace Go.Proofs.YtfdacodbiodiaaaGreatDoor
set_option linter.unusedVariables false
set_option linter.unusedSimpArgs false
open Go.ChangeShapes Go.WideShapes Go.ChangeAt Go.RowKit

def gapZs (st : Int) (xss : List (List Int)) : List (Int × Int) := if validP st xss = true then gapsOf xss else []
def gapCd (st : Int) (xss : List (List Int)) : Int := if validP st xss = true then 0 else 1
theorem gapZs_len (st : Int) (xss : List (List Int)) : (gapZs st xss).length ≤ 40 := by
  unfold gapZs
  split
  · rename_i hv
    obtain ⟨n, hg⟩ := goodP_of hv
    exact gapsOf_len hg
  · simp


set_option maxRecDepth 100000 in
theorem implGapsOf_any (st : Int) (v : Value) (xss : List (List Int)) (w : World) (h1 : Rows2 w v xss) :
    Calls Tryz.prog 11 #[.agg #[.int .i64 st, v]] w (NewGaps2 (gapZs st xss) (gapCd st xss) w) := by
  obtain ⟨ao, m, c, rfl, HM⟩ := h1.shape
  obtain ⟨W1, hW1⟩ : ∃ W1, W1 = w.alloc (.cells #[.int .i64 st, .slice ao m c] 26) := ⟨_, rfl⟩
  have bx : Below w.heap.size w W1 := by rw [hW1]; exact below_alloc (Below.refl _ _) _
  have p0 : W1.cell? ⟨w.heap.size, 0, none⟩ = some (.int .i64 st) := by rw [hW1]; go_simp
  have p1 : W1.cell? ⟨w.heap.size, 1, none⟩ = some (.slice ao m c) := by rw [hW1]; go_simp
  have HOK := Lib.hid (validPart_any st _ xss W1 (h1.kept bx))
  cases hv : validP st xss
  · rw [show gapZs st xss = [] by simp [gapZs, hv], show gapCd st xss = 1 by simp [gapCd, hv]]
    rw [hv] at HOK
    subst hW1
    clear hv h1
    go_enter Tryz.func11, Tryz.ntmps11
    go_wp2_with fail
    refine HOK.out.mono ?_
    rintro e w2 ⟨rfl, hb⟩
    go_wp2
    go_ret2
    exact ⟨_, rfl, World.ownsRow_nil _ _ _ _, below_trans bx hb⟩
  · obtain ⟨n, hg⟩ := goodP_of hv
    rw [show gapZs st xss = gapsOf xss by simp [gapZs, hv], show gapCd st xss = 0 by simp [gapCd, hv]]
    rw [hv] at HOK
    have HGA := Lib.hid (fun W (hW : Below w.heap.size w W) => partGaps_any st _ xss n W (h1.kept hW) hg)
    generalize gapsOf xss = gs at HGA ⊢
    subst hW1
    clear hv h1 hg
    go_enter Tryz.func11, Tryz.ntmps11
    go_wp2_with fail
    refine HOK.out.mono ?_
    rintro e w2 ⟨rfl, hb⟩
    replace p0 := below_cell hb p0
    replace p1 := below_cell hb p1
    have bw2 := below_trans bx hb
    go_wp2_with fail
    refine (HGA.out _ bw2).mono ?_
    rintro e w3 ⟨vg, rfl, ho, hb3⟩
    have HO : Hid (w3.ownsRow w.heap.size 52 2 vg gs.length (gapVals gs)) := own_lo ho bw2.size
    have hbb := below_trans bw2 hb3
    clear ho hb hb3
    go_wp2
    go_ret2
    exact ⟨_, rfl, HO.out, hbb⟩

/-- the numbers of a list of gaps -/
structure GapsAt (w : World) (v : Value) (n : Nat) (zs : List Int) (ao : Option Addr) (b c : Nat) : Prop where
  val : v = .slice ao n c
  adr : 0 < n → ao = some ⟨b, 0, none⟩
  cell : ∀ j, j < 2 * n → w.cell? ⟨b, j, none⟩ = some (.int .i64 (zs.getD j 0))
theorem gaps_open {w : World} {lo n : Nat} {v : Value} {zs : List Int} (h : w.ownsRow lo 52 2 v n (zs.map (Value.int .i64))) : ∃ ao b c, GapsAt w v n zs ao b c := by
  have hl := h.1
  rw [List.length_map] at hl
  rcases h.2 with ⟨rfl, rfl⟩ | ⟨g, cap, cur, rfl, _⟩
  · exact ⟨none, 0, 0, rfl, by omega, fun j hj => by omega⟩
  · refine ⟨_, g, cap, rfl, fun _ => rfl, fun j hj => ?_⟩
    rw [h.cellAt j (by omega)]
    simp [List.getD_eq_getElem?_getD, show j < zs.length by omega]
/-- the index operation at gaps -/
theorem idx2_of {ao : Option Addr} {b n c : Nat} (ha : 0 < n → ao = some ⟨b, 0, none⟩) {k : Nat} (hk : k < n) (kd : IntKind) :
    ∀ w, (Instr.indexAt 38 (.slice ao n c) (.int kd (k : Int))).run Tryz.prog w = .ok (.pointer (some ⟨b, k * 2, none⟩)) w := by
  intro w
  obtain rfl := ha (by omega)
  have he : Tryz.prog.elem 38 = 52 := by simp [Program.elem, Tryz.underlying38]
  rw [run_indexAt_slice (P := Tryz.prog) w _ _ n c kd k (by rw [he]; exact Tryz.underlying38), if_pos (by omega), he, size2_gap]
  simp [Result.andThen, Addr.add_lit]



/-- the numbers are marked from k0 on -/
def MarkedG (v : Value) (lo hi n : Nat) (k0 : Int) (w : World) (e : Ending) (w' : World) : Prop :=
  e = .returned (.int .i64 (k0 + 2 * n)) ∧ w'.ownsRow lo 52 2 v n ((run k0 (2 * n)).map (Value.int .i64)) ∧ Chg lo hi w w'




end Go.Proofs.YtfdacodbiodiaaaGreatDoor
