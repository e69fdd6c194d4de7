/- strings.Split at one byte and strconv.ParseInt of ten, sixty-four, at this dump, over what the variables of the library hold. -/
import Derived.Test.YtfdacodbiodiaaaGreatDoorLayStr
import Derived.Test.YtfdacodbiodiaaaGreatDoorReadAll
import Derived.Test.YtfdacodbiodiaaaGreatDoorStrRows
namespace Go.Proofs.YtfdacodbiodiaaaGreatDoor
set_option linter.unusedVariables false
set_option linter.unusedSimpArgs false
open Go.ChangeShapes Go.WideShapes Go.ChangeAt Go.RowKit Go.Shelf

/-- the three variables of the library lie as they must -/
def Env (w : World) : Prop :=
  (∃ m : Int, w.cell? ⟨3, 0, none⟩ = some (.int .i64 m)) ∧ (∃ (t : TypeId) (p : Value), w.cell? ⟨0, 0, none⟩ = some (.iface t p)) ∧ (∃ (t : TypeId) (p : Value), w.cell? ⟨1, 0, none⟩ = some (.iface t p))
theorem Env.below {w w' : World} (h : Env w) (hb : Below w.heap.size w w') : Env w' := by
  obtain ⟨⟨m, hm⟩, ⟨t, p, hp⟩, ⟨t2, p2, hp2⟩⟩ := h
  exact ⟨⟨m, below_cell hb hm⟩, ⟨t, p, below_cell hb hp⟩, ⟨t2, p2, below_cell hb hp2⟩⟩

def SplitRet (ps : List (List UInt8)) (w : World) (e : Ending) (w' : World) : Prop :=
  ∃ bs : List ByteArray, bs.map (·.data.toList) = ps ∧ e = .returned (.slice (some ⟨w.heap.size, 0, none⟩) bs.length bs.length) ∧ w' = w.alloc (.cells (bs.map Value.string).toArray 9)
theorem split_any (s : ByteArray) (c : UInt8) (w : World) (E : Env w) (hs : s.size ≤ 1048576) :
    Calls Tryz.prog 28 #[.string s, .string ⟨#[c]⟩] w (SplitRet (cutL c s.data.toList) w) := by
  obtain ⟨m, hm⟩ := E.1
  have hlen := Lib.splitB_all ⟨#[c]⟩ (show 1 ≤ (⟨#[c]⟩ : ByteArray).size from Nat.le_refl 1) 0 _ s rfl
  refine (Any.strings_Split { Tryz.laysM146 with } Tryz.laysM146.i9 s ⟨#[c]⟩ m w (by omega) hm (Nat.le_refl 1)).mono ?_
  rintro e w' ⟨rfl, rfl⟩
  exact ⟨_, splitB_cut c ⟨#[c]⟩ s rfl, by rw [hlen], rfl⟩

def ParseRet (l : List UInt8) (w : World) (e : Ending) (w' : World) : Prop :=
  ∃ err : Value, e = .returned (.tuple #[.int .i64 (numL l), err]) ∧ (((∃ v, okL l = some v ∧ numL l = v ∧ celL l = v) ∧ err = .nilIface) ∨ ((okL l = none ∧ celL l = -1) ∧ ∃ (t : TypeId) (p : Nat), err = .iface t (.pointer (some ⟨p, 0, none⟩)))) ∧ Below w.heap.size w w'
theorem parse_any (s : ByteArray) (w : World) (E : Env w) (hs : s.size ≤ 1048576) :
    Calls Tryz.prog 24 #[.string s, .int .i64 10, .int .i64 64] w (ParseRet s.data.toList w) := by
  obtain ⟨_, ⟨t1, p1, h1⟩, ⟨t2, p2, h2⟩⟩ := E
  cases h : Lib.parseIntB 64 s.data.toList with
  | ok v =>
    refine (Any.strconv_ParseInt_10_at64_ok Tryz.laysC174 s (by omega) v h w).mono ?_
    rintro e w' ⟨rfl, hw⟩
    have hb : Below w.heap.size w w' := by
      rcases hw with rfl | ⟨t, rfl⟩
      · exact Below.refl _ _
      · exact Lib.bytesWorld_below _ _ _
    exact ⟨_, by simp [numL, h], .inl ⟨⟨v, by simp [okL, h], by simp [numL, h], by simp [celL, h]⟩, rfl⟩, hb⟩
  | range =>
    have e1 : numL s.data.toList = Lib.intSat 64 s.data.toList := by simp [numL, h]
    refine (Any.strconv_ParseInt_10_at64_range Tryz.laysC174 s (by omega) h (.iface t2 p2) w h2 (.inr ⟨_, _, rfl⟩)).mono ?_
    rintro e w' ⟨N, rfl, _, _, hb⟩
    refine ⟨_, by rw [e1], .inr ⟨⟨by simp [okL, h], by simp [celL, h]⟩, _, _, rfl⟩, hb⟩
  | _ =>
    have e1 : numL s.data.toList = 0 := by simp [numL, h]
    refine (Any.strconv_ParseInt_10_at64_syntax Tryz.laysC174 s (by omega) h (.iface t1 p1) w h1 (.inr ⟨_, _, rfl⟩)).mono ?_
    rintro e w' ⟨N, rfl, _, _, hb⟩
    refine ⟨_, by rw [e1], .inr ⟨⟨by simp [okL, h], by simp [celL, h]⟩, _, _, rfl⟩, hb⟩
end Go.Proofs.YtfdacodbiodiaaaGreatDoor
