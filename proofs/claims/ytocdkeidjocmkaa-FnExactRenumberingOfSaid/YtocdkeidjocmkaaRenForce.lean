/- RenumberingOf of the program: the closures force and find. -/
import Derived.Test.YtocdkeidjocmkaaRenSpecB
import Derived.Test.YtocdkeidjocmkaaValid
import Derived.StillTailTactics
namespace Go.Proofs.Ytocdkeidjocmkaa
set_option linter.unusedVariables false
set_option linter.unusedSimpArgs false
open Go.ChangeShapes Go.WideShapes Go.ChangeAt Go.RowKit

def ForcePost (w0 : World) (n m : Nat) (a b : List (List Int)) (g c : Nat) (o : List Int) (i : Nat) (s : Int) (W : World) (e : Ending) (W' : World) : Prop :=
  ∃ ok o', e = .returned (.bool ok) ∧ Forced n m a b o i s ok o' ∧ Ord w0 W' n g c o' ∧ Chg g (g + 1) W W'
theorem Chg.storeAt {g : Nat} {w w1 : World} (h : Chg g (g + 1) w w1) (o : Nat) (u : Value) : Chg g (g + 1) w (w1.setCell ⟨g, o, none⟩ u) := by
  have h2 : Below g w1 (w1.setCell ⟨g, o, none⟩ u) := (Below.refl _ _).setCell (p := ⟨g, o, none⟩) (Nat.le_refl _) u
  refine ⟨h2.os.trans h.os, h2.tape.trans h.tape, h2.output.trans h.output, Nat.le_trans h.size h2.size, fun k hk ho => ?_⟩
  rw [← h.block k hk ho]
  exact Below.heap_setCell w1 ⟨g, o, none⟩ u k (by show k ≠ g; omega)
theorem Ord.block {w0 W : World} {n g c : Nat} {o : List Int} (h : Ord w0 W n g c o) : w0.heap.size ≤ g ∧ g < W.heap.size := own_block (g := g) h rfl
theorem Chg.belowAt {g : Nat} {w0 w w1 : World} (h : Chg g (g + 1) w w1) (hb : Below w0.heap.size w0 w) (hg : w0.heap.size ≤ g) (hg2 : g ≤ w.heap.size) : Below w0.heap.size w0 w1 := hb.trans ((h.below hg2).mono hg)

set_option maxRecDepth 100000 in
set_option maxHeartbeats 4000000 in
theorem force_any (w0 : World) (n m ba bb fc : Nat) (va vb : Value) (xss yss : List (List Int)) (HTA : TwoA w0 n m ba bb va vb xss yss) (hfc : w0.cell? ⟨fc, 0, none⟩ = some (.func (.func 60) #[] #[.pointer (some ⟨ba, 0, none⟩), .pointer (some ⟨fc, 0, none⟩), .pointer (some ⟨bb, 0, none⟩)])) (g c : Nat) :
    ∀ d : Nat, ∀ (o : List Int) (i s : Nat) (W : World), freeN o ≤ d → PartP n o → i < n → s < n → Below w0.heap.size w0 W → Ord w0 W n g c o →
    Calls Try.prog 60 #[.slice (some ⟨g, 0, none⟩) n c, .int .i64 i, .int .i64 s, .pointer (some ⟨ba, 0, none⟩), .pointer (some ⟨fc, 0, none⟩), .pointer (some ⟨bb, 0, none⟩)] W (ForcePost w0 n m xss yss g c o i s W) := by
  intro d
  induction d with
  | zero =>
    intro o i s W hd hp hi hs hb ho
    have hoi : 0 ≤ o.getD i 0 := by
      apply Classical.byContradiction
      intro hn
      have hpos : 0 < freeN o := by
        unfold freeN
        exact List.countP_pos_iff.2 ⟨o.getD i 0, gmem (by rw [hp.len]; exact hi), decide_eq_true (show o.getD i 0 < 0 by omega)⟩
      omega
    have HF := Lib.hid (Forced.told (m := m) (a := xss) (b := yss) (s := (s : Int)) hp hi (by omega) (.inl hoi))
    have e1 := ho.at hp.len hi
    have HO := Lib.hid ho
    obtain ⟨oi, hoe⟩ : ∃ oi, oi = o.getD i 0 := ⟨_, rfl⟩
    rw [← hoe] at e1 hoi HF
    have hdi : decide (oi ≥ 0) = true := decide_eq_true hoi
    have i1 := idx_of Try.underlying55 size1_int (ao := some ⟨g, 0, none⟩) (b := g) (o := 0) (n := n) (c := c) (fun _ => rfl) hi .i64
    rw [Nat.zero_add] at i1
    clear ho hp hoe HTA hd
    go_enter Try.func60, Try.ntmps60
    go_wp2
    go_ret
    exact ⟨_, o, rfl, HF.out, HO.out, Chg.refl _ _ _⟩
  | succ d ih =>
    intro o i s W hd hp hi hs hb ho
    have hgb := ho.block
    by_cases hoi : 0 ≤ o.getD i 0
    · have HF := Lib.hid (Forced.told (m := m) (a := xss) (b := yss) (s := (s : Int)) hp hi (by omega) (.inl hoi))
      have e1 := ho.at hp.len hi
      have HO := Lib.hid ho
      obtain ⟨oi, hoe⟩ : ∃ oi, oi = o.getD i 0 := ⟨_, rfl⟩
      rw [← hoe] at e1 hoi HF
      have hdi : decide (oi ≥ 0) = true := decide_eq_true hoi
      have i1 := idx_of Try.underlying55 size1_int (ao := some ⟨g, 0, none⟩) (b := g) (o := 0) (n := n) (c := c) (fun _ => rfl) hi .i64
      rw [Nat.zero_add] at i1
      clear ho hp hoe HTA hd ih
      go_enter Try.func60, Try.ntmps60
      go_wp2
      go_ret
      exact ⟨_, o, rfl, HF.out, HO.out, Chg.refl _ _ _⟩
    · have HH := Lib.hid (hasInts_any _ o (s : Int) W ho.reads)
      have e1 := ho.at hp.len hi
      have hfr : o.getD i 0 < 0 := by omega
      have HFR := Lib.hid hfr
      obtain ⟨oi, hoe⟩ : ∃ oi, oi = o.getD i 0 := ⟨_, rfl⟩
      have HOE := Lib.hid hoe
      rw [← hoe] at e1 hoi
      have hdi : decide (oi ≥ 0) = false := decide_eq_false hoi
      have i1 := idx_of Try.underlying55 size1_int (ao := some ⟨g, 0, none⟩) (b := g) (o := 0) (n := n) (c := c) (fun _ => rfl) hi .i64
      rw [Nat.zero_add] at i1
      have HO := Lib.hid ho
      have HP := Lib.hid hp
      by_cases hm : (s : Int) ∈ o
      · have HF := Lib.hid (Forced.told (m := m) (a := xss) (b := yss) (s := (s : Int)) hp hi (by omega) (.inr hm))
        rw [← hoe] at HF
        rw [decide_eq_true hm] at HH
        clear ho hp hoe HTA hd ih hm hfr
        go_enter Try.func60, Try.ntmps60
        go_wp2_with fail
        refine HH.out.mono ?_
        rintro e w1 ⟨rfl, rfl⟩
        go_wp2
        go_ret
        exact ⟨_, o, rfl, HF.out, HO.out, Chg.refl _ _ _⟩
      · rw [decide_eq_false hm] at HH
        have f1 : W.frozen? ⟨g, i, none⟩ = false := World.ownsRow.frozenAt ho i
        obtain ⟨W3, hW3⟩ : ∃ W3, W3 = W.setCell ⟨g, i, none⟩ (.int .i64 s) := ⟨_, rfl⟩
        have HO3 : Hid (Ord w0 W3 n g c (o.set i (s : Int))) := by unfold Hid; rw [hW3]; exact ho.store hp.len i s
        have HC3 : Hid (Chg g (g + 1) W W3) := by unfold Hid; rw [hW3]; exact (Chg.refl _ _ _).storeAt _ _
        have HS3 := Lib.hid (Forcing.start (m := m) (a := xss) (b := yss) hp hi (show (0 : Int) ≤ (s : Int) by omega) (by omega) hfr hm)
        have HIH := Lib.hid (fun q (l : Nat) (hf : Forcing n m xss yss o i (s : Int) l q) i' s' W' h1 h2 h3 h4 => ih q i' s' W' (by
            have := freeN_lt (o := o) (q := q) (i := i) (s := (s : Int)) (by rw [hf.part.len, hp.len]) (by rw [hp.len]; exact hi) hfr (by omega) (by rw [hp.len]; exact hf.ext)
            omega) hf.part h1 h2 h3 h4)
        have HT := Lib.hid HTA
        have hm3 : m ≤ 3 := by have := HTA.ga.len3; rw [HTA.la] at this; exact this
        have HFC := Lib.hid hfc
        clear ho hp hoe HTA hd ih hm hfr hfc
        go_enter Try.func60, Try.ntmps60
        go_wp2_with fail
        refine HH.out.mono ?_
        rintro e w1 ⟨rfl, rfl⟩
        have hb3 : Below w0.heap.size w0 W3 := HC3.out.belowAt hb hgb.1 (by omega)
        have p0 := below_cell hb3 HT.out.a1
        obtain ⟨ad, mA, cA, hvA, HMA⟩ := HT.out.ra.shape
        obtain rfl : mA = m := by rw [HMA.out]; exact HT.out.la
        rw [hvA] at p0
        have HVA := Lib.hid hvA
        clear hvA
        rw [hW3] at p0
        go_wp2
        rw [← hW3]
        clear p0 hW3 e1 f1
        go_loopw [34] (fun l wr => ∃ (k : Nat) (q : List Int), k ≤ mA ∧ l = .int .i64 k ∧ Hid (Forcing n mA xss yss o i (s : Int) k q) ∧ Hid (Ord w0 wr n g c q) ∧ Chg g (g + 1) W wr) (fun l _ => mA - (intOf l).toNat)
        case atStart => exact ⟨0, _, Nat.zero_le _, rfl, HS3.out, HO3.out, HC3.out⟩
        case round =>
          obtain ⟨k, q, hk, rfl, HQ, HOQ, hc⟩ := hrel
          have hbr : Below w0.heap.size w0 wr := hc.belowAt hb hgb.1 (by omega)
          by_cases hlt : k < mA
          · have q0 := below_cell hbr HT.out.a1
            have q1 := below_cell hbr HT.out.b1
            have q2 := below_cell hbr HFC.out
            obtain ⟨gb1, gb2, gb3, rb, ro, rc, hvB, e1, e2⟩ := rows_at HT.out.rb (x := k) (by rw [HT.out.lb]; exact hlt) (HT.out.gb.row (by rw [HT.out.lb]; exact hlt)) (by omega)
            rw [hvB, HT.out.lb] at q1
            replace e1 := below_cell hbr e1
            have e3 := below_cell hbr (e2 i hi)
            have hz := HT.out.gb.val (x := k) (s := i) (by rw [HT.out.lb]; exact hlt) hi
            obtain ⟨zb, hzb⟩ : ∃ zb : Nat, (yss.getD k []).getD i 0 = zb := ⟨((yss.getD k []).getD i 0).toNat, by omega⟩
            have hzbn : zb < n := by omega
            rw [hzb] at e3
            obtain ⟨ga1, ga2, ga3, sb, so, sc, hvA2, g1, g2⟩ := rows_at HT.out.ra (x := k) (by rw [HT.out.la]; exact hlt) (HT.out.ga.row (by rw [HT.out.la]; exact hlt)) (by omega)
            rw [hvA2, HT.out.la] at q0
            replace g1 := below_cell hbr g1
            have g3 := below_cell hbr (g2 s hs)
            have hy := HT.out.ga.val (x := k) (s := s) (by rw [HT.out.la]; exact hlt) hs
            obtain ⟨za, hza⟩ : ∃ za : Nat, (xss.getD k []).getD s 0 = za := ⟨((xss.getD k []).getD s 0).toNat, by omega⟩
            have hzan : za < n := by omega
            rw [hza] at g3
            have HREC := Lib.hid (HIH.out q k HQ.out zb za wr.drew hzbn hzan (hbr.drew) (HOQ.out))
            have j1 := idx_of Try.underlying22 size1_ints (ao := some ⟨gb1, gb2, none⟩) (b := gb1) (o := gb2) (n := mA) (c := gb3) (fun _ => rfl) hlt .i64
            have j2 := idx_of Try.underlying55 size1_int (ao := some ⟨rb, ro, none⟩) (b := rb) (o := ro) (n := n) (c := rc) (fun _ => rfl) hi .i64
            have j4 := idx_of Try.underlying22 size1_ints (ao := some ⟨ga1, ga2, none⟩) (b := ga1) (o := ga2) (n := mA) (c := ga3) (fun _ => rfl) hlt .i64
            have j5 := idx_of Try.underlying55 size1_int (ao := some ⟨sb, so, none⟩) (b := sb) (o := so) (n := n) (c := sc) (fun _ => rfl) hs .i64
            have hcd : Chg g (g + 1) W wr.drew := hc.drewN 1
            have HZB := Lib.hid hzb
            have HZA := Lib.hid hza
            clear hzb hza hvB hvA2 e2 g2 hz hy
            go_wp2
            go_still_tail 18, (by kernel_rfl)
            change wpList _ _ _ _ _ wr.drew
            generalize wr.drew = wd at HREC hcd ⊢
            clear q0 q1 q2 e1 e3 g1 g3 j1 j2 j4 j5
            go_wp2_with fail
            refine HREC.out.mono ?_
            rintro e w5 ⟨ok, q', rfl, hf5, ho5, hc5⟩
            have hcc : Chg g (g + 1) W w5 := hcd.trans hc5
            have HF5 := Lib.hid hf5
            have HO5 := Lib.hid ho5
            clear hf5 ho5 hc5
            cases ok
            · have HFIN : Hid (Forced n mA xss yss o i (s : Int) false q') := HQ.out.fail HP.out hi (by omega) HFR.out hlt (by
                rw [HZB.out, show (s : Int).toNat = s by omega, HZA.out]; exact HF5.out)
              go_wp2
              go_ret
              exact ⟨_, q', rfl, HFIN.out, HO5.out, hcc⟩
            · have HNX : Hid (Forcing n mA xss yss o i (s : Int) (k + 1) q') := HQ.out.next HP.out.len hi (by omega) hlt HT.out.bnd HT.out.pos (by omega) (by
                rw [HZB.out, show (s : Int).toNat = s by omega, HZA.out]; exact HF5.out)
              go_wp2
              go_roundw
              case rel => exact ⟨k + 1, q', by omega, by go_num, HNX.out, HO5.out, hcc⟩
              case measure => simp [intOf]; omega
          · obtain rfl : k = mA := by omega
            have HFIN := Lib.hid (HQ.out.done HP.out hi (by omega) HFR.out)
            go_wp2
            go_ret
            exact ⟨_, q, rfl, HFIN.out, HOQ.out, hc⟩

end Go.Proofs.Ytocdkeidjocmkaa
