/- RenumberingOf of the program: the closure find. -/
import Derived.Test.YtocdkeidjocmkaaRenForce
namespace Go.Proofs.Ytocdkeidjocmkaa
set_option linter.unusedVariables false
set_option linter.unusedSimpArgs false
open Go.ChangeShapes Go.WideShapes Go.ChangeAt Go.RowKit

def FindPost (w0 : World) (n m : Nat) (a b : List (List Int)) (o : List Int) (W : World) (e : Ending) (W' : World) : Prop :=
  ∃ (x : Option (List Int)) (v : Value), e = .returned v ∧ AnsP n m a b o x ∧ Below W.heap.size W W' ∧ (x = none → v = .slice none 0 0) ∧ (∀ r, x = some r → ∃ g c, v = .slice (some ⟨g, 0, none⟩) n c ∧ Ord w0 W' n g c r)
theorem neq_nil_yes : ∀ W, Sem.run Try.prog (binOp .neq 55 (.slice none 0 0) (.slice none 0 0)) W = .ok (.bool false) W := fun _ => by kernel_rfl
theorem neq_nil_no (g n c : Nat) : ∀ W, Sem.run Try.prog (binOp .neq 55 (.slice (some ⟨g, 0, none⟩) n c) (.slice none 0 0)) W = .ok (.bool true) W := fun _ => by kernel_rfl
theorem Ord.below {w0 W W' : World} {n g c : Nat} {o : List Int} (h : Ord w0 W n g c o) (hb : Below W.heap.size W W') : Ord w0 W' n g c o := own_below h hb

set_option maxRecDepth 100000 in
set_option maxHeartbeats 4000000 in
theorem find_any (w0 : World) (n m ba bb fc gc : Nat) (va vb : Value) (xss yss : List (List Int)) (HTA : TwoA w0 n m ba bb va vb xss yss) (hfc : w0.cell? ⟨fc, 0, none⟩ = some (.func (.func 60) #[] #[.pointer (some ⟨ba, 0, none⟩), .pointer (some ⟨fc, 0, none⟩), .pointer (some ⟨bb, 0, none⟩)]))
    (hgc : w0.cell? ⟨gc, 0, none⟩ = some (.func (.func 62) #[] #[.pointer (some ⟨ba, 0, none⟩), .pointer (some ⟨fc, 0, none⟩), .pointer (some ⟨gc, 0, none⟩)])) :
    ∀ d : Nat, ∀ (o : List Int) (g c : Nat) (W : World), freeN o ≤ d → PartP n o → ClosedP n m xss yss o → Below w0.heap.size w0 W → Ord w0 W n g c o →
    Calls Try.prog 62 #[.slice (some ⟨g, 0, none⟩) n c, .pointer (some ⟨ba, 0, none⟩), .pointer (some ⟨fc, 0, none⟩), .pointer (some ⟨gc, 0, none⟩)] W (FindPost w0 n m xss yss o W) := by
  intro d
  have hn10 := HTA.ga.hi
  induction d with
  | zero =>
    intro o g c W hd hp hcl hb ho
    have hall : ∀ i, i < n → 0 ≤ o.getD i 0 := by
      intro i hi
      apply Classical.byContradiction
      intro hn
      have hpos : 0 < freeN o := by
        unfold freeN
        exact List.countP_pos_iff.2 ⟨o.getD i 0, gmem (by rw [hp.len]; exact hi), decide_eq_true (show o.getD i 0 < 0 by omega)⟩
      omega
    have hno : (-1 : Int) ∉ o := by
      intro h
      obtain ⟨j, hj, e⟩ := gmem_iff.1 h
      have := hall j (by rw [← hp.len]; exact hj)
      omega
    have HI := Lib.hid (indexInts_any _ o (-1) W ho.reads)
    rw [placeZ_out hno] at HI
    have HF : Hid (AnsP n m xss yss o (some o)) := least_self (iso_of_closed hp hcl hall)
    have HO := Lib.hid ho
    clear hall hno ho hp hcl hd HTA hfc hgc
    go_enter Try.func62, Try.ntmps62
    go_wp2_with fail
    refine HI.out.mono ?_
    rintro e w1 ⟨rfl, rfl⟩
    go_wp2
    go_ret
    exact ⟨some o, _, rfl, HF.out, Below.refl _ _, fun h => (by cases h), fun r hr => (by cases hr; exact ⟨_, _, rfl, HO.out⟩)⟩
  | succ d ih =>
    intro o g c W hd hp hcl hb ho
    by_cases hin : (-1 : Int) ∈ o
    · obtain ⟨i, hi, hoi, hpl, hfirst⟩ := placeZ_in hin
      rw [hp.len] at hi
      have HI := Lib.hid (indexInts_any _ o (-1) W ho.reads)
      rw [hpl] at HI
      have hfr : o.getD i 0 < 0 := by omega
      have hbef : ∀ j, j < i → 0 ≤ o.getD j 0 := fun j hj => by
        have h1 := hfirst j hj
        have h2 := (hp.rng j (by omega)).1
        omega
      have HYES := Lib.hid (fun (s : Nat) (r : List Int) (hno : ∀ t, t < s → NoP n m xss yss (o.set i (t : Int))) (h : LeastP n m xss yss (o.set i (s : Int)) r) => AnsP.split_yes hp.len hi hfr hbef hno h)
      have HNONE := Lib.hid (fun (hno : ∀ t, t < n → NoP n m xss yss (o.set i (t : Int))) => NoP.split hp.len hi hfr hno)
      have HCLN := Lib.hid (fun W' (hO : Ord w0 W' n g c o) => cloneInts_any _ o W' hO.reads (by rw [hp.len]; omega))
      have HFORCE := Lib.hid (fun g' c' (s : Nat) W' (hs : s < n) h4 h5 => force_any w0 n m ba bb fc va vb xss yss HTA hfc g' c' (d + 1) o i s W' hd hp hi hs h4 h5)
      have HFAIL := Lib.hid (fun (s : Nat) q (h : Forced n m xss yss o i (s : Int) false q) => h.nop hp hi (show (0 : Int) ≤ (s : Int) by omega) hfr)
      have HOKA := Lib.hid (fun (s : Nat) q x (h : Forced n m xss yss o i (s : Int) true q) (ha : AnsP n m xss yss q x) => h.ans hp hi (show (0 : Int) ≤ (s : Int) by omega) hfr ha)
      have HREC := Lib.hid (fun (s : Nat) q g' c' W' (h : Forced n m xss yss o i (s : Int) true q) h4 h5 => ih q g' c' W' (by
          have he := (ext_set (p := q) hp.len hi (show (0 : Int) ≤ (s : Int) by omega) hfr).2 ⟨h.ext, (h.yes rfl).1⟩
          have := freeN_lt (o := o) (q := q) (i := i) (s := (s : Int)) (by rw [h.part.len, hp.len]) (by rw [hp.len]; exact hi) hfr (by omega) (by rw [hp.len]; exact he)
          omega) h.part (h.closed hp hcl HTA.bnd HTA.pos) h4 h5)
      have HLEN := Lib.hid hp.len
      have HO := Lib.hid ho
      have HT := Lib.hid HTA
      have HFC := Lib.hid hfc
      have HGC := Lib.hid hgc
      have p0 := below_cell hb HTA.a0
      have hny := neq_nil_yes
      have hnn := fun g c => neq_nil_no g n c
      clear ho hp hcl hd HTA hfc hgc ih hin hpl hfirst hfr hbef hoi
      go_enter Try.func62, Try.ntmps62
      go_wp2_with fail
      refine HI.out.mono ?_
      rintro e w1 ⟨rfl, rfl⟩
      go_wp2
      clear p0
      go_loopw [17] (fun i' wr => ∃ s : Nat, s ≤ n ∧ i' = .int .i64 s ∧ Hid (∀ t, t < s → NoP n m xss yss (o.set i (t : Int))) ∧ Below W.heap.size W wr) (fun i' _ => n - (intOf i').toNat)
      case atStart => exact ⟨0, Nat.zero_le _, rfl, fun j hj => absurd hj (by omega), Below.refl _ _⟩
      case round =>
        obtain ⟨s, hs, rfl, HN, hbr⟩ := hrel
        have hb0 : Below w0.heap.size w0 wr := hb.trans (hbr.mono hb.size)
        have HOW := Lib.hid (HO.out.below hbr)
        by_cases hlt : s < n
        · have HC := Lib.hid (HCLN.out wr HOW.out)
          have HNX : Hid (NoP n m xss yss (o.set i (s : Int)) → ∀ t, t < s + 1 → NoP n m xss yss (o.set i (t : Int))) := fun h t ht => by
            rcases Nat.lt_or_ge t s with h2 | h2
            · exact HN.out t h2
            · obtain rfl : t = s := by omega
              exact h
          go_wp2_with fail
          refine HC.out.mono ?_
          rintro e w2 ⟨v2, rfl, ho2, hb2⟩
          obtain ⟨g2, c2, rfl, _⟩ := own_some ho2 (by rw [HLEN.out]; omega)
          have hg2 := own_block (g := g2) ho2 rfl
          rw [HLEN.out] at ho2
          have hb02 : Below w0.heap.size w0 w2 := hb0.trans (hb2.mono hb0.size)
          have HO2 : Hid (Ord w0 w2 n g2 c2 o) := own_lo ho2 hb0.size
          have hfcc := below_cell hb02 HFC.out
          have hgcc := below_cell hb02 HGC.out
          have hbr2 : Below W.heap.size W w2 := below_trans hbr hb2
          have hwl := hbr.size
          have hw0l := hb0.size
          have HFO := Lib.hid (HFORCE.out g2 c2 s w2 hlt hb02 HO2.out)
          rw [HLEN.out]
          clear ho2 hb2 HC
          go_wp2_with fail
          refine HFO.out.mono ?_
          rintro e w5 ⟨ok, q, rfl, hf5, ho5, hc5⟩
          have hb25 := hc5.below (by omega)
          have hb05 : Below w0.heap.size w0 w5 := hb02.trans (hb25.mono (by omega))
          have hbr5 : Below W.heap.size W w5 := hbr2.trans (hb25.mono (by omega))
          have HO5 := Lib.hid ho5
          replace hgcc := below_cell hb05 HGC.out
          cases ok
          · have HNO := Lib.hid (HNX.out (HFAIL.out s q hf5))
            clear hf5 ho5 hc5 hb25
            go_wp2
            go_roundw
            case rel => exact ⟨s + 1, by omega, by go_num, HNO.out, hbr5⟩
            case measure => simp [intOf]; omega
          · have HF5 := Lib.hid hf5
            have HRC := Lib.hid (HREC.out s q g2 c2 w5 hf5 hb05 ho5)
            clear hf5 ho5 hc5 hb25
            go_wp2_with fail
            refine HRC.out.mono ?_
            rintro e w6 ⟨x, v6, rfl, ha, hb6, hx1, hx2⟩
            have hbr6 : Below W.heap.size W w6 := below_trans hbr5 hb6
            have hans := HOKA.out s q x HF5.out ha
            cases x with
            | none =>
              obtain rfl := hx1 rfl
              have HNO := Lib.hid (HNX.out hans)
              clear ha hx1 hx2 hans
              go_wp2
              go_roundw
              case rel => exact ⟨s + 1, by omega, by go_num, HNO.out, hbr6⟩
              case measure => simp [intOf]; omega
            | some r =>
              obtain ⟨g6, c6, rfl, ho6⟩ := hx2 r rfl
              have HL := Lib.hid (HYES.out s r HN.out hans)
              have HO6 := Lib.hid ho6
              clear ha hx1 hx2 hans ho6
              go_wp2
              go_ret
              exact ⟨some r, _, rfl, HL.out, hbr6, fun h => (by cases h), fun r' hr => (by cases hr; exact ⟨_, _, rfl, HO6.out⟩)⟩
        · have HL := Lib.hid (HNONE.out (fun t ht => HN.out t (by omega)))
          go_wp2
          go_ret
          exact ⟨none, _, rfl, HL.out, hbr, fun _ => rfl, fun r hr => (by cases hr)⟩
    · have hall : ∀ i, i < n → 0 ≤ o.getD i 0 := by
        intro i hi
        have h2 := (hp.rng i hi).1
        have h3 : o.getD i 0 ≠ -1 := fun e => hin (e ▸ gmem (by rw [hp.len]; exact hi))
        omega
      have HI := Lib.hid (indexInts_any _ o (-1) W ho.reads)
      rw [placeZ_out hin] at HI
      have HF : Hid (AnsP n m xss yss o (some o)) := least_self (iso_of_closed hp hcl hall)
      have HO := Lib.hid ho
      clear hall hin ho hp hcl hd HTA hfc hgc ih
      go_enter Try.func62, Try.ntmps62
      go_wp2_with fail
      refine HI.out.mono ?_
      rintro e w1 ⟨rfl, rfl⟩
      go_wp2
      go_ret
      exact ⟨some o, _, rfl, HF.out, Below.refl _ _, fun h => (by cases h), fun r hr => (by cases hr; exact ⟨_, _, rfl, HO.out⟩)⟩

end Go.Proofs.Ytocdkeidjocmkaa
