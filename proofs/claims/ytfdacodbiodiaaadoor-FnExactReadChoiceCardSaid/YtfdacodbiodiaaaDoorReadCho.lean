/- PLAIN: the text of a choice, read back strictly and loosely. -/
import Derived.Test.YtfdacodbiodiaaaDoorReadLaw
namespace Go.Proofs.YtfdacodbiodiaaaDoor
set_option linter.unusedVariables false
set_option linter.unusedSimpArgs false

def choG : ByteArray := ⟨#[99, 104, 111, 105, 99, 101]⟩
def setG (zs : List Int) : ByteArray := if zs.length = 0 then ⟨#[46]⟩ else ⟨(joinL 44 (zs.map (fun z => (decG z).data.toList))).toArray⟩
/-- the reference's set -/
def setS (l : List UInt8) : Option (List Int) := if l = [46] then some [] else allS numS (cutL 44 l)
/-- the program's: the numbers that ParseInt takes -/
def okL (l : List UInt8) : Option Int := match Lib.parseIntB 64 l with
  | .ok v => some v
  | _ => none
def setL (l : List UInt8) : List Int := (cutL 44 l).filterMap okL

theorem dec_read2 : ∀ n : Fin 11, okL (decG (n.val : Int)).data.toList = some (n.val : Int) ∧ (44 : UInt8) ∉ (decG (n.val : Int)).data.toList ∧ (46 : UInt8) ∉ (decG (n.val : Int)).data.toList := by decide +kernel
structure NumOk2 (z : Int) : Prop extends NumOk z where
  o : okL (decG z).data.toList = some z
  c : (44 : UInt8) ∉ (decG z).data.toList
  d : (46 : UInt8) ∉ (decG z).data.toList
theorem num_ok2 {z : Int} (h0 : 0 ≤ z) (h1 : z ≤ 10) : NumOk2 z := by
  have h := num_ok h0 h1
  obtain ⟨n, rfl⟩ := fin_of h0 h1
  obtain ⟨a, b, c⟩ := dec_read2 n
  exact ⟨h, a, b, c⟩

theorem setG_data {zs : List Int} (h : zs ≠ []) : (setG zs).data.toList = joinL 44 (zs.map (fun z => (decG z).data.toList)) := by
  have : ¬ zs.length = 0 := fun e => h (List.length_eq_zero_iff.1 e)
  unfold setG; rw [if_neg this]

theorem filterMap_map {α β γ : Type} (f : α → Option β) (g : γ → α) (h : γ → β) : ∀ (zs : List γ), (∀ z ∈ zs, f (g z) = some (h z)) → (zs.map g).filterMap f = zs.map h
  | [], _ => rfl
  | z :: zs, e => by
    rw [List.map_cons, List.filterMap_cons_some (e z (List.mem_cons_self ..)), filterMap_map f g h zs (fun y hy => e y (List.mem_cons_of_mem _ hy))]; rfl

structure SetOk (zs : List Int) : Prop where
  s : setS (setG zs).data.toList = some zs
  l : setL (setG zs).data.toList = zs
  a : (10 : UInt8) ∉ (setG zs).data.toList
  b : (32 : UInt8) ∉ (setG zs).data.toList
theorem dot_set : SetOk [] := by
  have h : setS (setG []).data.toList = some [] ∧ setL (setG []).data.toList = [] ∧ (10 : UInt8) ∉ (setG []).data.toList ∧ (32 : UInt8) ∉ (setG []).data.toList := by decide +kernel
  exact ⟨h.1, h.2.1, h.2.2.1, h.2.2.2⟩
theorem set_ok {zs : List Int} (h : ∀ z ∈ zs, 0 ≤ z ∧ z ≤ 10) : SetOk zs := by
  by_cases hz : zs = []
  · rw [hz]; exact dot_set
  · have ok : ∀ z ∈ zs, NumOk2 z := fun z hz => num_ok2 (h z hz).1 (h z hz).2
    have free : ∀ (c : UInt8), c ≠ 44 → (∀ z ∈ zs, c ∉ (decG z).data.toList) → c ∉ joinL 44 (zs.map (fun z => (decG z).data.toList)) := by
      intro c hc hf
      refine joinL_free c 44 hc _ ?_
      intro p hp
      obtain ⟨z, hz', e⟩ := List.mem_map.1 hp
      rw [← e]; exact hf z hz'
    have hcut : cutL 44 (joinL 44 (zs.map (fun z => (decG z).data.toList))) = zs.map (fun z => (decG z).data.toList) := by
      refine cutL_joinL 44 _ (by simpa using hz) ?_
      intro p hp
      obtain ⟨z, hz', e⟩ := List.mem_map.1 hp
      rw [← e]; exact (ok z hz').c
    refine ⟨?_, ?_, ?_, ?_⟩
    · rw [setG_data hz]; unfold setS
      rw [if_neg, hcut, allS_map numS (fun z => (decG z).data.toList) id zs (fun z hz => (ok z hz).s), List.map_id]
      intro e
      exact free 46 (by decide) (fun z hz => (ok z hz).d) (by rw [e]; simp)
    · rw [setG_data hz]; unfold setL
      rw [hcut, filterMap_map okL (fun z => (decG z).data.toList) id zs (fun z hz => (ok z hz).o), List.map_id]
    · rw [setG_data hz]; exact free 10 (by decide) (fun z hz => (ok z hz).a)
    · rw [setG_data hz]; exact free 32 (by decide) (fun z hz => (ok z hz).b)

def choS (t : List UInt8) : Option (Int × List (List (List Int))) := match linesS choG.data.toList t with
  | none => none
  | some (a, ws) => match allS (fun w => allS setS (w.drop 1)) ws with
    | none => none
    | some xss => some (a, xss)
def choL (t : List UInt8) : Int × List (List (List Int)) := ((linesL t).1, (linesL t).2.map (fun w => w.map setL))

/-- CHOICES: a good table's text is read back, strictly and loosely. -/
theorem cho_read (st : Int) (xss : List (List (List Int))) (hs0 : 0 ≤ st) (hs1 : st ≤ 10) (hx : xss.length ≤ 10) (hc : ∀ r ∈ xss, ∀ s ∈ r, ∀ z ∈ s, 0 ≤ z ∧ z ≤ 10) :
    choS (rowsG setG (lineG decG choG [st, xss.length]) letG xss).data.toList = some (st, xss)
    ∧ choL (rowsG setG (lineG decG choG [st, xss.length]) letG xss).data.toList = (st, xss) := by
  have ok : ∀ r ∈ xss, ∀ z ∈ r, SetOk z := fun r hr z hz => set_ok (hc r hr z hz)
  obtain ⟨h1, h2⟩ := table_read setG choG st xss hs0 hs1 hx (by decide +kernel) (by decide +kernel) (fun r hr z hz => (ok r hr z hz).a) (fun r hr z hz => (ok r hr z hz).b)
  refine ⟨?_, ?_⟩
  · unfold choS
    rw [h1]
    simp only []
    rw [allS_map (fun w : List (List UInt8) => allS setS (w.drop 1)) (wordsG setG letG) id xss (by
      intro r hr
      show allS setS (r.map (fun z => (setG z).data.toList)) = _
      rw [allS_map setS (fun z => (setG z).data.toList) id r (fun z hz => (ok r hr z hz).s), List.map_id]; rfl)]
    simp
  · unfold choL
    rw [h2]
    refine Prod.ext rfl ?_
    show (xss.map (fun r => r.map (fun z => (setG z).data.toList))).map (fun w => w.map setL) = xss
    rw [List.map_map]
    conv => rhs; rw [← List.map_id xss]
    refine List.map_congr_left (fun r hr => ?_)
    show (r.map (fun z => (setG z).data.toList)).map setL = r
    rw [List.map_map]
    conv => rhs; rw [← List.map_id r]
    exact List.map_congr_left (fun z hz => (ok r hr z hz).l)
end Go.Proofs.YtfdacodbiodiaaaDoor
