/- PLAIN: the text of a table, read back: strictly (the reference) and loosely (the program). Partial automata. -/
import Derived.Test.YtfdacodbiodiaaaDoorCutLine
import Derived.Lib.ParseIntB
namespace Go.Proofs.YtfdacodbiodiaaaDoor
set_option linter.unusedVariables false
set_option linter.unusedSimpArgs false

def decG (z : Int) : ByteArray := if z < 10 then ⟨#[UInt8.ofNat (48 + z.toNat)]⟩ else ⟨#[49, 48]⟩
def celG (z : Int) : ByteArray := if z < 0 then ⟨#[46]⟩ else decG z
def parG : ByteArray := ⟨#[112, 97, 114, 116, 105, 97, 108]⟩
def autG : ByteArray := ⟨#[97, 117, 116, 111, 109, 97, 116, 111, 110]⟩
def letG : ByteArray := ⟨#[108, 101, 116, 116, 101, 114]⟩

/-- the reference's number -/
def digS (n : Int) : List UInt8 → Option Int
  | [] => some n
  | c :: r => if c < 48 ∨ 57 < c then none else digS (n * 10 + ((c.toNat - 48 : Nat) : Int)) r
def numS (l : List UInt8) : Option Int := if l.length < 1 ∨ 9 < l.length ∨ (l.head? = some 48 ∧ 1 < l.length) then none else digS 0 l
/-- the program's number: ParseInt's, whatever the error -/
def numL (l : List UInt8) : Int := match Lib.parseIntB 64 l with
  | .ok v => v
  | .range => Lib.intSat 64 l
  | _ => 0
/-- the reference's cell of a partial automaton -/
def celS (l : List UInt8) : Option Int := if l = [46] then some (-1) else numS l
/-- the program's -/
def celL (l : List UInt8) : Int := match Lib.parseIntB 64 l with
  | .ok v => v
  | _ => -1

theorem dec_read : ∀ n : Fin 11, numS (decG (n.val : Int)).data.toList = some (n.val : Int) ∧ numL (decG (n.val : Int)).data.toList = (n.val : Int)
    ∧ celS (celG (n.val : Int)).data.toList = some (n.val : Int) ∧ celL (celG (n.val : Int)).data.toList = (n.val : Int)
    ∧ (10 : UInt8) ∉ (decG (n.val : Int)).data.toList ∧ (32 : UInt8) ∉ (decG (n.val : Int)).data.toList
    ∧ (10 : UInt8) ∉ (celG (n.val : Int)).data.toList ∧ (32 : UInt8) ∉ (celG (n.val : Int)).data.toList := by decide +kernel
theorem dot_read : celS (celG (-1)).data.toList = some (-1) ∧ celL (celG (-1)).data.toList = -1 ∧ (10 : UInt8) ∉ (celG (-1)).data.toList ∧ (32 : UInt8) ∉ (celG (-1)).data.toList := by decide +kernel

theorem fin_of {z : Int} (h0 : 0 ≤ z) (h1 : z ≤ 10) : ∃ n : Fin 11, z = (n.val : Int) := ⟨⟨z.toNat, by omega⟩, by show z = ((z.toNat : Nat) : Int); omega⟩

structure NumOk (z : Int) : Prop where
  s : numS (decG z).data.toList = some z
  l : numL (decG z).data.toList = z
  a : (10 : UInt8) ∉ (decG z).data.toList
  b : (32 : UInt8) ∉ (decG z).data.toList
theorem num_ok {z : Int} (h0 : 0 ≤ z) (h1 : z ≤ 10) : NumOk z := by
  obtain ⟨n, rfl⟩ := fin_of h0 h1
  obtain ⟨a, b, c, d, e, f, g, h⟩ := dec_read n
  exact ⟨a, b, e, f⟩
structure CelOk (z : Int) : Prop where
  s : celS (celG z).data.toList = some z
  l : celL (celG z).data.toList = z
  a : (10 : UInt8) ∉ (celG z).data.toList
  b : (32 : UInt8) ∉ (celG z).data.toList
theorem cel_ok {z : Int} (h0 : -1 ≤ z) (h1 : z ≤ 10) : CelOk z := by
  by_cases hz : z < 0
  · have : z = -1 := by omega
    subst this
    obtain ⟨a, b, c, d⟩ := dot_read
    exact ⟨a, b, c, d⟩
  · obtain ⟨n, rfl⟩ := fin_of (by omega) h1
    obtain ⟨a, b, c, d, e, f, g, h⟩ := dec_read n
    exact ⟨c, d, g, h⟩

/-- all of a list, or nothing -/
def allS {α β : Type} (f : α → Option β) : List α → Option (List β)
  | [] => some []
  | x :: xs => match f x with
    | none => none
    | some y => match allS f xs with
      | none => none
      | some ys => some (y :: ys)
theorem allS_map {α β γ : Type} (f : α → Option β) (g : γ → α) (h : γ → β) : ∀ (zs : List γ), (∀ z ∈ zs, f (g z) = some (h z)) → allS f (zs.map g) = some (zs.map h)
  | [], _ => rfl
  | z :: zs, e => by
    rw [List.map_cons, allS, e z (List.mem_cons_self ..)]
    simp only []
    rw [allS_map f g h zs (fun y hy => e y (List.mem_cons_of_mem _ hy))]; rfl

/-- THE REFERENCE's lines: the first number and the words of the lines between the first and the last. -/
def linesS (name : List UInt8) (t : List UInt8) : Option (Int × List (List (List UInt8))) :=
  match allS numS ((cutL 32 ((cutL 10 t).headD [])).drop 1) with
  | some [a, b] =>
    if (cutL 32 ((cutL 10 t).headD [])).headD [] = name ∧ b = ((cutL 10 t).length : Int) - 2
      ∧ ∀ x ∈ (((cutL 10 t).drop 1).dropLast).map (cutL 32), x.headD [] = letG.data.toList then some (a, (((cutL 10 t).drop 1).dropLast).map (cutL 32)) else none
  | _ => none
/-- THE PROGRAM's lines: the first number or 0, and the words behind the first of each line that is not empty. -/
def linesL (t : List UInt8) : Int × List (List (List UInt8)) :=
  ((((cutL 32 ((cutL 10 t).headD [])).drop 1).map numL).headD 0, (((cutL 10 t).drop 1).filter (fun l => decide (l ≠ []))).map (fun l => (cutL 32 l).drop 1))

def partS (t : List UInt8) : Option (Int × List (List Int)) := match linesS parG.data.toList t with
  | none => none
  | some (a, ws) => match allS (fun w => allS celS (w.drop 1)) ws with
    | none => none
    | some xss => some (a, xss)
def partL (t : List UInt8) : Int × List (List Int) := ((linesL t).1, (linesL t).2.map (fun w => w.map celL))

/-- the table's text cut, in both readings -/
theorem table_read {α : Type} (cel : α → ByteArray) (name : ByteArray) (st : Int) (xss : List (List α))
    (hs0 : 0 ≤ st) (hs1 : st ≤ 10) (hx : xss.length ≤ 10) (h10 : (10 : UInt8) ∉ name.data.toList) (h32 : (32 : UInt8) ∉ name.data.toList)
    (hc10 : ∀ r ∈ xss, ∀ z ∈ r, (10 : UInt8) ∉ (cel z).data.toList) (hc32 : ∀ r ∈ xss, ∀ z ∈ r, (32 : UInt8) ∉ (cel z).data.toList) :
    linesS name.data.toList (rowsG cel (lineG decG name [st, xss.length]) letG xss).data.toList = some (st, xss.map (wordsG cel letG))
    ∧ linesL (rowsG cel (lineG decG name [st, xss.length]) letG xss).data.toList = (st, xss.map (fun r => r.map (fun z => (cel z).data.toList))) := by
  have o1 := num_ok hs0 hs1
  have o2 := num_ok (z := (xss.length : Int)) (by omega) (by omega)
  have hcut := table_cut decG cel name letG [st, (xss.length : Int)] xss h10 (by decide +kernel)
    (by intro z hz; rcases List.mem_cons.1 hz with e | e
        · rw [e]; exact o1.a
        · have : z = (xss.length : Int) := by simpa using e
          rw [this]; exact o2.a) hc10
  have hhead : cutL 32 (joinL 32 (wordsG decG name [st, (xss.length : Int)])) = wordsG decG name [st, (xss.length : Int)] :=
    line_cut decG name _ h32 (by
      intro z hz; rcases List.mem_cons.1 hz with e | e
      · rw [e]; exact o1.b
      · have : z = (xss.length : Int) := by simpa using e
        rw [this]; exact o2.b)
  have hrow : ∀ r ∈ xss, cutL 32 (joinL 32 (wordsG cel letG r)) = wordsG cel letG r := fun r hr => line_cut cel letG r (by decide +kernel) (hc32 r hr)
  have hmid : ((xss.map (fun r => joinL 32 (wordsG cel letG r))).map (cutL 32)) = xss.map (wordsG cel letG) := by
    rw [List.map_map]
    exact List.map_congr_left (fun r hr => hrow r hr)
  refine ⟨?_, ?_⟩
  · unfold linesS
    rw [hcut, List.headD_cons, hhead]
    have e1 : allS numS ((wordsG decG name [st, (xss.length : Int)]).drop 1) = some [st, (xss.length : Int)] := by
      show allS numS ([st, (xss.length : Int)].map (fun z => (decG z).data.toList)) = _
      rw [allS_map numS (fun z => (decG z).data.toList) id [st, (xss.length : Int)] (by
        intro z hz; rcases List.mem_cons.1 hz with e | e
        · rw [e]; exact o1.s
        · have : z = (xss.length : Int) := by simpa using e
          rw [this]; exact o2.s)]
      rfl
    rw [e1]
    simp only [List.drop_succ_cons, List.drop_zero, List.dropLast_concat]
    rw [hmid, if_pos]
    refine ⟨rfl, ?_, ?_⟩
    · simp; omega
    · intro x hx
      obtain ⟨r, hr, er⟩ := List.mem_map.1 hx
      rw [← er]; rfl
  · unfold linesL
    rw [hcut, List.headD_cons, hhead]
    simp only [List.drop_succ_cons, List.drop_zero]
    refine Prod.ext ?_ ?_
    · show ([st, (xss.length : Int)].map (fun z => numL (decG z).data.toList)).headD 0 = st
      show numL (decG st).data.toList = st
      exact o1.l
    · show ((xss.map (fun r => joinL 32 (wordsG cel letG r)) ++ [[]]).filter (fun l => decide (l ≠ []))).map (fun l => (cutL 32 l).drop 1) = _
      have hne : ∀ l ∈ xss.map (fun r => joinL 32 (wordsG cel letG r)), decide (l ≠ []) = true := by
        intro l hl
        obtain ⟨r, hr, er⟩ := List.mem_map.1 hl
        rw [← er]
        cases r with
        | nil => simp [wordsG, joinL, letG]
        | cons z zs => simp [wordsG, joinL, letG]
      rw [List.filter_append, List.filter_eq_self.2 hne]
      rw [show [([] : List UInt8)].filter (fun l => decide (l ≠ [])) = [] from rfl, List.append_nil, List.map_map]
      refine List.map_congr_left (fun r hr => ?_)
      show (cutL 32 (joinL 32 (wordsG cel letG r))).drop 1 = _
      rw [hrow r hr]; rfl

/-- PARTIAL AUTOMATA: a good table's text is read back, strictly and loosely. -/
theorem part_read (st : Int) (xss : List (List Int)) (hs0 : 0 ≤ st) (hs1 : st ≤ 10) (hx : xss.length ≤ 10) (hc : ∀ r ∈ xss, ∀ z ∈ r, -1 ≤ z ∧ z ≤ 10) :
    partS (rowsG celG (lineG decG parG [st, xss.length]) letG xss).data.toList = some (st, xss)
    ∧ partL (rowsG celG (lineG decG parG [st, xss.length]) letG xss).data.toList = (st, xss) := by
  have ok : ∀ r ∈ xss, ∀ z ∈ r, CelOk z := fun r hr z hz => cel_ok (hc r hr z hz).1 (hc r hr z hz).2
  obtain ⟨h1, h2⟩ := table_read celG parG st xss hs0 hs1 hx (by decide +kernel) (by decide +kernel) (fun r hr z hz => (ok r hr z hz).a) (fun r hr z hz => (ok r hr z hz).b)
  refine ⟨?_, ?_⟩
  · unfold partS
    rw [h1]
    simp only []
    rw [allS_map (fun w : List (List UInt8) => allS celS (w.drop 1)) (wordsG celG letG) id xss (by
      intro r hr
      show allS celS (r.map (fun z => (celG z).data.toList)) = _
      rw [allS_map celS (fun z => (celG z).data.toList) id r (fun z hz => (ok r hr z hz).s), List.map_id]; rfl)]
    simp
  · unfold partL
    rw [h2]
    refine Prod.ext rfl ?_
    show (xss.map (fun r => r.map (fun z => (celG z).data.toList))).map (fun w => w.map celL) = xss
    rw [List.map_map]
    conv => rhs; rw [← List.map_id xss]
    refine List.map_congr_left (fun r hr => ?_)
    show (r.map (fun z => (celG z).data.toList)).map celL = r
    rw [List.map_map]
    conv => rhs; rw [← List.map_id r]
    exact List.map_congr_left (fun z hz => (ok r hr z hz).l)
end Go.Proofs.YtfdacodbiodiaaaDoor
