/- The law of styles of a document, over plain values. No program is in sight. -/
import Derived.Test.YtagfmlkihindaaaDoorDomStyleFits
import Derived.Test.YtagfmlkihindaaaDoorFitsStyleFits
namespace Go.Proofs.YtagfmlkihindaaaDoorBv
open Go
set_option linter.unusedSimpArgs false
set_option linter.unusedVariables false
theorem arL_len (x : Ar59 TVal) : (arL x).length = 59 := rfl
def ArOK (x : Ar59 TVal) : Prop := ∀ v, v ∈ arL x → -9223372036854775808 ≤ v.N ∧ v.N ≤ 9223372036854775807
noncomputable def mayB (p : Nat) (v : TVal) : Bool := (clerestoryref2_ValMay (p : Int) v).getD false
theorem may_eq {p : Nat} (h : p < 59) {v : TVal} (hv : -9223372036854775808 ≤ v.N ∧ v.N ≤ 9223372036854775807) : prop_Fits (p : Int) v = some (mayB p v) ∧ clerestoryref2_ValMay (p : Int) v = some (mayB p v) := by
  obtain ⟨b, h1, h2⟩ := fits_eq h v hv
  unfold mayB
  rw [h1, h2]
  exact ⟨rfl, rfl⟩
noncomputable def okD (x : Ar59 TVal) : Nat → Nat → Bool
  | 0, _ => true
  | d + 1, p => (match (arL x)[p]? with | some v => mayB p v | none => true) && okD x d (p + 1)
theorem okD_step {x : Ar59 TVal} {d p : Nat} (h : p < (arL x).length) : okD x (d + 1) p = (mayB p (arL x)[p] && okD x d (p + 1)) := by rw [okD, List.getElem?_eq_getElem h]
theorem style_l3 (x : Ar59 TVal) (hx : ArOK x) (l : List (Ar59 TVal)) (i : Int) (K : Unit → Option Int) : ∀ (d p : Nat), p + d = 59 → ∀ m, style_Fits_l3 x l i K (m + d + 1) (p : Int) = if okD x d p then K () else some 3
  | 0, p, hp, m => by
    rw [style_Fits_l3, if_neg (by simp only [decide_eq_true_eq]; omega), okD, if_pos rfl]
  | d + 1, p, hp, m => by
    have h : p < (arL x).length := by rw [arL_len]; omega
    have e := may_eq (p := p) (by omega) (hx _ (List.getElem_mem h))
    rw [style_Fits_l3, if_pos (by simp only [decide_eq_true_eq]; omega), letIn_eq]
    show ((at? (arL x) (p : Int)).bind _) = _
    rw [at_some h, Option.bind_some, e.1, Option.bind_some, okD_step h, wi_id (by omega) (by omega), show (p : Int) + 1 = ((p + 1 : Nat) : Int) by omega, show m + (d + 1) = m + d + 1 by omega, style_l3 x hx l i K d (p + 1) (by omega) m]
    cases mayB p (arL x)[p] with
    | true => simp
    | false => simp
noncomputable def rowsOK (l : List (Ar59 TVal)) : Bool := l.all fun x => okD x 59 0
theorem style_l2 (l : List (Ar59 TVal)) (hl : l.length ≤ 200) (hx : ∀ x, x ∈ l → ArOK x) : ∀ (d i : Nat), i + d = l.length → ∀ m, style_Fits_l2 l (fun _ => some 0) (m + d + 1) (i : Int) = some (if rowsOK (l.drop i) then 0 else 3)
  | 0, i, hi, m => by
    rw [style_Fits_l2, if_neg (by simp only [decide_eq_true_eq]; omega), List.drop_eq_nil_of_le (by omega)]
    rfl
  | d + 1, i, hi, m => by
    have h : i < l.length := by omega
    rw [style_Fits_l2, if_pos (by simp only [decide_eq_true_eq]; omega), at_some h, Option.bind_some, List.drop_eq_getElem_cons h]
    refine lim_add 60 fun q => ?_
    have := style_l3 l[i] (hx _ (List.getElem_mem h)) l (i : Int) (fun (_ : Unit) => (style_Fits_l2 l (fun _ => some 0) (m + (d + 1))) (wi ((i : Int) + 1))) 59 0 rfl q
    refine this.trans ?_
    rw [wi_id (by omega) (by omega), show (i : Int) + 1 = ((i + 1 : Nat) : Int) by omega, show m + (d + 1) = m + d + 1 by omega, style_l2 l hl hx d (i + 1) (by omega) m]
    unfold rowsOK
    rw [List.all_cons]
    cases okD l[i] 59 0 with
    | true => simp
    | false => simp
theorem law_l3 (l : List (Ar59 TVal)) (i : Nat) (hi : i < l.length) (hx : ArOK l[i]) (r : TVal) (dd : TDoc) (K : Int → Option Bool) : ∀ (d p : Nat) (e : Int), p + d = 59 → ∀ m, clerestorylaw2_StyleFits_l3 l (i : Int) r dd K (m + d + 1) e (p : Int) = K (if okD l[i] d p then e else 3)
  | 0, p, e, hp, m => by
    rw [clerestorylaw2_StyleFits_l3, if_neg (by simp only [decide_eq_true_eq]; omega), okD, if_pos rfl]
  | d + 1, p, e, hp, m => by
    have h : p < (arL l[i]).length := by rw [arL_len]; omega
    have e' := may_eq (p := p) (by omega) (hx _ (List.getElem_mem h))
    rw [clerestorylaw2_StyleFits_l3, if_pos (by simp only [decide_eq_true_eq]; omega), at_some hi, Option.bind_some, letIn_eq]
    show ((at? (arL l[i]) (p : Int)).bind _) = _
    rw [at_some h, Option.bind_some, e'.2, Option.bind_some, okD_step h]
    unfold clerestorylaw2_StyleFits_j10
    rw [wi_id (by omega) (by omega), show (p : Int) + 1 = ((p + 1 : Nat) : Int) by omega, show m + (d + 1) = m + d + 1 by omega, law_l3 l i hi hx r dd K d (p + 1) _ (by omega) m, law_l3 l i hi hx r dd K d (p + 1) _ (by omega) m]
    cases mayB p (arL l[i])[p] with
    | true => simp
    | false => simp
theorem law_l2 (l : List (Ar59 TVal)) (hl : l.length ≤ 200) (hx : ∀ x, x ∈ l → ArOK x) (r : TVal) (dd : TDoc) (K : Int → Option Bool) : ∀ (d i : Nat), i + d = l.length → ∀ m, clerestorylaw2_StyleFits_l2 l r dd K (m + d + 1) 0 (i : Int) = K (if rowsOK (l.drop i) then 0 else 3)
  | 0, i, hi, m => by
    rw [clerestorylaw2_StyleFits_l2, if_neg (by simp; omega), List.drop_eq_nil_of_le (by omega)]
    rfl
  | d + 1, i, hi, m => by
    have h : i < l.length := by omega
    rw [clerestorylaw2_StyleFits_l2, if_pos (by simp; omega), List.drop_eq_getElem_cons h]
    refine lim_add 60 fun q => ?_
    have := law_l3 l i h (hx _ (List.getElem_mem h)) r dd (fun (e_4 : Int) => (clerestorylaw2_StyleFits_l2 l r dd K (m + (d + 1))) e_4 (wi ((i : Int) + 1))) 59 0 0 rfl q
    refine this.trans ?_
    rw [wi_id (by omega) (by omega), show (i : Int) + 1 = ((i + 1 : Nat) : Int) by omega, show m + (d + 1) = m + d + 1 by omega]
    unfold rowsOK
    rw [List.all_cons]
    cases okD l[i] 59 0 with
    | true =>
      rw [if_pos rfl, law_l2 l hl hx r dd K d (i + 1) (by omega) m, Bool.true_and]
      rfl
    | false =>
      rw [if_neg (by simp), Bool.false_and, if_neg (by simp), clerestorylaw2_StyleFits_l2, if_neg (by simp)]
theorem law_stop (l : List (Ar59 TVal)) (r : TVal) (dd : TDoc) (K : Int → Option Bool) (e : Int) (he : e ≠ 0) : ∀ m, clerestorylaw2_StyleFits_l2 l r dd K (m + 1) e 0 = K e := by
  intro m
  rw [clerestorylaw2_StyleFits_l2, if_neg (by simp [he])]
theorem initial_eq : style_Initial 37 = some ⟨2, 1024⟩ := by rfl
theorem pureStyleFits : PureStyleFits := by
  intro d l hd hl
  have hr : reachBytes = 140737488351232 := by decide
  have hx : ∀ x, x ∈ l → ArOK x := by
    intro x hx v hv
    have ok := hl.2 x hx
    have all : ∀ v, v ∈ arL x → ok73 v := ok
    exact ok_i64 (all v hv).2
  have hk : ∀ x, x ∈ d.Nodes → x.Kids.length ≤ 140737488355328 := by
    intro x hx
    have := (hd.1.2 x hx).2.2.2.2.2.1
    omega
  obtain ⟨e, e1, e2⟩ := check_tot d hk
  unfold clerestorylaw2_StyleFits
  rw [initial_eq, Option.bind_some, e1, Option.bind_some]
  have fin : ∀ w : Int, style_Fits d l = some w → ∀ K, K = (fun (e_2 : Int) => if (decide ((⟨2, 1024⟩ : TVal).Kind = 2) && (decide ((⟨2, 1024⟩ : TVal).N = 1024) && true)) then (style_Fits d l).bind fun r_3 => clerestorylaw2_StyleFits_j11 (decide (r_3 = e_2)) else clerestorylaw2_StyleFits_j11 false) → K w = some true := by
    rintro w hw K rfl
    change (if (decide ((2 : Int) = 2) && (decide ((1024 : Int) = 1024) && true)) = true then (style_Fits d l).bind (fun r_3 => clerestorylaw2_StyleFits_j11 (decide (r_3 = w))) else clerestorylaw2_StyleFits_j11 false) = some true
    rw [if_pos (by decide), hw, Option.bind_some]
    unfold clerestorylaw2_StyleFits_j11
    simp
  by_cases he : e = 0
  · have ok := e2 he
    by_cases hlen : l.length = d.Nodes.length
    · have hs : style_Fits d l = some (if rowsOK l then 0 else 3) := by
        unfold style_Fits
        rw [e1, Option.bind_some, if_neg (by simp [he]), if_neg (by simp [hlen])]
        have := style_l2 l (by rw [hlen]; exact ok.many) hx l.length 0 (by omega)
        rw [List.drop_zero] at this
        exact lim_add (l.length + 1) fun m => this m
      rw [if_neg (by simp [hlen]), he]
      unfold clerestorylaw2_StyleFits_j1
      refine lim_add (l.length + 1) fun m => ?_
      refine (law_l2 l (by rw [hlen]; exact ok.many) hx ⟨2, 1024⟩ d _ l.length 0 (by omega) m).trans ?_
      rw [List.drop_zero]
      exact fin _ hs _ rfl
    · have hs : style_Fits d l = some 3 := by
        unfold style_Fits
        rw [e1, Option.bind_some, if_neg (by simp [he]), if_pos (by simp; omega)]
      rw [if_pos (by simp [he]; omega)]
      unfold clerestorylaw2_StyleFits_j1
      refine lim_add 1 fun m => ?_
      rw [law_stop _ _ _ _ _ (by decide)]
      exact fin _ hs _ rfl
  · have hs : style_Fits d l = some e := by
      unfold style_Fits
      rw [e1, Option.bind_some, if_pos (by simp [he])]
    rw [if_neg (by simp [he])]
    unfold clerestorylaw2_StyleFits_j1
    refine lim_add 1 fun m => ?_
    rw [law_stop _ _ _ _ _ he]
    exact fin _ hs _ rfl
end Go.Proofs.YtagfmlkihindaaaDoorBv
