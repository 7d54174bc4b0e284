/- The law of events, over plain values. No program is in sight. -/
import Derived.Test.YtoomjemboekooaaDoorEvDEventSays
namespace Go.Proofs.YtoomjemboekooaaDoorBv
open Go
set_option linter.unusedSimpArgs false
set_option linter.unusedVariables false
def es0 : ES := ⟨[], [], false, false, false⟩
def endS (e : TEvent) (l : List TListener) (p : List Int) : ES := (stepsL p e.Bubbles).foldl (doS e.f_Type e.Cancels l) es0
theorem steps_len (p : List Int) (b : Bool) (hp : p.length ≤ 202) : (stepsL p b).length ≤ 1000 := by
  unfold stepsL
  rw [List.length_append, downs_len, List.length_cons]
  cases b
  · simp; omega
  · rw [if_pos rfl, ups_len]; omega
theorem folds_len (ty : List UInt8) (can : Bool) (l : List TListener) (hl : l.length ≤ 60) : ∀ (L : List Tstep) (s : ES), (L.foldl (doS ty can l) s).heard.length ≤ s.heard.length + 60 * L.length ∧ (L.foldl (doS ty can l) s).gone.length ≤ s.gone.length + 60 * L.length
  | [], s => ⟨Nat.le_refl _, Nat.le_refl _⟩
  | st :: r, s => by
    have h1 := folds_len ty can l hl r (doS ty can l s st)
    have h2 := doS_len ty can l s st
    rw [List.foldl_cons, List.length_cons]
    omega
theorem sends_loop (l : List TListener) (hl : l.length ≤ 60) (e : TEvent) (L : List Tstep) (hL : L.length ≤ 1000) (K : (List TListener) → (List UInt8) → Int → Int → Int → (List UInt8) → Bool → Bool → (List THeard) → (List (Int × Int)) → Bool → Bool → Bool → Option R4) :
    ∃ g, Mrep g (L.foldl (doS e.f_Type e.Cancels l) es0).gone ∧ lim (fun kk => event_Send_l0 L l K kk l e.f_Type e.Target e.X e.Y e.Key e.Bubbles e.Cancels ([] : List THeard) ([] : List (Int × Int)) false false false L 0) =
      K l e.f_Type e.Target e.X e.Y e.Key e.Bubbles e.Cancels (L.foldl (doS e.f_Type e.Cancels l) es0).heard g (L.foldl (doS e.f_Type e.Cancels l) es0).stops (L.foldl (doS e.f_Type e.Cancels l) es0).all (L.foldl (doS e.f_Type e.Cancels l) es0).no := by
  obtain ⟨t, ⟨g, ht, hg⟩, h⟩ := rounds_all (fun k (t : Tsending) i => event_Send_l0 L l K k t.f_l t.f_e.f_Type t.f_e.Target t.f_e.X t.f_e.Y t.f_e.Key t.f_e.Bubbles t.f_e.Cancels t.f_heard t.f_gone t.f_stops t.f_all t.f_no L i) (fun t => K t.f_l t.f_e.f_Type t.f_e.Target t.f_e.X t.f_e.Y t.f_e.Key t.f_e.Bubbles t.f_e.Cancels t.f_heard t.f_gone t.f_stops t.f_all t.f_no) L.length
      (fun i t => ∃ g, t = sndO l e ((L.take i).foldl (doS e.f_Type e.Cancels l) es0) g ∧ Mrep g ((L.take i).foldl (doS e.f_Type e.Cancels l) es0).gone) (sndO l e es0 [])
    ⟨[], by simp, mrep_nil⟩
    (fun m t ht => by rw [event_Send_l0, if_neg (lt_neg _)])
    (fun t i hi ht => by
      obtain ⟨g, rfl, hg⟩ := ht
      have hlen := folds_len e.f_Type e.Cancels l hl (L.take i) es0
      have htk : (L.take i).length ≤ 1000 := by rw [List.length_take]; omega
      have h0 : es0.heard.length = 0 := rfl
      have hf : (L.take (i + 1)).foldl (doS e.f_Type e.Cancels l) es0 = doS e.f_Type e.Cancels l ((L.take i).foldl (doS e.f_Type e.Cancels l) es0) L[i] := by
        rw [take_succ_get hi, List.foldl_append]; rfl
      rw [hf]
      obtain ⟨s, hs⟩ : ∃ s, s = (L.take i).foldl (doS e.f_Type e.Cancels l) es0 := ⟨_, rfl⟩
      rw [← hs] at hg hlen ⊢
      have hbody : ∀ m, event_Send_l0 L l K (m + 1) (sndO l e s g).f_l (sndO l e s g).f_e.f_Type (sndO l e s g).f_e.Target (sndO l e s g).f_e.X (sndO l e s g).f_e.Y (sndO l e s g).f_e.Key (sndO l e s g).f_e.Bubbles (sndO l e s g).f_e.Cancels (sndO l e s g).f_heard (sndO l e s g).f_gone (sndO l e s g).f_stops (sndO l e s g).f_all (sndO l e s g).f_no L (i : Int) =
          if ((!s.stops) && (!s.all)) then (clerestory_event_sending_do (sndO l e s g) L[i]).bind fun r_2 => event_Send_l0 L l K m r_2.f_l r_2.f_e.f_Type r_2.f_e.Target r_2.f_e.X r_2.f_e.Y r_2.f_e.Key r_2.f_e.Bubbles r_2.f_e.Cancels r_2.f_heard r_2.f_gone r_2.f_stops r_2.f_all r_2.f_no L ((i + 1 : Nat) : Int)
          else event_Send_l0 L l K m (sndO l e s g).f_l (sndO l e s g).f_e.f_Type (sndO l e s g).f_e.Target (sndO l e s g).f_e.X (sndO l e s g).f_e.Y (sndO l e s g).f_e.Key (sndO l e s g).f_e.Bubbles (sndO l e s g).f_e.Cancels (sndO l e s g).f_heard (sndO l e s g).f_gone (sndO l e s g).f_stops (sndO l e s g).f_all (sndO l e s g).f_no L ((i + 1 : Nat) : Int) := fun m => by
        rw [event_Send_l0, if_pos (lt_pos hi), at_some hi, Option.bind_some]
        unfold event_Send_j2
        rw [wi_next hi (by omega)]
        rfl
      by_cases hc : ((!s.stops) && (!s.all)) = true
      · obtain ⟨g', e1, e2⟩ := do_eq l hl e s g hg L[i] (by omega)
        have e3 : doS e.f_Type e.Cancels l s L[i] = l.foldl (oneL e.f_Type e.Cancels L[i]) s := by
          unfold doS
          rw [if_neg]
          intro h
          cases h1 : s.stops <;> cases h2 : s.all <;> simp_all
        rw [e3]
        exact ⟨_, ⟨g', rfl, e2⟩, fun m => by rw [hbody, if_pos hc, e1, Option.bind_some]⟩
      · have e3 : doS e.f_Type e.Cancels l s L[i] = s := by
          unfold doS
          rw [if_pos]
          cases h1 : s.stops <;> cases h2 : s.all <;> simp_all
        rw [e3]
        exact ⟨_, ⟨g, rfl, hg⟩, fun m => by rw [hbody, if_neg hc]⟩)
  rw [take_all] at ht hg
  subst ht
  exact ⟨g, hg, h⟩
/-! ### the document's -/
theorem down_loop (l : List TListener) (hl : l.length ≤ 60) (e : TEvent) (r2 : List Int × Int) (hw : r2.1.length ≤ 202) (K : List Int → List THeard → List Int → Bool → Bool → Option R4) :
    lim (fun kk => clerestoryref4_Sent_l4 r2 l e K kk r2.1 ([] : List THeard) ([] : List Int) false false 0) = K r2.1 ((downs r2.1 r2.1.length).foldl (doS e.f_Type e.Cancels l) es0).heard ((downs r2.1 r2.1.length).foldl (doS e.f_Type e.Cancels l) es0).gone ((downs r2.1 r2.1.length).foldl (doS e.f_Type e.Cancels l) es0).no (((downs r2.1 r2.1.length).foldl (doS e.f_Type e.Cancels l) es0).stops || ((downs r2.1 r2.1.length).foldl (doS e.f_Type e.Cancels l) es0).all) := by
  obtain ⟨s, hs, h⟩ := rounds_all (fun k (s : ES) i => clerestoryref4_Sent_l4 r2 l e K k r2.1 s.heard s.gone s.no (s.stops || s.all) i) (fun s => K r2.1 s.heard s.gone s.no (s.stops || s.all)) r2.1.length (fun i s => s = (downs r2.1 i).foldl (doS e.f_Type e.Cancels l) es0) es0 rfl
    (fun m s hs => by rw [clerestoryref4_Sent_l4, if_neg (lt_neg _)])
    (fun s i hi hs => ⟨_, rfl, fun m => by
      have hlen := folds_len e.f_Type e.Cancels l hl (downs r2.1 i) es0
      rw [downs_len, ← hs] at hlen
      have h0 : es0.heard.length = 0 := rfl
      have h1 : es0.gone.length = 0 := rfl
      rw [clerestoryref4_Sent_l4, if_pos (lt_pos hi), fn2_eq l hl r2.1 (by omega) i hi e true 1 s (by omega) (by omega), Option.bind_some, wi_next hi (by omega), downs_succ, List.foldl_append, ← hs]
      rfl⟩)
  rw [← hs]
  exact h
theorem up_loop2 (l : List TListener) (hl : l.length ≤ 60) (e : TEvent) (p : List Int) (hp : p.length ≤ 202) (K : List THeard → List Int → Bool → Option R4) : ∀ (c : Nat) (s : ES), c < p.length → s.heard.length + 60 * c ≤ 800000 → s.gone.length + 60 * c ≤ 800000 →
    ∀ m, clerestoryref4_Sent_l5 e p l K (m + c + 1) s.heard s.gone s.no (s.stops || s.all) ((c : Int) - 1) = K ((if e.Bubbles then ups p c else []).foldl (doS e.f_Type e.Cancels l) s).heard ((if e.Bubbles then ups p c else []).foldl (doS e.f_Type e.Cancels l) s).gone ((if e.Bubbles then ups p c else []).foldl (doS e.f_Type e.Cancels l) s).no
  | 0, s, hc, h1, h2, m => by
    rw [clerestoryref4_Sent_l5, if_neg (by simp)]
    cases e.Bubbles <;> rfl
  | c + 1, s, hc, h1, h2, m => by
    rw [show ((c + 1 : Nat) : Int) - 1 = (c : Int) by omega, clerestoryref4_Sent_l5]
    cases hb : e.Bubbles with
    | false =>
      rw [if_neg (by simp)]
      rfl
    | true =>
      have hl2 := doS_len e.f_Type e.Cancels l s (mkS p c false 3)
      have ih := up_loop2 l hl e p hp K c (doS e.f_Type e.Cancels l s (mkS p c false 3)) (by omega) (by omega) (by omega) m
      rw [hb] at ih
      have hf := fn2_eq l hl p (by omega) c (by omega) e false 3 s (by omega) (by omega)
      rw [hb] at hf
      rw [if_pos (by simp), hf, Option.bind_some, wi_id (by omega) (by omega), show m + (c + 1) = m + c + 1 by omega]
      exact ih
theorem refl_int (l : List Int) (hl : l.length ≤ 1000) : slices_Equal_int l l = some true := by
  unfold slices_Equal_int
  rw [if_neg (by simp)]
  obtain ⟨s, hs, h⟩ := rounds_all (fun k (_ : Unit) i => slices_Equal_int_l0 l l (fun _ => some true) k i) (fun _ => some true) l.length (fun _ _ => True) () trivial
    (fun m s hs => by rw [slices_Equal_int_l0, if_neg (lt_neg _)])
    (fun s i hi hs => ⟨(), trivial, fun m => by
      rw [slices_Equal_int_l0, if_pos (lt_pos hi), at_some hi, Option.bind_some, Option.bind_some, if_neg (by simp), wi_next hi (by omega)]⟩)
  exact h
theorem refl_heard (l : List THeard) (hl : l.length ≤ 1000000) : slices_Equal_Heard l l = some true := by
  unfold slices_Equal_Heard
  rw [if_neg (by simp)]
  obtain ⟨s, hs, h⟩ := rounds_all (fun k (_ : Unit) i => slices_Equal_Heard_l0 l l (fun _ => some true) k i) (fun _ => some true) l.length (fun _ _ => True) () trivial
    (fun m s hs => by rw [slices_Equal_Heard_l0, if_neg (lt_neg _)])
    (fun s i hi hs => ⟨(), trivial, fun m => by
      rw [slices_Equal_Heard_l0, if_pos (lt_pos hi), at_some hi, Option.bind_some, Option.bind_some, letIn_eq, if_neg (by simp), wi_next hi (by omega)]⟩)
  exact h
theorem refl_listener (l : List TListener) (hl : l.length ≤ 1000000) : slices_Equal_Listener l l = some true := by
  unfold slices_Equal_Listener
  rw [if_neg (by simp)]
  obtain ⟨s, hs, h⟩ := rounds_all (fun k (_ : Unit) i => slices_Equal_Listener_l0 l l (fun _ => some true) k i) (fun _ => some true) l.length (fun _ _ => True) () trivial
    (fun m s hs => by rw [slices_Equal_Listener_l0, if_neg (lt_neg _)])
    (fun s i hi hs => ⟨(), trivial, fun m => by
      rw [slices_Equal_Listener_l0, if_pos (lt_pos hi), at_some hi, Option.bind_some, Option.bind_some, letIn_eq, if_neg (by simp), wi_next hi (by omega)]⟩)
  exact h
theorem send_sent (d : TDoc) (hk : KidsShort d) (l : List TListener) (e : TEvent) : ∃ r : R4, event_Send d l e = some r ∧ clerestoryref4_Sent d l e = some r ∧ r.1.length ≤ 1000000 ∧ r.2.2.1.length ≤ 60 := by
  obtain ⟨c, e1, e2⟩ := check_tot d hk
  obtain ⟨w, w1, w2, w3, w4⟩ := path_way d hk e.Target
  unfold event_Send event_asked clerestoryref4_Sent
  rw [e1, Option.bind_some, Option.bind_some]
  by_cases h0 : c = 0
  · have hd := e2 h0
    have h200 := hd.many
    have hpos := hd.pos
    subst h0
    have hz0 : ¬ (!decide ((0 : Int) = 0)) = true := by simp
    rw [if_neg hz0, if_neg hz0]
    by_cases hl : 60 < (l.length : Int)
    · have h60 : decide (60 < (l.length : Int)) = true := by simpa using hl
      rw [if_pos h60, if_pos h60, Option.bind_some, if_pos (by simp)]
      exact ⟨_, rfl, rfl, Nat.zero_le _, Nat.zero_le _⟩
    · have hl' : l.length ≤ 60 := by omega
      have h60 : ¬ decide (60 < (l.length : Int)) = true := by simpa using hl
      rw [if_neg h60, if_neg h60]
      rcases asked_loop l hl' d e (fun (twice1 : Bool) =>
          if twice1 then
            some (([] : List Int), 6)
          else
            if ((decide (e.f_Type = [])) || (decide (40 < (e.f_Type.length : Int)))) then
              some (([] : List Int), 3)
            else
              (event_Path d e.Target).bind fun r_1 =>
              some (r_1.1, r_1.2)) with ⟨b, hb1, hb2, hb3⟩ | ⟨hb1, hb3⟩
      · rcases sent_loop l hl' d ⟨hpos, h200⟩ e (fun (twice1 : Bool) =>
          if twice1 then
            some (((clerestoryref4_Sent_fn1 6).1), (clerestoryref4_Sent_fn1 6).2.1, ((clerestoryref4_Sent_fn1 6).2.2.1), (clerestoryref4_Sent_fn1 6).2.2.2)
          else
            if (!(clerestoryref4_Between (e.f_Type.length : Int) 1 40)) then
              some (((clerestoryref4_Sent_fn1 3).1), (clerestoryref4_Sent_fn1 3).2.1, ((clerestoryref4_Sent_fn1 3).2.2.1), (clerestoryref4_Sent_fn1 3).2.2.2)
            else
              (clerestoryref4_WayTo d e.Target).bind fun r_2 =>
              if (!decide (r_2.2 = 0)) then
                some (((clerestoryref4_Sent_fn1 r_2.2).1), (clerestoryref4_Sent_fn1 r_2.2).2.1, ((clerestoryref4_Sent_fn1 r_2.2).2.2.1), (clerestoryref4_Sent_fn1 r_2.2).2.2.2)
              else
                lim fun kk3 => clerestoryref4_Sent_l4 r_2 l e (fun (way1 : (List Int)) (heard1 : (List THeard)) (gone_1 : (List Int)) (prevented1 : Bool) (at_1 : Bool) =>
                    (clerestoryref4_Sent_fn2 (wi ((way1.length : Int) - 1)) false 3 at_1 way1 l e.f_Type e.Target e.X e.Y e.Key e.Bubbles e.Cancels heard1 prevented1 gone_1).bind fun r_4 =>
                    lim fun kk2 => clerestoryref4_Sent_l5 e way1 l (fun (heard3 : (List THeard)) (gone_3 : (List Int)) (prevented3 : Bool) =>
                        lim fun kk1 => clerestoryref4_Sent_l6 l prevented3 (fun (heard5 : (List THeard)) (left1 : (List TListener)) =>
                            some (heard5, prevented3, left1, 0)) kk1 heard3 gone_3 ([] : List TListener) 0) kk2 r_4.2.1 r_4.2.2.2 r_4.2.2.1 r_4.1 (wi ((way1.length : Int) - 2))) kk3 r_2.1 ([] : List THeard) ([] : List Int) false false 0) with ⟨b', hc1, hc2, hc3⟩ | ⟨hc1, hc3⟩
        · have hbb : b' = b := by rw [Bool.eq_iff_iff, hb2, hc2]
          subst hbb
          rw [hb3, hc3]
          cases b' with
          | true =>
            rw [if_pos rfl, if_pos rfl, Option.bind_some, if_pos (by simp)]
            exact ⟨_, rfl, rfl, Nat.zero_le _, Nat.zero_le _⟩
          | false =>
            simp only [Bool.false_eq_true, if_false]
            by_cases ht : 1 ≤ e.f_Type.length ∧ e.f_Type.length ≤ 40
            · have ht1 : ¬ ((decide (e.f_Type = [])) || (decide (40 < (e.f_Type.length : Int)))) = true := by
                simp only [Bool.or_eq_true, decide_eq_true_eq]
                rintro (h | h)
                · rw [h] at ht; simp at ht
                · omega
              have ht2 : ¬ (!(clerestoryref4_Between (e.f_Type.length : Int) 1 40)) = true := by
                unfold clerestoryref4_Between
                simp only [Bool.not_eq_true', Bool.and_eq_false_iff, decide_eq_false_iff_not]
                omega
              rw [if_neg ht1, if_neg ht2, w1, w2, Option.bind_some, Option.bind_some, Option.bind_some]
              by_cases hw0 : w.2 = 0
              · have hne := w4 hw0
                have hwp : 0 < w.1.length := List.length_pos_iff.2 hne
                have hz1 : ¬ (!decide (w.2 = 0)) = true := by simpa using hw0
                rw [if_neg hz1, if_neg hz1, steps_eq w.1 w3 hne, Option.bind_some]
                have hsl := steps_len w.1 e.Bubbles w3
                have hfl := folds_len e.f_Type e.Cancels l hl' (stepsL w.1 e.Bubbles) es0
                have h0 : es0.heard.length = 0 := rfl
                have h1 : es0.gone.length = 0 := rfl
                obtain ⟨g, hg, hS⟩ := sends_loop l hl' e (stepsL w.1 e.Bubbles) hsl (fun (s01 : (List TListener)) (s13 : (List UInt8)) (s21 : Int) (s31 : Int) (s41 : Int) (s51 : (List UInt8)) (s61 : Bool) (s71 : Bool) (s81 : (List THeard)) (s91 : (List (Int × Int))) (s101 : Bool) (s111 : Bool) (s121 : Bool) =>
                    (slices_Clone_Listener l).bind fun r_3 =>
                    (slices_DeleteFunc_Listener r_3 s01 s13 s21 s31 s41 s51 s61 s71 s81 s91 s101 s111 s121).bind fun r_4 =>
                    some (r_4.2.2.2.2.2.2.2.2.2.1, r_4.2.2.2.2.2.2.2.2.2.2.2.2.2, r_4.1, 0))
                have hcl : slices_Clone_Listener l = some l := by
                  unfold slices_Clone_Listener
                  rw [appq (by simp; omega)]; rfl
                have hE : endS e l w.1 = (stepsL w.1 e.Bubbles).foldl (doS e.f_Type e.Cancels l) es0 := rfl
                rw [← hE] at hS hg hfl
                have hdel := delete_eq (sndO l e (endS e l w.1) g) (endS e l w.1).gone hg l hl'
                refine ⟨((endS e l w.1).heard, (endS e l w.1).no, kept (endS e l w.1).gone l, 0), ?_, ?_, by show (endS e l w.1).heard.length ≤ _; omega, Nat.le_trans (List.length_filter_le _ _) hl'⟩
                · rw [hS, hcl, Option.bind_some]
                  have hdel' : slices_DeleteFunc_Listener l l e.f_Type e.Target e.X e.Y e.Key e.Bubbles e.Cancels (endS e l w.1).heard g (endS e l w.1).stops (endS e l w.1).all (endS e l w.1).no = _ := hdel
                  rw [hdel', Option.bind_some]
                  rfl
                · rw [down_loop l hl' e w w3]
                  obtain ⟨sd, hsd⟩ : ∃ sd, sd = (downs w.1 w.1.length).foldl (doS e.f_Type e.Cancels l) es0 := ⟨_, rfl⟩
                  have hdl := folds_len e.f_Type e.Cancels l hl' (downs w.1 w.1.length) es0
                  rw [downs_len] at hdl
                  rw [← hsd] at hdl ⊢
                  have hd2 := doS_len e.f_Type e.Cancels l sd (mkS w.1 (w.1.length - 1) false 3)
                  rw [show wi ((w.1.length : Int) - 1) = ((w.1.length - 1 : Nat) : Int) by rw [wi_id (by omega) (by omega)]; omega, fn2_eq l hl' w.1 (by omega) (w.1.length - 1) (by omega) e false 3 sd (by omega) (by omega), Option.bind_some,
                    show wi ((w.1.length : Int) - 2) = ((w.1.length - 1 : Nat) : Int) - 1 by rw [wi_id (by omega) (by omega)]; omega]
                  refine lim_add (w.1.length - 1 + 1) fun m => ?_
                  rw [← Nat.add_assoc]
                  refine (up_loop2 l hl' e w.1 w3 _ (w.1.length - 1) (doS e.f_Type e.Cancels l sd (mkS w.1 (w.1.length - 1) false 3)) (by omega) (by omega) (by omega) m).trans ?_
                  have hfin : (if e.Bubbles then ups w.1 (w.1.length - 1) else []).foldl (doS e.f_Type e.Cancels l) (doS e.f_Type e.Cancels l sd (mkS w.1 (w.1.length - 1) false 3)) = endS e l w.1 := by
                    unfold endS stepsL
                    rw [List.foldl_append, ← hsd, List.foldl_cons]
                  rw [hfin, left_eq l hl' _ _ _ _ (by omega)]
              · have hz1 : (!decide (w.2 = 0)) = true := by simpa using hw0
                rw [if_pos hz1, if_pos hz1]
                exact ⟨_, rfl, rfl, Nat.zero_le _, Nat.zero_le _⟩
            · have ht1 : ((decide (e.f_Type = [])) || (decide (40 < (e.f_Type.length : Int)))) = true := by
                simp only [Bool.or_eq_true, decide_eq_true_eq]
                by_cases he : e.f_Type = []
                · exact .inl he
                · have := List.length_pos_iff.2 he
                  exact .inr (by omega)
              have ht2 : (!(clerestoryref4_Between (e.f_Type.length : Int) 1 40)) = true := by
                unfold clerestoryref4_Between
                simp only [Bool.not_eq_true', Bool.and_eq_false_iff, decide_eq_false_iff_not]
                omega
              rw [if_pos ht1, if_pos ht2, Option.bind_some, if_pos (by simp)]
              exact ⟨_, rfl, rfl, Nat.zero_le _, Nat.zero_le _⟩
        · exact absurd hb1 hc1
      · rcases sent_loop l hl' d ⟨hpos, h200⟩ e (fun (twice1 : Bool) =>
          if twice1 then
            some (((clerestoryref4_Sent_fn1 6).1), (clerestoryref4_Sent_fn1 6).2.1, ((clerestoryref4_Sent_fn1 6).2.2.1), (clerestoryref4_Sent_fn1 6).2.2.2)
          else
            if (!(clerestoryref4_Between (e.f_Type.length : Int) 1 40)) then
              some (((clerestoryref4_Sent_fn1 3).1), (clerestoryref4_Sent_fn1 3).2.1, ((clerestoryref4_Sent_fn1 3).2.2.1), (clerestoryref4_Sent_fn1 3).2.2.2)
            else
              (clerestoryref4_WayTo d e.Target).bind fun r_2 =>
              if (!decide (r_2.2 = 0)) then
                some (((clerestoryref4_Sent_fn1 r_2.2).1), (clerestoryref4_Sent_fn1 r_2.2).2.1, ((clerestoryref4_Sent_fn1 r_2.2).2.2.1), (clerestoryref4_Sent_fn1 r_2.2).2.2.2)
              else
                lim fun kk3 => clerestoryref4_Sent_l4 r_2 l e (fun (way1 : (List Int)) (heard1 : (List THeard)) (gone_1 : (List Int)) (prevented1 : Bool) (at_1 : Bool) =>
                    (clerestoryref4_Sent_fn2 (wi ((way1.length : Int) - 1)) false 3 at_1 way1 l e.f_Type e.Target e.X e.Y e.Key e.Bubbles e.Cancels heard1 prevented1 gone_1).bind fun r_4 =>
                    lim fun kk2 => clerestoryref4_Sent_l5 e way1 l (fun (heard3 : (List THeard)) (gone_3 : (List Int)) (prevented3 : Bool) =>
                        lim fun kk1 => clerestoryref4_Sent_l6 l prevented3 (fun (heard5 : (List THeard)) (left1 : (List TListener)) =>
                            some (heard5, prevented3, left1, 0)) kk1 heard3 gone_3 ([] : List TListener) 0) kk2 r_4.2.1 r_4.2.2.2 r_4.2.2.1 r_4.1 (wi ((way1.length : Int) - 2))) kk3 r_2.1 ([] : List THeard) ([] : List Int) false false 0) with ⟨b', hc1, hc2, hc3⟩ | ⟨hc1, hc3⟩
        · exact absurd hc1 hb1
        · rw [hb3, hc3, Option.bind_some, if_pos (by simp)]
          exact ⟨_, rfl, rfl, Nat.zero_le _, Nat.zero_le _⟩
  · have hz : (!decide (c = 0)) = true := by simpa using h0
    rw [if_pos hz, if_pos hz, Option.bind_some, if_pos hz]
    exact ⟨_, rfl, rfl, Nat.zero_le _, Nat.zero_le _⟩
theorem pureEventSays : PureEventSays := by
  intro d l e hd0 hl0 he0
  have hk : KidsShort d := by
    intro x hx
    have := (hd0.1.2 x hx).2.2.2.2.2.1
    unfold reachBytes at this
    omega
  obtain ⟨w, w1, w2, w3, w4⟩ := path_way d hk e.Target
  obtain ⟨r, r1, r2, r3, r4⟩ := send_sent d hk l e
  unfold clerestorylaw4_EventSays clerestorylaw4_EventSays_j1
  rw [w1, Option.bind_some, r1, Option.bind_some, w2, Option.bind_some, refl_int _ (by omega), Option.bind_some, if_neg (by simp), r2, Option.bind_some, refl_heard _ r3, Option.bind_some, if_pos (by simp), refl_listener _ (by omega), Option.bind_some]
  simp
end Go.Proofs.YtoomjemboekooaaDoorBv
