/- Sending an event: who hears it, and who is left. No program is in sight. -/
import Derived.Test.YtoomjemboekooaaDoorEvPEventSays
namespace Go.Proofs.YtoomjemboekooaaDoorBv
open Go
set_option linter.unusedSimpArgs false
set_option linter.unusedVariables false
theorem mget_mset {κ ν : Type} [DecidableEq κ] (k : κ) (v : ν) (x : κ) : ∀ l : List (κ × ν), mget (mset l k v) x = if x = k then some v else mget l x
  | [] => by simp only [mset, mget]
  | p :: r => by
    have ih := mget_mset k v x r
    simp only [mset]
    by_cases h : k = p.1
    · rw [if_pos h]
      simp only [mget]
      by_cases h2 : x = k
      · rw [if_pos h2, if_pos h2]
      · rw [if_neg h2, if_neg h2, if_neg (by rw [← h]; exact h2)]
    · rw [if_neg h]
      simp only [mget]
      by_cases h2 : x = p.1
      · have h3 : ¬ x = k := by intro e; exact h (by rw [← e]; exact h2)
        rw [if_pos h2, if_neg h3, if_pos h2]
      · rw [if_neg h2, ih]
        by_cases h3 : x = k
        · rw [if_pos h3, if_pos h3]
        · rw [if_neg h3, if_neg h3, if_neg h2]
def Mrep (m : List (Int × Int)) (g : List Int) : Prop := ∀ d, (mget m d).getD 0 = 1 ↔ d ∈ g
theorem mrep_nil : Mrep [] [] := fun d => by simp [mget]
theorem mrep_set {m : List (Int × Int)} {g : List Int} (h : Mrep m g) (d : Int) : Mrep (mset m d 1) (g ++ [d]) := fun x => by
  rw [mget_mset, List.mem_append, List.mem_singleton]
  by_cases e : x = d
  · rw [if_pos e]; simp [e]
  · rw [if_neg e, h x]; simp [e]
structure ES where
  heard : List THeard
  gone : List Int
  stops : Bool
  all : Bool
  no : Bool
def oneL (ty : List UInt8) (can : Bool) (st : Tstep) (s : ES) (x : TListener) : ES :=
  if ((((!s.all) && (decide (x.Node = st.f_node))) && (decide (x.f_Type = ty))) && ((x.Capture == st.f_down) && true)) then
    ⟨s.heard ++ [⟨x.ID, st.f_node, st.f_phase⟩], if x.Once then s.gone ++ [x.ID] else s.gone, s.stops || x.Stops, s.all || x.StopsAll, s.no || (x.Prevents && can)⟩ else s
def doS (ty : List UInt8) (can : Bool) (l : List TListener) (s : ES) (st : Tstep) : ES := if s.stops || s.all then s else l.foldl (oneL ty can st) s
theorem one_len (ty : List UInt8) (can : Bool) (st : Tstep) (s : ES) (x : TListener) : (oneL ty can st s x).heard.length ≤ s.heard.length + 1 ∧ (oneL ty can st s x).gone.length ≤ s.gone.length + 1 := by
  unfold oneL
  split
  · constructor
    · simp
    · show (if x.Once then s.gone ++ [x.ID] else s.gone).length ≤ _
      split <;> simp
  · exact ⟨Nat.le_succ _, Nat.le_succ _⟩
theorem fold_len (ty : List UInt8) (can : Bool) (st : Tstep) : ∀ (l : List TListener) (s : ES), (l.foldl (oneL ty can st) s).heard.length ≤ s.heard.length + l.length ∧ (l.foldl (oneL ty can st) s).gone.length ≤ s.gone.length + l.length
  | [], s => ⟨Nat.le_refl _, Nat.le_refl _⟩
  | x :: r, s => by
    have h1 := fold_len ty can st r (oneL ty can st s x)
    have h2 := one_len ty can st s x
    rw [List.foldl_cons, List.length_cons]
    omega
theorem doS_len (ty : List UInt8) (can : Bool) (l : List TListener) (s : ES) (st : Tstep) : (doS ty can l s st).heard.length ≤ s.heard.length + l.length ∧ (doS ty can l s st).gone.length ≤ s.gone.length + l.length := by
  unfold doS
  split
  · exact ⟨Nat.le_add_right _ _, Nat.le_add_right _ _⟩
  · exact fold_len ty can st l s
theorem fold_all (ty : List UInt8) (can : Bool) (st : Tstep) : ∀ (l : List TListener) (s : ES), s.all = true → l.foldl (oneL ty can st) s = s
  | [], s, _ => rfl
  | x :: r, s, h => by
    have e : oneL ty can st s x = s := by unfold oneL; rw [h]; simp
    rw [List.foldl_cons, e]
    exact fold_all ty can st r s h
def sndO (l : List TListener) (e : TEvent) (s : ES) (g : List (Int × Int)) : Tsending := ⟨l, e, s.heard, g, s.stops, s.all, s.no⟩
theorem hear_eq (l : List TListener) (e : TEvent) (s : ES) (g : List (Int × Int)) (hg : Mrep g s.gone) (x : TListener) (st : Tstep) (hl : s.heard.length ≤ 1000000) (hc : ((((!s.all) && (decide (x.Node = st.f_node))) && (decide (x.f_Type = e.f_Type))) && ((x.Capture == st.f_down) && true)) = true) :
    ∃ g', clerestory_event_sending_hear (sndO l e s g) x st = some (sndO l e (oneL e.f_Type e.Cancels st s x) g') ∧ Mrep g' (oneL e.f_Type e.Cancels st s x).gone := by
  unfold clerestory_event_sending_hear sndO
  dsimp only
  rw [appq (by simp; omega), Option.bind_some]
  unfold oneL
  rw [if_pos hc]
  cases ho : x.Once with
  | true => exact ⟨mset g x.ID 1, rfl, mrep_set hg _⟩
  | false => exact ⟨g, rfl, hg⟩
theorem do_eq (l : List TListener) (hl : l.length ≤ 60) (e : TEvent) (s0 : ES) (g0 : List (Int × Int)) (hg0 : Mrep g0 s0.gone) (st : Tstep) (hh : s0.heard.length ≤ 900000) :
    ∃ g', clerestory_event_sending_do (sndO l e s0 g0) st = some (sndO l e (l.foldl (oneL e.f_Type e.Cancels st) s0) g') ∧ Mrep g' (l.foldl (oneL e.f_Type e.Cancels st) s0).gone := by
  unfold clerestory_event_sending_do
  obtain ⟨t, ⟨g, ht, hg⟩, h⟩ := rounds_all (fun k (t : Tsending) i => clerestory_event_sending_do_l0 (sndO l e s0 g0) st (fun (s01 : (List TListener)) (s13 : (List UInt8)) (s21 : Int) (s31 : Int) (s41 : Int) (s51 : (List UInt8)) (s61 : Bool) (s71 : Bool) (s81 : (List THeard)) (s91 : (List (Int × Int))) (s101 : Bool) (s111 : Bool) (s121 : Bool) =>
      some (⟨s01, (⟨s13, s21, s31, s41, s51, s61, s71⟩ : TEvent), s81, s91, s101, s111, s121⟩ : Tsending)) k t.f_l t.f_e.f_Type t.f_e.Target t.f_e.X t.f_e.Y t.f_e.Key t.f_e.Bubbles t.f_e.Cancels t.f_heard t.f_gone t.f_stops t.f_all t.f_no i) (fun t => some t) l.length
      (fun i t => ∃ g, t = sndO l e ((l.take i).foldl (oneL e.f_Type e.Cancels st) s0) g ∧ Mrep g ((l.take i).foldl (oneL e.f_Type e.Cancels st) s0).gone) (sndO l e s0 g0)
    ⟨g0, by simp, by simpa using hg0⟩
    (fun m t ht => by
      rw [clerestory_event_sending_do_l0, if_neg (show ¬ decide ((l.length : Int) < ((sndO l e s0 g0).f_l.length : Int)) = true from lt_neg _)])
    (fun t i hi ht => by
      obtain ⟨g, rfl, hg⟩ := ht
      have hlen := fold_len e.f_Type e.Cancels st (l.take i) s0
      have htk : (l.take i).length ≤ 60 := by rw [List.length_take]; omega
      have hf : (l.take (i + 1)).foldl (oneL e.f_Type e.Cancels st) s0 = oneL e.f_Type e.Cancels st ((l.take i).foldl (oneL e.f_Type e.Cancels st) s0) l[i] := by
        rw [take_succ_get hi, List.foldl_append]; rfl
      rw [hf]
      by_cases hc : ((((!((l.take i).foldl (oneL e.f_Type e.Cancels st) s0).all) && (decide (l[i].Node = st.f_node))) && (decide (l[i].f_Type = e.f_Type))) && ((l[i].Capture == st.f_down) && true)) = true
      · obtain ⟨g', e1, e2⟩ := hear_eq l e ((l.take i).foldl (oneL e.f_Type e.Cancels st) s0) g hg l[i] st (by omega) hc
        refine ⟨_, ⟨g', rfl, e2⟩, fun m => ?_⟩
        rw [clerestory_event_sending_do_l0, if_pos (show decide ((i : Int) < ((sndO l e s0 g0).f_l.length : Int)) = true from lt_pos hi), show at? (sndO l e s0 g0).f_l (i : Int) = some l[i] from at_some hi, Option.bind_some, if_pos (show ((((!(sndO l e ((l.take i).foldl (oneL e.f_Type e.Cancels st) s0) g).f_all) && (decide (l[i].Node = st.f_node))) && (decide (l[i].f_Type = (sndO l e ((l.take i).foldl (oneL e.f_Type e.Cancels st) s0) g).f_e.f_Type))) && ((l[i].Capture == st.f_down) && true)) = true from hc)]
        have e1' : clerestory_event_sending_hear (⟨(sndO l e ((l.take i).foldl (oneL e.f_Type e.Cancels st) s0) g).f_l, (sndO l e ((l.take i).foldl (oneL e.f_Type e.Cancels st) s0) g).f_e, (sndO l e ((l.take i).foldl (oneL e.f_Type e.Cancels st) s0) g).f_heard, (sndO l e ((l.take i).foldl (oneL e.f_Type e.Cancels st) s0) g).f_gone, (sndO l e ((l.take i).foldl (oneL e.f_Type e.Cancels st) s0) g).f_stops, (sndO l e ((l.take i).foldl (oneL e.f_Type e.Cancels st) s0) g).f_all, (sndO l e ((l.take i).foldl (oneL e.f_Type e.Cancels st) s0) g).f_no⟩ : Tsending) l[i] st = _ := e1
        rw [e1', Option.bind_some]
        unfold clerestory_event_sending_do_j2
        rw [wi_next hi (by omega)]
      · have e1 : oneL e.f_Type e.Cancels st ((l.take i).foldl (oneL e.f_Type e.Cancels st) s0) l[i] = (l.take i).foldl (oneL e.f_Type e.Cancels st) s0 := if_neg hc
        rw [e1]
        refine ⟨_, ⟨g, rfl, hg⟩, fun m => ?_⟩
        rw [clerestory_event_sending_do_l0, if_pos (show decide ((i : Int) < ((sndO l e s0 g0).f_l.length : Int)) = true from lt_pos hi), show at? (sndO l e s0 g0).f_l (i : Int) = some l[i] from at_some hi, Option.bind_some, if_neg (show ¬ ((((!(sndO l e ((l.take i).foldl (oneL e.f_Type e.Cancels st) s0) g).f_all) && (decide (l[i].Node = st.f_node))) && (decide (l[i].f_Type = (sndO l e ((l.take i).foldl (oneL e.f_Type e.Cancels st) s0) g).f_e.f_Type))) && ((l[i].Capture == st.f_down) && true)) = true from hc)]
        unfold clerestory_event_sending_do_j2
        rw [wi_next hi (by omega)])
  rw [take_all] at ht hg
  exact ⟨g, by rw [← ht]; exact h, hg⟩
/-! ### the document's way -/
def repE (s : ES) : Bool × List THeard × Bool × List Int := (s.stops || s.all, s.heard, s.no, s.gone)
def mkS (p : List Int) (k : Nat) (down : Bool) (phase : Int) : Tstep := ⟨(p[k]?).getD 0, if k + 1 = p.length then 2 else phase, down⟩
theorem fn2_l0 (l : List TListener) (hl : l.length ≤ 60) (way : List Int) (k : Nat) (hk : k < way.length) (e : TEvent) (down : Bool) (ph : Int) (s0 : ES) (h0 : s0.all = false) (hh : s0.heard.length ≤ 900000) (hg : s0.gone.length ≤ 900000) (st : Tstep) (hst : st = ⟨way[k], ph, down⟩) :
    lim (fun kk => clerestoryref4_Sent_fn2_l0 l way (k : Int) e.f_Type down ph e.Target e.X e.Y e.Key e.Bubbles e.Cancels (fun (v32 : Bool) (v73 : (List THeard)) (v82 : Bool) (v93 : (List Int)) => some (v32, v73, v82, v93)) kk (s0.stops || s0.all) s0.heard s0.no s0.gone 0) = some (repE (l.foldl (oneL e.f_Type e.Cancels st) s0)) := by
  subst hst
  rcases rounds_lim (fun m (t : Bool × List THeard × Bool × List Int) i => clerestoryref4_Sent_fn2_l0 l way (k : Int) e.f_Type down ph e.Target e.X e.Y e.Key e.Bubbles e.Cancels (fun (v32 : Bool) (v73 : (List THeard)) (v82 : Bool) (v93 : (List Int)) => some (v32, v73, v82, v93)) m t.1 t.2.1 t.2.2.1 t.2.2.2 i) (fun t => some t) l.length
      (fun i t => t = repE ((l.take i).foldl (oneL e.f_Type e.Cancels ⟨way[k], ph, down⟩) s0) ∧ ((l.take i).foldl (oneL e.f_Type e.Cancels ⟨way[k], ph, down⟩) s0).all = false) (fun v => v = some (repE (l.foldl (oneL e.f_Type e.Cancels ⟨way[k], ph, down⟩) s0))) (repE s0)
    ⟨by simp, by simpa using h0⟩
    (fun m t ht => by rw [clerestoryref4_Sent_fn2_l0, if_neg (lt_neg _)])
    (fun t i hi ht => by
      obtain ⟨rfl, ha⟩ := ht
      have hlen := fold_len e.f_Type e.Cancels ⟨way[k], ph, down⟩ (l.take i) s0
      have htk : (l.take i).length ≤ 60 := by rw [List.length_take]; omega
      have hf : (l.take (i + 1)).foldl (oneL e.f_Type e.Cancels ⟨way[k], ph, down⟩) s0 = oneL e.f_Type e.Cancels ⟨way[k], ph, down⟩ ((l.take i).foldl (oneL e.f_Type e.Cancels ⟨way[k], ph, down⟩) s0) l[i] := by
        rw [take_succ_get hi, List.foldl_append]; rfl
      obtain ⟨s, hs⟩ : ∃ s, s = (l.take i).foldl (oneL e.f_Type e.Cancels ⟨way[k], ph, down⟩) s0 := ⟨_, rfl⟩
      rw [← hs] at ha hf hlen ⊢
      have hbody : ∀ m, clerestoryref4_Sent_fn2_l0 l way (k : Int) e.f_Type down ph e.Target e.X e.Y e.Key e.Bubbles e.Cancels (fun (v32 : Bool) (v73 : (List THeard)) (v82 : Bool) (v93 : (List Int)) => some (v32, v73, v82, v93)) (m + 1) (repE s).1 (repE s).2.1 (repE s).2.2.1 (repE s).2.2.2 (i : Int) =
          if (((!decide (l[i].Node = way[k])) || (!decide (l[i].f_Type = e.f_Type))) || (!((l[i].Capture == down) && true))) then
            clerestoryref4_Sent_fn2_l0 l way (k : Int) e.f_Type down ph e.Target e.X e.Y e.Key e.Bubbles e.Cancels (fun (v32 : Bool) (v73 : (List THeard)) (v82 : Bool) (v93 : (List Int)) => some (v32, v73, v82, v93)) m (repE s).1 (repE s).2.1 (repE s).2.2.1 (repE s).2.2.2 ((i + 1 : Nat) : Int)
          else if l[i].StopsAll then some ((((repE s).1 || l[i].Stops) || l[i].StopsAll), s.heard ++ [⟨l[i].ID, l[i].Node, ph⟩], (s.no || (l[i].Prevents && e.Cancels)), if l[i].Once then s.gone ++ [l[i].ID] else s.gone)
          else clerestoryref4_Sent_fn2_l0 l way (k : Int) e.f_Type down ph e.Target e.X e.Y e.Key e.Bubbles e.Cancels (fun (v32 : Bool) (v73 : (List THeard)) (v82 : Bool) (v93 : (List Int)) => some (v32, v73, v82, v93)) m (((repE s).1 || l[i].Stops) || l[i].StopsAll) (s.heard ++ [⟨l[i].ID, l[i].Node, ph⟩]) (s.no || (l[i].Prevents && e.Cancels)) (if l[i].Once then s.gone ++ [l[i].ID] else s.gone) ((i + 1 : Nat) : Int) := fun m => by
        rw [clerestoryref4_Sent_fn2_l0, if_pos (lt_pos hi), at_some hi, Option.bind_some, at_some hk, Option.bind_some]
        unfold clerestoryref4_Sent_fn2_j9 clerestoryref4_Sent_fn2_j8
        rw [wi_next hi (by omega)]
        split
        · rfl
        · have a1 : app? 24 s.heard [(⟨l[i].ID, l[i].Node, ph⟩ : THeard)] = some (s.heard ++ [⟨l[i].ID, l[i].Node, ph⟩]) := appq (by simp; omega)
          have a2 : app? 8 s.gone [l[i].ID] = some (s.gone ++ [l[i].ID]) := appq (by simp; omega)
          rw [show app? 24 (repE s).2.1 [(⟨l[i].ID, l[i].Node, ph⟩ : THeard)] = some (s.heard ++ [⟨l[i].ID, l[i].Node, ph⟩]) from a1, Option.bind_some]
          cases ho : l[i].Once with
          | true =>
            simp only [if_true]
            rw [show app? 8 (repE s).2.2.2 [l[i].ID] = some (s.gone ++ [l[i].ID]) from a2, Option.bind_some]
            rfl
          | false =>
            simp only [Bool.false_eq_true, if_false]
            rfl
      by_cases hc : ((((!s.all) && (decide (l[i].Node = way[k]))) && (decide (l[i].f_Type = e.f_Type))) && ((l[i].Capture == down) && true)) = true
      · have hn : ¬ (((!decide (l[i].Node = way[k])) || (!decide (l[i].f_Type = e.f_Type))) || (!((l[i].Capture == down) && true))) = true := by
          simp only [Bool.and_eq_true, Bool.or_eq_true, Bool.not_eq_true', decide_eq_false_iff_not, decide_eq_true_eq, Bool.and_true] at hc ⊢
          obtain ⟨⟨⟨_, h1⟩, h2⟩, h3⟩ := hc
          rintro ((h | h) | h)
          · exact h h1
          · exact h h2
          · rw [h3] at h; cases h
        have hnode : l[i].Node = way[k] := by
          simp only [Bool.and_eq_true, decide_eq_true_eq] at hc
          exact hc.1.1.2
        have h1 : oneL e.f_Type e.Cancels ⟨way[k], ph, down⟩ s l[i] = ⟨s.heard ++ [⟨l[i].ID, way[k], ph⟩], if l[i].Once then s.gone ++ [l[i].ID] else s.gone, s.stops || l[i].Stops, s.all || l[i].StopsAll, s.no || (l[i].Prevents && e.Cancels)⟩ := if_pos hc
        have hov : (((repE s).1 || l[i].Stops) || l[i].StopsAll) = ((s.stops || l[i].Stops) || (s.all || l[i].StopsAll)) := by
          show ((s.stops || s.all) || l[i].Stops || l[i].StopsAll) = _
          cases s.stops <;> cases s.all <;> cases l[i].Stops <;> rfl
        cases hsa : l[i].StopsAll with
        | true =>
          refine .inr ⟨some (repE (oneL e.f_Type e.Cancels ⟨way[k], ph, down⟩ s l[i])), ?_, fun m => ?_⟩
          · have hall : (oneL e.f_Type e.Cancels ⟨way[k], ph, down⟩ s l[i]).all = true := by rw [h1, hsa]; simp
            have : l.foldl (oneL e.f_Type e.Cancels ⟨way[k], ph, down⟩) s0 = oneL e.f_Type e.Cancels ⟨way[k], ph, down⟩ s l[i] := by
              conv => lhs; rw [← List.take_append_drop (i + 1) l]
              rw [List.foldl_append, hf, fold_all _ _ _ _ _ hall]
            rw [this]
          · rw [hbody, if_neg hn, if_pos hsa, hov, h1, hnode]
            rfl
        | false =>
          refine .inl ⟨_, ⟨rfl, ?_⟩, fun m => ?_⟩
          · rw [hf, h1, hsa, ha]; rfl
          · rw [hbody, if_neg hn, if_neg (by rw [hsa]; simp), hov, hf, h1, hnode]
            rfl
      · have h1 : oneL e.f_Type e.Cancels ⟨way[k], ph, down⟩ s l[i] = s := if_neg hc
        have hn : (((!decide (l[i].Node = way[k])) || (!decide (l[i].f_Type = e.f_Type))) || (!((l[i].Capture == down) && true))) = true := by
          rw [ha] at hc
          simp only [Bool.not_false, Bool.true_and] at hc
          cases q1 : decide (l[i].Node = way[k]) with
          | false => rfl
          | true =>
            cases q2 : decide (l[i].f_Type = e.f_Type) with
            | false => rfl
            | true =>
              rw [q1, q2] at hc
              simp only [Bool.true_and, Bool.not_eq_true] at hc
              rw [hc]; rfl
        refine .inl ⟨_, ⟨rfl, by rw [hf, h1]; exact ha⟩, fun m => ?_⟩
        rw [hbody, if_pos hn, hf, h1]) with ⟨t, ⟨ht, _⟩, h⟩ | ⟨v, hv, h⟩
  · rw [take_all] at ht
    rw [← ht]
    exact h
  · rw [← hv]
    exact h
theorem fn2_eq (l : List TListener) (hl : l.length ≤ 60) (way : List Int) (hw : way.length ≤ 1000) (k : Nat) (hk : k < way.length) (e : TEvent) (down : Bool) (ph : Int) (s0 : ES) (hh : s0.heard.length ≤ 900000) (hg : s0.gone.length ≤ 900000) :
    clerestoryref4_Sent_fn2 (k : Int) down ph (s0.stops || s0.all) way l e.f_Type e.Target e.X e.Y e.Key e.Bubbles e.Cancels s0.heard s0.no s0.gone = some (repE (doS e.f_Type e.Cancels l s0 (mkS way k down ph))) := by
  unfold clerestoryref4_Sent_fn2 doS
  cases ho : s0.stops || s0.all with
  | true => rw [if_pos rfl, if_pos rfl, ← ho]; rfl
  | false =>
    have ha : s0.all = false := by rw [Bool.or_eq_false_iff] at ho; exact ho.2
    have hm : ∀ p, (if k + 1 = way.length then (2 : Int) else ph) = p → lim (fun kk => clerestoryref4_Sent_fn2_l0 l way (k : Int) e.f_Type down p e.Target e.X e.Y e.Key e.Bubbles e.Cancels (fun (v32 : Bool) (v73 : (List THeard)) (v82 : Bool) (v93 : (List Int)) => some (v32, v73, v82, v93)) kk false s0.heard s0.no s0.gone 0) = some (repE (l.foldl (oneL e.f_Type e.Cancels (mkS way k down ph)) s0)) := fun p hp => by
      have := fn2_l0 l hl way k hk e down p s0 ha hh hg (mkS way k down ph) (by unfold mkS; rw [List.getElem?_eq_getElem hk, hp]; rfl)
      rw [ho] at this
      exact this
    simp only [Bool.false_eq_true, if_false]
    rw [wi_id (by omega) (by omega)]
    unfold clerestoryref4_Sent_fn2_j1
    by_cases hlast : k + 1 = way.length
    · rw [if_pos (by simp only [decide_eq_true_eq]; omega)]
      exact hm 2 (if_pos hlast)
    · rw [if_neg (by simp only [decide_eq_true_eq]; omega)]
      exact hm ph (if_neg hlast)
/-! ### the steps -/
def downs (p : List Int) (i : Nat) : List Tstep := (List.range i).map fun k => mkS p k true 1
theorem downs_succ (p : List Int) (i : Nat) : downs p (i + 1) = downs p i ++ [mkS p i true 1] := by unfold downs; rw [List.range_succ, List.map_append]; rfl
theorem downs_len (p : List Int) (i : Nat) : (downs p i).length = i := by unfold downs; simp
def ups (p : List Int) : Nat → List Tstep
  | 0 => []
  | c + 1 => mkS p c false 3 :: ups p c
theorem ups_len (p : List Int) : ∀ c, (ups p c).length = c
  | 0 => rfl
  | c + 1 => by rw [ups, List.length_cons, ups_len]
def stepsL (p : List Int) (b : Bool) : List Tstep := downs p p.length ++ (mkS p (p.length - 1) false 3 :: if b then ups p (p.length - 1) else [])
theorem fn1_eq (p : List Int) (hp : p.length ≤ 1000) (k : Nat) (other : Int) : event_steps_fn1 (k : Int) other (wi ((p.length : Int) - 1)) = if k + 1 = p.length then 2 else other := by
  unfold event_steps_fn1
  rw [wi_id (by omega) (by omega)]
  by_cases h : k + 1 = p.length
  · rw [if_pos h, if_pos (by simp only [decide_eq_true_eq]; omega)]
  · rw [if_neg h, if_neg (by simp only [decide_eq_true_eq]; omega)]
theorem ups_loop (p : List Int) (hp : p.length ≤ 202) (b : Bool) (K : List Tstep → Option (List Tstep)) : ∀ (c : Nat) (out : List Tstep), c < p.length → out.length + c ≤ 1000 → ∀ m, event_steps_l1 b p K (m + c + 1) out ((c : Int) - 1) = K (out ++ if b then ups p c else [])
  | 0, out, hc, ho, m => by
    rw [event_steps_l1, if_neg (by simp)]
    cases b <;> simp [ups]
  | c + 1, out, hc, ho, m => by
    have hcc : c < p.length := by omega
    rw [show ((c + 1 : Nat) : Int) - 1 = (c : Int) by omega, event_steps_l1]
    have hv : ¬ (c : Int) = wi ((p.length : Int) - 1) := by rw [wi_id (by omega) (by omega)]; omega
    cases b with
    | false =>
      rw [if_neg (by simp [hv])]
      simp
    | true =>
      have hmk : [(⟨p[c], event_steps_fn1 (c : Int) 3 (wi ((p.length : Int) - 1)), false⟩ : Tstep)] = [mkS p c false 3] := by
        rw [fn1_eq p (by omega)]
        unfold mkS
        rw [List.getElem?_eq_getElem hcc]; rfl
      rw [if_pos (by simp), at_some hcc, Option.bind_some, hmk, letIn_eq, appq (by simp; omega), Option.bind_some, wi_id (by omega) (by omega), show m + (c + 1) = m + c + 1 by omega, ups_loop p hp true K c _ (by omega) (by simp; omega), if_pos rfl, if_pos rfl, ups, List.append_assoc]
      rfl
theorem steps_eq (p : List Int) (hp : p.length ≤ 202) (hne : p ≠ []) (b : Bool) : event_steps p b = some (stepsL p b) := by
  have hpos : 0 < p.length := List.length_pos_iff.2 hne
  unfold event_steps
  obtain ⟨s, hs, h⟩ := rounds_all (fun k s i => event_steps_l0 p b (fun (out1 : (List Tstep)) =>
      lim fun kk => event_steps_l1 b p (fun (out3 : (List Tstep)) =>
          some out3) kk out1 (wi ((p.length : Int) - 1))) k s i) (fun (out1 : (List Tstep)) =>
      lim fun kk => event_steps_l1 b p (fun (out3 : (List Tstep)) =>
          some out3) kk out1 (wi ((p.length : Int) - 1))) p.length (fun i s => s = downs p i) [] rfl
    (fun m s hs => by rw [event_steps_l0, if_neg (lt_neg _)])
    (fun s i hi hs => ⟨_, rfl, fun m => by
      have hmk : [(⟨p[i], event_steps_fn1 (i : Int) 1 (wi ((p.length : Int) - 1)), true⟩ : Tstep)] = [mkS p i true 1] := by
        rw [fn1_eq p (by omega)]
        unfold mkS
        rw [List.getElem?_eq_getElem hi]; rfl
      rw [event_steps_l0, if_pos (lt_pos hi), at_some hi, Option.bind_some, hmk, letIn_eq, hs, appq (by rw [downs_len]; simp; omega), Option.bind_some, wi_next hi (by omega), downs_succ]⟩)
  refine h.trans ?_
  rw [hs]
  have hlast : p.length - 1 < p.length := by omega
  refine lim_add (p.length - 1 + 2) fun m => ?_
  have hmk : [(⟨p[p.length - 1], event_steps_fn1 ((p.length - 1 : Nat) : Int) 3 (wi ((p.length : Int) - 1)), false⟩ : Tstep)] = [mkS p (p.length - 1) false 3] := by
    rw [fn1_eq p (by omega)]
    unfold mkS
    rw [List.getElem?_eq_getElem hlast]; rfl
  have hw : wi ((p.length : Int) - 1) = ((p.length - 1 : Nat) : Int) := by rw [wi_id (by omega) (by omega)]; omega
  rw [show m + (p.length - 1 + 2) = m + (p.length - 1) + 1 + 1 by omega, hw, event_steps_l1, if_pos (by rw [hw]; simp), at_some hlast, Option.bind_some, hmk, letIn_eq, appq (by rw [downs_len]; simp; omega), Option.bind_some, wi_id (by omega) (by omega), ups_loop p hp b _ (p.length - 1) _ hlast (by rw [List.length_append, downs_len]; simp; omega)]
  unfold stepsL
  rw [List.append_assoc]
  rfl
end Go.Proofs.YtoomjemboekooaaDoorBv
