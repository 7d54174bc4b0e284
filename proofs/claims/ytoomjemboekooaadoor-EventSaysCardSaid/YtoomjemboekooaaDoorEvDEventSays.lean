/- Who is left of those that listen, and what may be sent. No program is in sight. -/
import Derived.Test.YtoomjemboekooaaDoorEvSEventSays
namespace Go.Proofs.YtoomjemboekooaaDoorBv
open Go
set_option linter.unusedSimpArgs false
set_option linter.unusedVariables false
def kept (g : List Int) (l : List TListener) : List TListener := l.filter fun x => !decide (x.ID ∈ g)
section
variable (t : Tsending) (g : List Int) (hg : Mrep t.f_gone g)
include hg
theorem gone_dec (x : TListener) : (decide (((mget t.f_gone x.ID).getD (0 : Int)) = 1)) = decide (x.ID ∈ g) := decide_eq_decide.2 (hg x.ID)
theorem index_eq (l : List TListener) (hl : l.length ≤ 60) :
    (slices_IndexFunc_Listener1 l t.f_l t.f_e.f_Type t.f_e.Target t.f_e.X t.f_e.Y t.f_e.Key t.f_e.Bubbles t.f_e.Cancels t.f_heard t.f_gone t.f_stops t.f_all t.f_no = some (-1, l, t.f_l, t.f_e.f_Type, t.f_e.Target, t.f_e.X, t.f_e.Y, t.f_e.Key, t.f_e.Bubbles, t.f_e.Cancels, t.f_heard, t.f_gone, t.f_stops, t.f_all, t.f_no) ∧ kept g l = l) ∨
    ∃ (i : Nat) (h : i < l.length), slices_IndexFunc_Listener1 l t.f_l t.f_e.f_Type t.f_e.Target t.f_e.X t.f_e.Y t.f_e.Key t.f_e.Bubbles t.f_e.Cancels t.f_heard t.f_gone t.f_stops t.f_all t.f_no = some ((i : Int), l, t.f_l, t.f_e.f_Type, t.f_e.Target, t.f_e.X, t.f_e.Y, t.f_e.Key, t.f_e.Bubbles, t.f_e.Cancels, t.f_heard, t.f_gone, t.f_stops, t.f_all, t.f_no) ∧ kept g (l.take i) = l.take i ∧ l[i].ID ∈ g := by
  unfold slices_IndexFunc_Listener1
  rcases rounds_lim (fun k (_ : Unit) i => slices_IndexFunc_Listener1_l0 l (fun (f01 : (List TListener)) (f13 : (List UInt8)) (f21 : Int) (f31 : Int) (f41 : Int) (f51 : (List UInt8)) (f61 : Bool) (f71 : Bool) (f81 : (List THeard)) (f91 : (List (Int × Int))) (f101 : Bool) (f111 : Bool) (f121 : Bool) =>
      some ((-1), l, f01, f13, f21, f31, f41, f51, f61, f71, f81, f91, f101, f111, f121)) k t.f_l t.f_e.f_Type t.f_e.Target t.f_e.X t.f_e.Y t.f_e.Key t.f_e.Bubbles t.f_e.Cancels t.f_heard t.f_gone t.f_stops t.f_all t.f_no i) (fun _ => some (-1, l, t.f_l, t.f_e.f_Type, t.f_e.Target, t.f_e.X, t.f_e.Y, t.f_e.Key, t.f_e.Bubbles, t.f_e.Cancels, t.f_heard, t.f_gone, t.f_stops, t.f_all, t.f_no)) l.length
      (fun i _ => ∀ x ∈ l.take i, x.ID ∉ g) (fun v => ∃ (i : Nat) (h : i < l.length), v = some ((i : Int), l, t.f_l, t.f_e.f_Type, t.f_e.Target, t.f_e.X, t.f_e.Y, t.f_e.Key, t.f_e.Bubbles, t.f_e.Cancels, t.f_heard, t.f_gone, t.f_stops, t.f_all, t.f_no) ∧ kept g (l.take i) = l.take i ∧ l[i].ID ∈ g) () (fun x hx => by simp at hx)
    (fun m s hs => by rw [slices_IndexFunc_Listener1_l0, if_neg (lt_neg _)])
    (fun s i hi hs => by
      by_cases hc : l[i].ID ∈ g
      · refine .inr ⟨_, ⟨i, hi, rfl, List.filter_eq_self.2 fun x hx => by simpa using hs x hx, hc⟩, fun m => ?_⟩
        rw [slices_IndexFunc_Listener1_l0, if_pos (lt_pos hi), at_some hi, Option.bind_some]
        unfold event_Send_fn1
        rw [Option.bind_some, gone_dec t g hg, if_pos (by simpa using hc)]
      · refine .inl ⟨(), fun x hx => ?_, fun m => ?_⟩
        · rw [take_succ_get hi, List.mem_append, List.mem_singleton] at hx
          rcases hx with hx | rfl
          · exact hs x hx
          · exact hc
        · rw [slices_IndexFunc_Listener1_l0, if_pos (lt_pos hi), at_some hi, Option.bind_some]
          unfold event_Send_fn1
          rw [Option.bind_some, gone_dec t g hg, if_neg (by simpa using hc), wi_next hi (by omega)]) with ⟨s, hf, h⟩ | ⟨v, ⟨i, hi, rfl, h1, h2⟩, h⟩
  · rw [take_all] at hf
    exact .inl ⟨h, List.filter_eq_self.2 fun x hx => by simpa using hf x hx⟩
  · exact .inr ⟨i, hi, h, h1, h2⟩
theorem delete_loop (l : List TListener) (hl : l.length ≤ 60) : ∀ (c i j : Nat) (s : List TListener), j + c = l.length → i ≤ j → s.length = l.length → s.take i = kept g (l.take j) → s.drop j = l.drop j → ∃ (s' : List TListener) (i' : Nat), i' ≤ l.length ∧ s'.length = l.length ∧ s'.take i' = kept g l ∧
    ∀ (K : (List TListener) → (List TListener) → (List UInt8) → Int → Int → Int → (List UInt8) → Bool → Bool → (List THeard) → (List (Int × Int)) → Bool → Bool → Bool → Int → Option ((List TListener) × (List TListener) × (List UInt8) × Int × Int × Int × (List UInt8) × Bool × Bool × (List THeard) × (List (Int × Int)) × Bool × Bool × Bool)) m,
      slices_DeleteFunc_Listener_l0 K (m + c + 1) s t.f_l t.f_e.f_Type t.f_e.Target t.f_e.X t.f_e.Y t.f_e.Key t.f_e.Bubbles t.f_e.Cancels t.f_heard t.f_gone t.f_stops t.f_all t.f_no (i : Int) (j : Int) = K s' t.f_l t.f_e.f_Type t.f_e.Target t.f_e.X t.f_e.Y t.f_e.Key t.f_e.Bubbles t.f_e.Cancels t.f_heard t.f_gone t.f_stops t.f_all t.f_no (i' : Int)
  | 0, i, j, s, hc, hij, hs, h1, h2 => by
    obtain rfl : j = l.length := by omega
    rw [take_all] at h1
    refine ⟨s, i, hij, hs, h1, fun K m => ?_⟩
    rw [slices_DeleteFunc_Listener_l0, if_neg (by rw [hs]; exact lt_neg _)]
  | c + 1, i, j, s, hc, hij, hs, h1, h2 => by
    have hj : j < l.length := by omega
    have hjs : j < s.length := by omega
    have hx : s[j] = l[j] := by
      have e1 := List.drop_eq_getElem_cons hjs
      have e2 := List.drop_eq_getElem_cons hj
      rw [h2, e2] at e1
      exact (List.cons.inj e1).1.symm
    have hd : s.drop (j + 1) = l.drop (j + 1) := by
      have e1 := List.drop_eq_getElem_cons hjs
      have e2 := List.drop_eq_getElem_cons hj
      rw [h2, e2] at e1
      exact (List.cons.inj e1).2.symm
    have hk : kept g (l.take (j + 1)) = kept g (l.take j) ++ kept g [l[j]] := by
      unfold kept
      rw [take_succ_get hj, List.filter_append]
    by_cases hcg : l[j].ID ∈ g
    · have hk1 : kept g [l[j]] = [] := by unfold kept; rw [List.filter_cons_of_neg (by simpa using hcg)]; rfl
      obtain ⟨s', i', a1, a2, a3, a4⟩ := delete_loop l hl c i (j + 1) s (by omega) (by omega) hs (by rw [hk, hk1, List.append_nil]; exact h1) hd
      refine ⟨s', i', a1, a2, a3, fun K m => ?_⟩
      rw [slices_DeleteFunc_Listener_l0, if_pos (lt_pos hjs), at_some hjs, Option.bind_some, hx]
      unfold event_Send_fn1 slices_DeleteFunc_Listener_j3
      rw [Option.bind_some, gone_dec t g hg, if_neg (by simpa using hcg), wi_next hj (by omega), show m + (c + 1) = m + c + 1 by omega]
      exact a4 K m
    · have hk1 : kept g [l[j]] = [l[j]] := by unfold kept; rw [List.filter_cons_of_pos (by simpa using hcg)]; rfl
      have his : i < s.length := by omega
      have ht : (s.set i l[j]).take (i + 1) = kept g (l.take (j + 1)) := by
        rw [hk, hk1, ← h1, take_succ_get (by simp; omega), List.getElem_set_self, List.take_set_of_le (Nat.le_refl i)]
      have hd2 : (s.set i l[j]).drop (j + 1) = l.drop (j + 1) := by
        rw [List.drop_set_of_lt (by omega)]; exact hd
      obtain ⟨s', i', a1, a2, a3, a4⟩ := delete_loop l hl c (i + 1) (j + 1) (s.set i l[j]) (by omega) (by omega) (by rw [List.length_set]; exact hs) ht hd2
      refine ⟨s', i', a1, a2, a3, fun K m => ?_⟩
      rw [slices_DeleteFunc_Listener_l0, if_pos (lt_pos hjs), at_some hjs, Option.bind_some, hx]
      unfold event_Send_fn1 slices_DeleteFunc_Listener_j3
      rw [Option.bind_some, gone_dec t g hg, if_pos (by simpa using hcg), at_some his, Option.bind_some, Int.toNat_natCast, wi_next hj (by omega), wi_next his (by omega), show m + (c + 1) = m + c + 1 by omega]
      exact a4 K m
theorem delete_eq (l : List TListener) (hl : l.length ≤ 60) : slices_DeleteFunc_Listener l t.f_l t.f_e.f_Type t.f_e.Target t.f_e.X t.f_e.Y t.f_e.Key t.f_e.Bubbles t.f_e.Cancels t.f_heard t.f_gone t.f_stops t.f_all t.f_no = some (kept g l, t.f_l, t.f_e.f_Type, t.f_e.Target, t.f_e.X, t.f_e.Y, t.f_e.Key, t.f_e.Bubbles, t.f_e.Cancels, t.f_heard, t.f_gone, t.f_stops, t.f_all, t.f_no) := by
  unfold slices_DeleteFunc_Listener
  rcases index_eq t g hg l hl with ⟨h1, h2⟩ | ⟨i, hi, h1, h2, h3⟩
  · rw [h1, Option.bind_some]
    unfold guardLen
    rw [if_pos rfl, if_pos (by simp), h2]
  · rw [h1, Option.bind_some]
    unfold guardLen
    rw [if_pos rfl, if_neg (by simp only [decide_eq_true_eq]; omega)]
    have hk1 : kept g [l[i]] = [] := by unfold kept; rw [List.filter_cons_of_neg (by simpa using h3)]; rfl
    obtain ⟨s', i', a1, a2, a3, a4⟩ := delete_loop t g hg l hl (l.length - (i + 1)) i (i + 1) l (by omega) (by omega) rfl (by
      have : kept g (l.take (i + 1)) = kept g (l.take i) ++ kept g [l[i]] := by unfold kept; rw [take_succ_get hi, List.filter_append]
      rw [this, hk1, h2, List.append_nil]) rfl
    refine lim_add (l.length - (i + 1) + 1) fun m => ?_
    dsimp only
    rw [wi_next hi (by omega), ← Nat.add_assoc, a4, show sub? s' (i' : Int) (s'.length : Int) = some (s'.drop i') from sub_drop (by omega), Option.bind_some, letIn_eq]
    have hcl : (clrd s' (i' : Int) (⟨0, 0, [], false, false, false, false, false⟩ : TListener)).take i' = kept g l := by
      unfold clrd
      rw [Int.toNat_natCast, List.take_append_of_le_length (by rw [List.length_take]; omega), List.take_take, Nat.min_self, a3]
    have hcn : i' ≤ (clrd s' (i' : Int) (⟨0, 0, [], false, false, false, false, false⟩ : TListener)).length := by
      rw [← len_clrd ⟨by omega, by omega⟩]; omega
    rw [sub_take hcn, Option.bind_some, hcl]
end
/-! ### what is asked -/
def badL (d : TDoc) (x : TListener) : Prop := x.Node < 0 ∨ (d.Nodes.length : Int) ≤ x.Node
theorem nodup_snoc {l : List Int} {x : Int} : (l ++ [x]).Nodup ↔ l.Nodup ∧ x ∉ l := by
  rw [List.nodup_append]
  constructor
  · rintro ⟨h1, _, h3⟩
    exact ⟨h1, fun hm => h3 x hm x (List.mem_singleton.2 rfl) rfl⟩
  · rintro ⟨h1, h2⟩
    refine ⟨h1, by simp, fun a ha b hb e => ?_⟩
    rw [List.mem_singleton] at hb
    subst hb; subst e
    exact h2 ha
theorem asked_loop (l : List TListener) (hl : l.length ≤ 60) (d : TDoc) (e : TEvent) (K : Bool → Option (List Int × Int)) :
    (∃ b, (∀ x ∈ l, ¬ badL d x) ∧ (b = true ↔ ¬ (l.map (·.ID)).Nodup) ∧ lim (fun kk => event_asked_l0 l d e K kk ([] : List (Int × Int)) false 0) = K b) ∨ ((¬ ∀ x ∈ l, ¬ badL d x) ∧ lim (fun kk => event_asked_l0 l d e K kk ([] : List (Int × Int)) false 0) = some ([], 1)) := by
  rcases rounds_lim (fun k (s : List (Int × Int) × Bool) i => event_asked_l0 l d e K k s.1 s.2 i) (fun s => K s.2) l.length (fun i s => Mrep s.1 ((l.take i).map (·.ID)) ∧ (s.2 = true ↔ ¬ ((l.take i).map (·.ID)).Nodup) ∧ ∀ x ∈ l.take i, ¬ badL d x) (fun v => v = some ([], 1) ∧ ¬ ∀ x ∈ l, ¬ badL d x) ([], false)
    ⟨by simpa using mrep_nil, by simp, fun x hx => by simp at hx⟩
    (fun m s hs => by rw [event_asked_l0, if_neg (lt_neg _)])
    (fun s i hi hs => by
      obtain ⟨h1, h2, h3⟩ := hs
      by_cases hb : badL d l[i]
      · refine .inr ⟨_, ⟨rfl, fun h => h _ (List.getElem_mem hi) hb⟩, fun m => ?_⟩
        rw [event_asked_l0, if_pos (lt_pos hi), at_some hi, Option.bind_some, if_pos (by simp only [Bool.or_eq_true, decide_eq_true_eq]; exact hb)]
      · refine .inl ⟨(mset s.1 l[i].ID 1, (s.2 || (decide (((mget s.1 l[i].ID).getD (0 : Int)) = 1)))), ⟨?_, ?_, ?_⟩, fun m => ?_⟩
        · rw [take_succ_get hi, List.map_append]
          exact mrep_set h1 _
        · rw [take_succ_get hi, List.map_append]
          show (s.2 || decide _) = true ↔ ¬ (((l.take i).map (·.ID)) ++ [l[i].ID]).Nodup
          rw [nodup_snoc, Bool.or_eq_true, h2, decide_eq_true_iff, h1 l[i].ID]
          constructor
          · rintro (h | h) ⟨a, b⟩
            · exact h a
            · exact b h
          · intro h
            by_cases hn : ((l.take i).map (·.ID)).Nodup
            · by_cases hm : l[i].ID ∈ (l.take i).map (·.ID)
              · exact .inr hm
              · exact absurd ⟨hn, hm⟩ h
            · exact .inl hn
        · intro x hx
          rw [take_succ_get hi, List.mem_append, List.mem_singleton] at hx
          rcases hx with hx | rfl
          · exact h3 x hx
          · exact hb
        · rw [event_asked_l0, if_pos (lt_pos hi), at_some hi, Option.bind_some, if_neg (by simp only [Bool.or_eq_true, decide_eq_true_eq]; exact hb), letIn_eq, wi_next hi (by omega)]) with ⟨s, ⟨h1, h2, h3⟩, h⟩ | ⟨v, ⟨rfl, hv⟩, h⟩
  · rw [take_all] at h2 h3
    exact .inl ⟨s.2, h3, h2, h⟩
  · exact .inr ⟨hv, h⟩
abbrev R4 := List THeard × Bool × List TListener × Int
theorem twice_loop (r : List TListener) (x : TListener) (l : List TListener) (v : Int) (d : TDoc) (e : TEvent) (K : Bool → Option R4) (hr : r.length ≤ 60) (b0 : Bool) :
    lim (fun kk => clerestoryref4_Sent_l3 r x l v d e K kk b0 0) = K (b0 || decide (x.ID ∈ r.map (·.ID))) := by
  obtain ⟨s, hs, h⟩ := rounds_all (fun k (s : Bool) i => clerestoryref4_Sent_l3 r x l v d e K k s i) K r.length (fun i s => s = (b0 || decide (x.ID ∈ (r.take i).map (·.ID)))) b0 (by simp)
    (fun m s hs => by rw [clerestoryref4_Sent_l3, if_neg (lt_neg _)])
    (fun s i hi hs => ⟨(s || decide (x.ID = r[i].ID)), by
      rw [hs, take_succ_get hi, List.map_append, Bool.or_assoc]
      congr 1
      rw [Bool.eq_iff_iff]
      simp, fun m => by
      rw [clerestoryref4_Sent_l3, if_pos (lt_pos hi), at_some hi, Option.bind_some, wi_next hi (by omega)]⟩)
  rw [take_all] at hs
  rw [← hs]
  exact h
theorem sent_loop (l : List TListener) (hl : l.length ≤ 60) (d : TDoc) (hd : 0 < d.Nodes.length ∧ d.Nodes.length ≤ 200) (e : TEvent) (K : Bool → Option R4) :
    (∃ b, (∀ x ∈ l, ¬ badL d x) ∧ (b = true ↔ ¬ (l.map (·.ID)).Nodup) ∧ lim (fun kk => clerestoryref4_Sent_l2 l d e K kk false 0) = K b) ∨ ((¬ ∀ x ∈ l, ¬ badL d x) ∧ lim (fun kk => clerestoryref4_Sent_l2 l d e K kk false 0) = some ([], false, [], 1)) := by
  rcases rounds_lim (fun k (s : Bool) i => clerestoryref4_Sent_l2 l d e K k s i) K l.length (fun i s => (s = true ↔ ¬ ((l.take i).map (·.ID)).Nodup) ∧ ∀ x ∈ l.take i, ¬ badL d x) (fun v => v = some ([], false, [], 1) ∧ ¬ ∀ x ∈ l, ¬ badL d x) false
    ⟨by simp, fun x hx => by simp at hx⟩
    (fun m s hs => by rw [clerestoryref4_Sent_l2, if_neg (lt_neg _)])
    (fun s i hi hs => by
      obtain ⟨h2, h3⟩ := hs
      have hw : wi ((d.Nodes.length : Int) - 1) = (d.Nodes.length : Int) - 1 := wi_id (by omega) (by omega)
      by_cases hb : badL d l[i]
      · refine .inr ⟨_, ⟨rfl, fun h => h _ (List.getElem_mem hi) hb⟩, fun m => ?_⟩
        rw [clerestoryref4_Sent_l2, if_pos (lt_pos hi), at_some hi, Option.bind_some, hw, if_pos]
        · rfl
        · unfold badL at hb
          unfold clerestoryref4_Between
          simp only [Bool.not_eq_true', Bool.and_eq_false_iff, decide_eq_false_iff_not]
          omega
      · refine .inl ⟨(s || decide (l[i].ID ∈ (l.take i).map (·.ID))), ⟨?_, ?_⟩, fun m => ?_⟩
        · rw [take_succ_get hi, List.map_append]
          show _ ↔ ¬ (((l.take i).map (·.ID)) ++ [l[i].ID]).Nodup
          rw [nodup_snoc, Bool.or_eq_true, h2, decide_eq_true_iff]
          constructor
          · rintro (h | h) ⟨a, b⟩
            · exact h a
            · exact b h
          · intro h
            by_cases hn : ((l.take i).map (·.ID)).Nodup
            · by_cases hm : l[i].ID ∈ (l.take i).map (·.ID)
              · exact .inr hm
              · exact absurd ⟨hn, hm⟩ h
            · exact .inl hn
        · intro x hx
          rw [take_succ_get hi, List.mem_append, List.mem_singleton] at hx
          rcases hx with hx | rfl
          · exact h3 x hx
          · exact hb
        · rw [clerestoryref4_Sent_l2, if_pos (lt_pos hi), at_some hi, Option.bind_some, hw, if_neg, sub_take (by omega), Option.bind_some, twice_loop _ _ _ _ _ _ _ (by rw [List.length_take]; omega), wi_next hi (by omega)]
          unfold badL at hb
          unfold clerestoryref4_Between
          simp only [Bool.not_eq_true', Bool.and_eq_false_iff, decide_eq_false_iff_not]
          omega) with ⟨s, ⟨h2, h3⟩, h⟩ | ⟨v, ⟨rfl, hv⟩, h⟩
  · rw [take_all] at h2 h3
    exact .inl ⟨s, h3, h2, h⟩
  · exact .inr ⟨hv, h⟩
theorem left_eq (l : List TListener) (hl : l.length ≤ 60) (p3 : Bool) (K : List THeard → List TListener → Option R4) (hd : List THeard) (g : List Int) (hg : g.length ≤ 900000) :
    lim (fun kk => clerestoryref4_Sent_l6 l p3 K kk hd g ([] : List TListener) 0) = K hd (kept g l) := by
  obtain ⟨s, hs, h⟩ := rounds_all (fun k (s : List TListener) i => clerestoryref4_Sent_l6 l p3 K k hd g s i) (fun s => K hd s) l.length (fun i s => s = kept g (l.take i)) [] (by simp [kept])
    (fun m s hs => by rw [clerestoryref4_Sent_l6, if_neg (lt_neg _)])
    (fun s i hi hs => ⟨_, rfl, fun m => by
      obtain ⟨b, b1, b2⟩ := contains_eq g l[i].ID (by omega)
      have hlen : s.length ≤ 60 := by rw [hs]; exact Nat.le_trans (List.length_filter_le _ _) (by rw [List.length_take]; omega)
      have hk : kept g (l.take (i + 1)) = s ++ kept g [l[i]] := by rw [hs]; unfold kept; rw [take_succ_get hi, List.filter_append]
      rw [clerestoryref4_Sent_l6, if_pos (lt_pos hi), at_some hi, Option.bind_some, b1, Option.bind_some, hk]
      unfold clerestoryref4_Sent_j3
      rw [wi_next hi (by omega)]
      cases b with
      | true =>
        have hk1 : kept g [l[i]] = [] := by unfold kept; rw [List.filter_cons_of_neg (by simpa using b2.1 rfl)]; rfl
        rw [if_neg (by simp), hk1, List.append_nil]
      | false =>
        have hn : l[i].ID ∉ g := fun h => by have := b2.2 h; cases this
        have hk1 : kept g [l[i]] = [l[i]] := by unfold kept; rw [List.filter_cons_of_pos (by simpa using hn)]; rfl
        rw [if_pos (by simp), appq (by simp; omega), Option.bind_some, hk1]⟩)
  rw [take_all] at hs
  rw [← hs]
  exact h
end Go.Proofs.YtoomjemboekooaaDoorBv
