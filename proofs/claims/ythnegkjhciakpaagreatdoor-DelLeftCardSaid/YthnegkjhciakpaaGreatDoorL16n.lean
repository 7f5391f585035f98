/-  law16: DelLeft: the plain law; rows turned round.  -/
import Derived.Test.YthnegkjhciakpaaGreatDoorL16m
namespace Go.Proofs.YthnegkjhciakpaaGreatDoor
open Go Go.RowKit X
set_option linter.unusedSimpArgs false
set_option linter.unusedVariables false
set_option linter.unusedSectionVars false
variable [Floor]
theorem look_filter {P : Key × Nat → Bool} (hP : ∀ p q : Key × Nat, p.1 = q.1 → P p = P q) (l : Kv) (k : Key) : look (l.filter P) k = if P (k, 0) then look l k else none := by
  induction l with
  | nil => simp [look]
  | cons x r ih =>
    by_cases e : x.1 = k
    · have h1 : P x = P (k, 0) := hP _ _ e
      cases hp : P x with
      | true =>
        rw [List.filter_cons_of_pos hp]
        rw [← h1, hp]
        simp [look, e]
      | false =>
        rw [List.filter_cons_of_neg (by simp [hp]), ih, ← h1, hp]
        simp
    · cases hp : P x with
      | true =>
        rw [List.filter_cons_of_pos hp]
        simp only [look, e, if_false]
        rw [ih]
      | false =>
        rw [List.filter_cons_of_neg (by simp [hp])]
        simp only [look, e, if_false]
        rw [ih]
theorem below_key {part bs : Key} (p q : Key × Nat) (h : p.1 = q.1) : belowK part bs p = belowK part bs q := by unfold belowK; rw [h]
section
variable {part bs : Key} {v0 val : Option Nat} {kids kids' : UInt8 → E} {l : Kv}
theorem left_look (he : Can (.node part v0 kids) (look l)) (hk : ∀ c, kids' c = if c ∈ bs then kids c else .nil) (k : Key) : (E.node part val kids').get k = look (leftK part val bs l) k := by
  have hf := look_filter (P := belowK part bs) below_key l k
  have hv : look (leftK part val bs l) k = match val with | some x => if part = k then some x else look (l.filter (belowK part bs)) k | none => look (l.filter (belowK part bs)) k := by
    unfold leftK
    cases val with
    | none => rfl
    | some x => rfl
  rw [hv, hf]
  by_cases hp : part <+: k
  · obtain ⟨s, rfl⟩ := hp
    cases s with
    | nil =>
      rw [List.append_nil, get_nil]
      have hb : belowK part bs (part, 0) = false := by unfold belowK; simp
      rw [hb]
      cases val with
      | none => rfl
      | some x => simp
    | cons c r =>
      have hne : part ≠ part ++ c :: r := fun h => by have := congrArg List.length h; simp at this
      have hby : byteAt part.length (part ++ c :: r) = c := by
        rw [← byteAt_get (by simp)]
        simp
      have hb : belowK part bs (part ++ c :: r, 0) = decide (c ∈ bs) := by
        unfold belowK
        rw [decide_eq_true (show (part ++ c :: r).length ≠ part.length by simp), Bool.true_and]
        show decide (byteAt part.length (part ++ c :: r) ∈ bs) = _
        rw [hby]
      have hlk : look l (part ++ c :: r) = (kids c).get r := by rw [← he.get, get_cons]
      rw [get_cons, hb, hk, hlk]
      by_cases hc : c ∈ bs
      · rw [if_pos hc, decide_eq_true hc]
        cases val with
        | none => rfl
        | some x => simp [hne]
      · rw [if_neg hc, decide_eq_false hc]
        cases val with
        | none => rfl
        | some x => simp [hne]; rfl
  · have hn : look l k = none := by rw [← he.get, get_no hp]
    have hne : part ≠ k := fun h => hp (h ▸ List.prefix_rfl)
    rw [get_no hp, hn]
    cases val with
    | none => simp
    | some x => simp [hne]
theorem left_can (he : Can (.node part v0 kids) (look l)) (hk : ∀ c, kids' c = if c ∈ bs then kids c else .nil) : Can (normE part val kids') (look (leftK part val bs l)) :=
  ⟨normE_fine fun c => by
    rw [hk]
    split
    · exact he.fine.2 c
    · trivial, fun k => by rw [normE_get, left_look he hk]⟩
theorem left_pr (he : Can (.node part v0 kids) (look l)) (hp : Pr l) (hl : l.length ≤ 1000) (hpl : part.length ≤ 65535) : Pr (leftK part val bs l) := by
  have hr : Rises (l.filter (belowK part bs)) := List.Pairwise.filter _ hp.rises
  have hlf := List.length_filter_le (belowK part bs) l
  have hpre : ∀ p ∈ l.filter (belowK part bs), klt part p.1 := fun p hpm => by
    obtain ⟨h1, h2⟩ := List.mem_filter.1 hpm
    have h3 : (E.node part v0 kids).get p.1 = some p.2 := (he.get p.1).trans (hp.rises.lk h1)
    obtain ⟨s, hs⟩ := E.get_pre h3
    have h4 : p.1.length ≠ part.length := by
      unfold belowK at h2
      simp only [Bool.and_eq_true, decide_eq_true_eq] at h2
      exact h2.1
    cases s with
    | nil => rw [← hs] at h4; simp at h4
    | cons c r =>
      rw [← hs]
      have h := (klt_app part (a := []) (b := c :: r)).2 (by show (-1 : Int) < 0; decide)
      rwa [List.append_nil] at h
  cases val with
  | none => exact ⟨hr, fun p h => hp.keys p (List.mem_filter.1 h).1, by show (l.filter _).length ≤ _; omega⟩
  | some x =>
    refine ⟨List.pairwise_cons.2 ⟨hpre, hr⟩, fun p h => ?_, by show (l.filter _).length + 1 ≤ _; omega⟩
    rcases List.mem_cons.1 h with rfl | h
    · exact hpl
    · exact hp.keys p (List.mem_filter.1 h).1
end
section
variable {w w' : World} {v : Value} {l : List (UInt8 × T)} {B : Nat}
/-- an element of the call's own row is another one -/
theorem KO.set (h : KO w B v l) (i : Nat) (hi : i < l.length) (p : UInt8 × T) {K : World → Prop} (k : ∀ w1, KO w1 B v (l.set i p) → Ext (fun b => v.ownBlock = some b) w w1 → K w1) :
    xIxS v (.int .i64 i) 2 fun u => xAt u fun a => XDo P (storeVar T_del_Kid a (.agg #[bv p.1, p.2.v])) w K := by
  obtain ⟨cells, h1, h2⟩ := h
  have hcl : cells.length = l.length * 2 := h1.len
  refine Own.stN h1 (vs := [bv p.1, p.2.v]) i rfl hi rfl (by kernel_rfl) (fun u hu => ?_) fun w1 ho hz he => k w1 ⟨_, by rw [List.length_set]; exact ho, fun j q hq => ?_⟩ he
  · simp only [List.mem_cons, List.mem_nil_iff, or_false] at hu
    rcases hu with rfl | rfl <;> rfl
  · have e1 : (cells.take (i * 2)).length = i * 2 := by rw [List.length_take]; omega
    rw [List.getElem?_set] at hq
    split at hq
    · rename_i e
      subst e
      first | rw [if_pos hi] at hq | skip
      obtain rfl := Option.some.inj hq
      refine ⟨?_, ?_⟩
      · rw [List.append_assoc, List.getElem?_append_right (by omega), e1, Nat.sub_self]; rfl
      · rw [List.append_assoc, List.getElem?_append_right (by omega), e1, show i * 2 + 1 - i * 2 = 1 by omega]; rfl
    · rename_i e
      obtain ⟨g1, g2⟩ := h2 j q hq
      have hjl : j < l.length := by
        rcases Nat.lt_or_ge j l.length with h | h
        · exact h
        · rw [List.getElem?_eq_none h] at hq; cases hq
      have key : ∀ o, o < 2 → (cells.take (i * 2) ++ [bv p.1, p.2.v] ++ cells.drop (i * 2 + 2))[j * 2 + o]? = cells[j * 2 + o]? := fun o ho => by
        rw [List.append_assoc]
        rcases Nat.lt_or_ge j i with hji | hji
        · rw [List.getElem?_append_left (by omega), List.getElem?_take, if_pos (by omega)]
        · have : i < j := by omega
          rw [List.getElem?_append_right (by omega), e1, List.getElem?_append_right (by simp; omega), List.getElem?_drop]
          congr 1
          simp; omega
      exact ⟨(key 0 (by omega)).trans g1, by rw [key 1 (by omega)]; exact g2⟩
theorem RK.whole (h : RK w v l) (i : Nat) (hi : i < l.length) {K : Value → Prop} (k : K (.agg #[bv l[i].1, l[i].2.v])) : xIxS v (.int .i64 i) 2 fun u => xAt u fun a => XLdN w a 2 K := by
  obtain ⟨cells, h1, h2⟩ := h
  obtain ⟨h3, h4⟩ := h2 i l[i] (List.getElem?_eq_getElem hi)
  have h5 : (cells.drop (i * 2)).take 2 = [bv l[i].1, l[i].2.v] := by
    apply List.ext_getElem?
    intro j
    rw [List.getElem?_take]
    match j with
    | 0 => rw [if_pos (by omega), List.getElem?_drop]; exact h3
    | 1 => rw [if_pos (by omega), List.getElem?_drop]; exact h4
    | j + 2 => rw [if_neg (by omega)]; rfl
  refine h1.rdN i rfl hi ?_
  rw [h5]
  exact k
end
/-- what a turned row keeps -/
structure TurnR (l L : List (UInt8 × T)) (i : Nat) : Prop where
  len : L.length = l.length
  mem : ∀ p ∈ L, p ∈ l
  none : i = 0 → L = l
  ends : ∀ (h : 0 < i) (h0 : 0 < l.length), L[0]? = l[l.length - 1]? ∧ L[l.length - 1]? = l[0]?
theorem TurnR.step {l L : List (UInt8 × T)} {i j : Nat} (h : TurnR l L i) (hij : i < j) (hj : j + i + 1 = l.length) : TurnR l ((L.set i (L[j]'(by have := h.len; omega))).set j (L[i]'(by have := h.len; omega))) (i + 1) := by
  have hl := h.len
  refine ⟨by simp [hl], fun p hp => ?_, fun h => by omega, fun _ h0 => ?_⟩
  · rcases List.mem_or_eq_of_mem_set hp with hp | rfl
    · rcases List.mem_or_eq_of_mem_set hp with hp | rfl
      · exact h.mem p hp
      · exact h.mem _ (List.getElem_mem _)
    · exact h.mem _ (List.getElem_mem _)
  · by_cases hi : i = 0
    · subst hi
      obtain rfl := h.none rfl
      have hj' : j = L.length - 1 := by omega
      subst hj'
      refine ⟨?_, ?_⟩
      · rw [List.getElem?_set_ne (by omega), List.getElem?_set_self (by omega)]
        exact (List.getElem?_eq_getElem (by omega)).symm
      · rw [List.getElem?_set_self (by rw [List.length_set]; omega)]
        exact (List.getElem?_eq_getElem (by omega)).symm
    · obtain ⟨h1, h2⟩ := h.ends (by omega) h0
      rw [List.getElem?_set_ne (by omega), List.getElem?_set_ne (by omega), List.getElem?_set_ne (by omega), List.getElem?_set_ne (by omega)]
      exact ⟨h1, h2⟩
theorem TurnR.not_up {l L : List (UInt8 × T)} {i : Nat} (h : TurnR l L i) (hi : 0 < i) (hl : 2 ≤ l.length) (hu : UpK l) : ¬ UpK L := fun hL => by
  obtain ⟨h1, h2⟩ := h.ends hi (by omega)
  have hlen := h.len
  have e1 : L[0]'(by omega) = l[l.length - 1]'(by omega) := by
    rw [List.getElem?_eq_getElem (by omega), List.getElem?_eq_getElem (by omega)] at h1
    exact Option.some.inj h1
  have e2 : L[l.length - 1]'(by omega) = l[0]'(by omega) := by
    rw [List.getElem?_eq_getElem (by omega), List.getElem?_eq_getElem (by omega)] at h2
    exact Option.some.inj h2
  have a := List.pairwise_iff_getElem.1 hL 0 (l.length - 1) (by omega) (by omega) (by omega)
  have b := List.pairwise_iff_getElem.1 hu 0 (l.length - 1) (by omega) (by omega) (by omega)
  rw [e1, e2] at a
  omega
end Go.Proofs.YthnegkjhciakpaaGreatDoor
