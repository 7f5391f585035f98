/-  plain: a shape's text tells the tree.  -/
import Derived.Test.YtidkkkdlaclolaaGreatMap
namespace Go.Proofs.YtidkkkdlaclolaaGreat
open Go X
set_option linter.unusedSimpArgs false
set_option linter.unusedVariables false
def digc (c : UInt8) : Prop := 48 ≤ c.toNat ∧ c.toNat ≤ 57
def hexc (c : UInt8) : Prop := (48 ≤ c.toNat ∧ c.toNat ≤ 57) ∨ (97 ≤ c.toNat ∧ c.toNat ≤ 102)
instance (c : UInt8) : Decidable (digc c) := by unfold digc; infer_instance
instance (c : UInt8) : Decidable (hexc c) := by unfold hexc; infer_instance
theorem span_inj {p : UInt8 → Prop} : ∀ {a b r s : List UInt8}, (∀ c ∈ a, p c) → (∀ c ∈ b, p c) → (∀ c, r.head? = some c → ¬ p c) → (∀ c, s.head? = some c → ¬ p c) → a ++ r = b ++ s → a = b ∧ r = s := by
  intro a
  induction a with
  | nil =>
    intro b r s ha hb hr hs h
    cases b with
    | nil => exact ⟨rfl, h⟩
    | cons d b =>
      simp at h
      subst h
      exact absurd (hb d (by simp)) (hr d (by simp))
  | cons c a ih =>
    intro b r s ha hb hr hs h
    cases b with
    | nil =>
      simp at h
      subst h
      exact absurd (ha c (by simp)) (hs c (by simp))
    | cons d b =>
      simp at h
      obtain ⟨rfl, h⟩ := h
      obtain ⟨rfl, h2⟩ := ih (fun x hx => ha x (List.mem_cons_of_mem _ hx)) (fun x hx => hb x (List.mem_cons_of_mem _ hx)) hr hs h
      exact ⟨rfl, h2⟩
theorem hexD_hex : ∀ n : Fin 16, hexc (hexD n) := by decide
theorem hexD_inj : ∀ n m : Fin 16, hexD n = hexD m → n = m := by decide
theorem hexB_inj {c d : UInt8} (h : hexB c = hexB d) : c = d := by
  have hc : c.toNat < 256 := c.toNat_lt
  have hd : d.toNat < 256 := d.toNat_lt
  unfold hexB at h
  simp only [List.cons.injEq, and_true] at h
  have h1 := hexD_inj ⟨c.toNat / 16, by omega⟩ ⟨d.toNat / 16, by omega⟩ h.1
  have h2 := hexD_inj ⟨c.toNat % 16, by omega⟩ ⟨d.toNat % 16, by omega⟩ h.2
  simp only [Fin.mk.injEq] at h1 h2
  exact UInt8.toNat_inj.1 (by omega)
theorem hexK_hex (k : Key) : ∀ c ∈ hexK k, hexc c := by
  intro c hc
  unfold hexK at hc
  obtain ⟨x, -, hx⟩ := List.mem_flatMap.1 hc
  have hl : x.toNat < 256 := x.toNat_lt
  unfold hexB at hx
  simp only [List.mem_cons, List.mem_nil_iff, or_false] at hx
  rcases hx with rfl | rfl
  · exact hexD_hex ⟨x.toNat / 16, by omega⟩
  · exact hexD_hex ⟨x.toNat % 16, by omega⟩
theorem hexK_inj : ∀ {a b : Key}, hexK a = hexK b → a = b := by
  intro a
  induction a with
  | nil =>
    intro b h
    cases b with
    | nil => rfl
    | cons d b => have := congrArg List.length h; rw [hexK_length, hexK_length] at this; simp at this
  | cons c a ih =>
    intro b h
    cases b with
    | nil => have := congrArg List.length h; rw [hexK_length, hexK_length] at this; simp at this
    | cons d b =>
      have h : hexB c ++ hexK a = hexB d ++ hexK b := h
      obtain ⟨h1, h2⟩ := List.append_inj h (by simp [hexB])
      rw [hexB_inj h1, ih h2]
theorem decK_dig : ∀ n : Nat, decK n ≠ [] ∧ (∀ c ∈ decK n, digc c) ∧ (decK n).foldl (fun a c => 10 * a + (c.toNat - 48)) 0 = n := by
  intro n
  induction n using Nat.strongRecOn with
  | _ n ih =>
    have one : ∀ m, m < 10 → digc (UInt8.ofNat (48 + m)) ∧ (UInt8.ofNat (48 + m)).toNat - 48 = m := fun m hm => by
      have : (UInt8.ofNat (48 + m)).toNat = 48 + m := by simp; omega
      unfold digc
      rw [this]
      omega
    by_cases h : n < 10
    · rw [decK_small h]
      obtain ⟨h1, h2⟩ := one n h
      refine ⟨by simp, fun c hc => by rw [List.mem_singleton.1 hc]; exact h1, ?_⟩
      show 10 * 0 + _ = n
      rw [h2]; omega
    · obtain ⟨h1, h2, h3⟩ := ih (n / 10) (by omega)
      obtain ⟨h4, h5⟩ := one (n % 10) (by omega)
      rw [decK_big h]
      refine ⟨by simp, fun c hc => ?_, ?_⟩
      · rcases List.mem_append.1 hc with e | e
        · exact h2 c e
        · rw [List.mem_singleton.1 e]; exact h4
      · rw [List.foldl_append, h3]
        show 10 * (n / 10) + _ = n
        rw [h5]; omega
theorem decK_inj {n m : Nat} (h : decK n = decK m) : n = m := by
  rw [← (decK_dig n).2.2, h, (decK_dig m).2.2]
theorem valS_inj {v v' : Option Nat} {r r' : List UInt8} (hr : ∀ c, r.head? = some c → c = 58 ∨ c = 62) (hr' : ∀ c, r'.head? = some c → c = 58 ∨ c = 62) (h : valS v ++ r = valS v' ++ r') : v = v' ∧ r = r' := by
  have nd : ∀ c : UInt8, c = 58 ∨ c = 62 → ¬ digc c := by rintro c (rfl | rfl) <;> decide
  cases v with
  | none =>
    cases v' with
    | none => exact ⟨rfl, h⟩
    | some y =>
      have h : r = 61 :: (decK y ++ r') := h
      rcases hr 61 (by rw [h]; rfl) with e | e <;> exact absurd e (by decide)
  | some x =>
    cases v' with
    | none =>
      have h : 61 :: (decK x ++ r) = r' := h
      rcases hr' 61 (by rw [← h]; rfl) with e | e <;> exact absurd e (by decide)
    | some y =>
      have h : 61 :: (decK x ++ r) = 61 :: (decK y ++ r') := h
      obtain ⟨h1, h2⟩ := span_inj (p := digc) (decK_dig x).2.1 (decK_dig y).2.1 (fun c hc => nd c (hr c hc)) (fun c hc => nd c (hr' c hc)) (List.cons.inj h).2
      exact ⟨by rw [decK_inj h1], h2⟩
theorem opt_none {e : E} : e.opt = none ↔ e = .nil := by cases e <;> simp [E.opt]
def kidsS (kids : UInt8 → E) (d : List UInt8) : List UInt8 := d.flatMap fun c => 58 :: (hexB c ++ (kids c).shape)
theorem kidsS_head {kids : UInt8 → E} {d r : List UInt8} : ∀ c, (kidsS kids d ++ 62 :: r).head? = some c → c = 58 ∨ c = 62 := by
  intro c h
  cases d with
  | nil => have h : some (62 : UInt8) = some c := h; exact .inr (Option.some.inj h).symm
  | cons x d => have h : some (58 : UInt8) = some c := h; exact .inl (Option.some.inj h).symm
theorem kidsS_inj {kids kids' : UInt8 → E} (ih : ∀ c (e' : E) {r r' : List UInt8}, (∀ c, r.head? = some c → c = 58 ∨ c = 62) → (∀ c, r'.head? = some c → c = 58 ∨ c = 62) → (kids c).shape ++ r = e'.shape ++ r' → kids c = e' ∧ r = r') : ∀ {d d' r r' : List UInt8}, kidsS kids d ++ 62 :: r = kidsS kids' d' ++ 62 :: r' → d = d' ∧ (∀ c ∈ d, kids c = kids' c) ∧ r = r' := by
  intro d
  induction d with
  | nil =>
    intro d' r r' h
    cases d' with
    | nil => exact ⟨rfl, (fun c hc => by cases hc), (List.cons.inj h).2⟩
    | cons x d' =>
      have h : (62 : UInt8) :: r = 58 :: _ := h
      exact absurd (List.cons.inj h).1 (by decide)
  | cons c d ihd =>
    intro d' r r' h
    cases d' with
    | nil =>
      have h : (58 : UInt8) :: _ = 62 :: r' := h
      exact absurd (List.cons.inj h).1 (by decide)
    | cons x d' =>
      have h : 58 :: (hexB c ++ (kids c).shape) ++ kidsS kids d ++ 62 :: r = 58 :: (hexB x ++ (kids' x).shape) ++ kidsS kids' d' ++ 62 :: r' := h
      simp only [List.cons_append, List.append_assoc, List.cons.injEq, true_and] at h
      obtain ⟨h1, h2⟩ := List.append_inj h (by simp [hexB])
      obtain rfl := hexB_inj h1
      obtain ⟨h3, h4⟩ := ih c (kids' c) kidsS_head kidsS_head h2
      obtain ⟨rfl, h5, rfl⟩ := ihd h4
      refine ⟨rfl, fun y hy => ?_, rfl⟩
      rcases List.mem_cons.1 hy with rfl | hy
      · exact h3
      · exact h5 y hy
theorem shape_inner (part : Key) (val : Option Nat) (kids : UInt8 → E) (r : List UInt8) (h : cntE kids ≠ 0) : (E.node part val kids).shape ++ r = decK (kindN (cntE kids)) ++ (60 :: (hexK part ++ (valS val ++ (kidsS kids (dom fun c => (kids c).opt) ++ 62 :: r)))) := by
  rw [E.shape, if_neg h]
  simp [kidsS]
theorem shape_leaf (part : Key) (val : Option Nat) (kids : UInt8 → E) (r : List UInt8) (h : cntE kids = 0) : (E.node part val kids).shape ++ r = 76 :: (hexK part ++ (valS val ++ r)) := by
  rw [E.shape, if_pos h]
  simp
theorem dec_head (n : Nat) (r : List UInt8) : ∃ c s, decK n ++ r = c :: s ∧ digc c := by
  obtain ⟨h1, h2, -⟩ := decK_dig n
  cases h : decK n with
  | nil => exact absurd h h1
  | cons c s => exact ⟨c, _, rfl, h2 c (by rw [h]; simp)⟩
theorem val_head {v : Option Nat} {r : List UInt8} (hr : ∀ c, r.head? = some c → c = 58 ∨ c = 62) : ∀ c, (valS v ++ r).head? = some c → ¬ hexc c := by
  intro c h
  cases v with
  | none => rcases hr c h with rfl | rfl <;> decide
  | some x => have h : some (61 : UInt8) = some c := h; rw [← Option.some.inj h]; decide
theorem shape_inj : ∀ (e e' : E) {r r' : List UInt8}, (∀ c, r.head? = some c → c = 58 ∨ c = 62) → (∀ c, r'.head? = some c → c = 58 ∨ c = 62) → e.shape ++ r = e'.shape ++ r' → e = e' ∧ r = r' := by
  intro e
  induction e with
  | nil =>
    intro e' r r' hr hr' h
    cases e' with
    | nil => exact ⟨rfl, (List.cons.inj h).2⟩
    | node part val kids =>
      exfalso
      have h : 46 :: r = (E.node part val kids).shape ++ r' := h
      by_cases h0 : cntE kids = 0
      · rw [shape_leaf _ _ _ _ h0] at h
        exact absurd (List.cons.inj h).1 (by decide)
      · rw [shape_inner _ _ _ _ h0] at h
        obtain ⟨c, s, h1, h2⟩ := dec_head (kindN (cntE kids)) (60 :: (hexK part ++ (valS val ++ (kidsS kids (dom fun c => (kids c).opt) ++ 62 :: r'))))
        rw [h1] at h
        rw [← (List.cons.inj h).1] at h2
        exact absurd h2 (by decide)
  | node part val kids ih =>
    intro e' r r' hr hr' h
    cases e' with
    | nil =>
      exfalso
      have h : (E.node part val kids).shape ++ r = 46 :: r' := h
      by_cases h0 : cntE kids = 0
      · rw [shape_leaf _ _ _ _ h0] at h
        exact absurd (List.cons.inj h).1 (by decide)
      · rw [shape_inner _ _ _ _ h0] at h
        obtain ⟨c, s, h1, h2⟩ := dec_head (kindN (cntE kids)) (60 :: (hexK part ++ (valS val ++ (kidsS kids (dom fun c => (kids c).opt) ++ 62 :: r))))
        rw [h1] at h
        rw [(List.cons.inj h).1] at h2
        exact absurd h2 (by decide)
    | node part' val' kids' =>
      by_cases h0 : cntE kids = 0
      · by_cases h0' : cntE kids' = 0
        · rw [shape_leaf _ _ _ _ h0, shape_leaf _ _ _ _ h0'] at h
          obtain ⟨h1, h2⟩ := span_inj (p := hexc) (hexK_hex part) (hexK_hex part') (val_head hr) (val_head hr') (List.cons.inj h).2
          obtain ⟨rfl, h3⟩ := valS_inj hr hr' h2
          obtain rfl := hexK_inj h1
          obtain rfl : kids = kids' := (cntE_zero h0).trans (cntE_zero h0').symm
          exact ⟨rfl, h3⟩
        · exfalso
          rw [shape_leaf _ _ _ _ h0, shape_inner _ _ _ _ h0'] at h
          obtain ⟨c, s, h1, h2⟩ := dec_head (kindN (cntE kids')) (60 :: (hexK part' ++ (valS val' ++ (kidsS kids' (dom fun c => (kids' c).opt) ++ 62 :: r'))))
          rw [h1] at h
          rw [← (List.cons.inj h).1] at h2
          exact absurd h2 (by decide)
      · by_cases h0' : cntE kids' = 0
        · exfalso
          rw [shape_leaf _ _ _ _ h0', shape_inner _ _ _ _ h0] at h
          obtain ⟨c, s, h1, h2⟩ := dec_head (kindN (cntE kids)) (60 :: (hexK part ++ (valS val ++ (kidsS kids (dom fun c => (kids c).opt) ++ 62 :: r))))
          rw [h1] at h
          rw [(List.cons.inj h).1] at h2
          exact absurd h2 (by decide)
        · rw [shape_inner _ _ _ _ h0, shape_inner _ _ _ _ h0'] at h
          have n60 : ∀ (s : List UInt8) (c : UInt8), ((60 : UInt8) :: s).head? = some c → ¬ digc c := fun s c hc => by
            have hc : some (60 : UInt8) = some c := hc
            rw [← Option.some.inj hc]; decide
          obtain ⟨-, h1⟩ := span_inj (p := digc) (decK_dig _).2.1 (decK_dig _).2.1 (n60 _) (n60 _) h
          obtain ⟨h2, h3⟩ := span_inj (p := hexc) (hexK_hex part) (hexK_hex part') (val_head kidsS_head) (val_head kidsS_head) (List.cons.inj h1).2
          obtain ⟨rfl, h4⟩ := valS_inj kidsS_head kidsS_head h3
          obtain rfl := hexK_inj h2
          obtain ⟨hd, hk, h5⟩ := kidsS_inj (fun c e' => ih c e') h4
          obtain rfl : kids = kids' := funext fun c => by
            by_cases hc : c ∈ dom fun c => (kids c).opt
            · exact hk c hc
            · have h1 : (kids c).opt = none := by
                cases ho : (kids c).opt with
                | none => rfl
                | some u => exact absurd (dom_mem.2 (by show (kids c).opt.isSome = true; rw [ho]; rfl)) hc
              have h2 : (kids' c).opt = none := by
                cases ho : (kids' c).opt with
                | none => rfl
                | some u => rw [hd] at hc; exact absurd (dom_mem.2 (by show (kids' c).opt.isSome = true; rw [ho]; rfl)) hc
              rw [opt_none.1 h1, opt_none.1 h2]
          exact ⟨rfl, h5⟩
theorem E.shape_inj {e e' : E} (h : e.shape = e'.shape) : e = e' :=
  (Go.Proofs.YtidkkkdlaclolaaGreat.shape_inj e e' (r := []) (r' := []) (fun _ h => by cases h) (fun _ h => by cases h) (by rw [List.append_nil, List.append_nil]; exact h)).1
end Go.Proofs.YtidkkkdlaclolaaGreat
