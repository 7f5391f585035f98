/-  a stable sort: the plain part: elements with the places that they had.  -/
import Derived.Test.YtlhjfenpmnejoaaGreatMap
namespace Go.Proofs.YtlhjfenpmnejoaaGreat
open Go X
set_option linter.unusedSimpArgs false
set_option linter.unusedVariables false
/-- a pair, and where it stood -/
abbrev Tg := (Key × Nat) × Nat
def ltT (x y : Tg) : Prop := klt x.1.1 y.1.1 ∨ (x.1.1 = y.1.1 ∧ x.2 < y.2)
theorem ltT_irr {x : Tg} : ¬ ltT x x := by
  rintro (h | ⟨-, h⟩)
  · exact klt_irr h
  · omega
theorem ltT_trans {x y z : Tg} (h : ltT x y) (k : ltT y z) : ltT x z := by
  rcases h with h | ⟨e, h⟩
  · rcases k with k | ⟨e2, k⟩
    · exact .inl (klt_trans h k)
    · exact .inl (e2 ▸ h)
  · rcases k with k | ⟨e2, k⟩
    · exact .inl (e ▸ k)
    · exact .inr ⟨e.trans e2, by omega⟩
theorem ltT_asym {x y : Tg} (h : ltT x y) : ¬ ltT y x := fun k => ltT_irr (ltT_trans h k)
theorem ltT_not {x y : Tg} (h : ¬ ltT x y) (hne : x.2 ≠ y.2) : ltT y x := by
  rcases klt_tri x.1.1 y.1.1 with k | k | k
  · exact absurd (.inl k) h
  · by_cases h2 : x.2 < y.2
    · exact absurd (.inr ⟨k, h2⟩) h
    · exact .inr ⟨k.symm, by omega⟩
  · exact .inl k
/-- what the code asks of an element that stood behind and one that stood ahead -/
theorem ltT_back {x y : Tg} (h : y.2 < x.2) : ltT x y ↔ klt x.1.1 y.1.1 := ⟨fun k => k.elim id fun k => by omega, .inl⟩
theorem ltT_ahead {x y : Tg} (h : x.2 < y.2) : ltT x y ↔ ¬ klt y.1.1 x.1.1 := by
  constructor
  · intro k hk
    exact ltT_asym k (.inl hk)
  · intro k
    exact Classical.byContradiction fun hn => k ((ltT_back h).1 (ltT_not hn (by omega)))
abbrev Srt (l : List Tg) : Prop := l.Pairwise ltT
theorem Srt.ext : ∀ {l m : List Tg}, Srt l → Srt m → l.Perm m → l = m := by
  intro l
  induction l with
  | nil => intro m _ _ hp; exact hp.nil_eq
  | cons x l ih =>
    intro m hl hm hp
    cases m with
    | nil => exact absurd hp.symm.nil_eq (by simp)
    | cons y m =>
      obtain ⟨h1, h2⟩ := List.pairwise_cons.1 hl
      obtain ⟨h3, h4⟩ := List.pairwise_cons.1 hm
      have e : x = y := by
        rcases List.mem_cons.1 (hp.mem_iff.1 (by simp : x ∈ x :: l)) with e | hx
        · exact e
        · rcases List.mem_cons.1 (hp.mem_iff.2 (by simp : y ∈ y :: m)) with e | hy
          · exact e.symm
          · exact absurd (h1 y hy) (ltT_asym (h3 x hx))
      subst e
      rw [ih h2 h4 (List.Perm.cons_inv hp)]
/-- what lies between: all of A ahead of all of B -/
def Ahd (A B : List Tg) : Prop := ∀ x ∈ A, ∀ y ∈ B, ltT x y
theorem Ahd.perm {A B A' B' : List Tg} (h : Ahd A B) (ha : A'.Perm A) (hb : B'.Perm B) : Ahd A' B' := fun x hx y hy => h x (ha.mem_iff.1 hx) y (hb.mem_iff.1 hy)
theorem ahd_of {A B : List Tg} (hA : Srt A) (hB : Srt B) (h : ∀ x ∈ A.getLast?, ∀ y ∈ B.head?, ltT x y) : Ahd A B := by
  intro x hx y hy
  cases hB' : B with
  | nil => rw [hB'] at hy; cases hy
  | cons b B' =>
    rw [hB'] at hy hB
    have hb : ltT x b := by
      have hn : A ≠ [] := by intro e; rw [e] at hx; cases hx
      have hl : ltT (A.getLast hn) b := h _ (List.getLast?_eq_some_getLast hn) _ (by rw [hB']; rfl)
      have e := List.dropLast_concat_getLast hn
      rw [← e] at hx hA
      rcases List.mem_append.1 hx with hx | hx
      · exact ltT_trans ((List.pairwise_append.1 hA).2.2 x hx _ (by simp)) hl
      · rw [List.mem_singleton.1 hx]; exact hl
    rcases List.mem_cons.1 hy with rfl | hy
    · exact hb
    · exact ltT_trans hb ((List.pairwise_cons.1 hB).1 y hy)
/-- merged apart -/
theorem srt_cut {A1 A2 B1 B2 C1 C2 : List Tg} (hA : Srt (A1 ++ A2)) (hB : Srt (B1 ++ B2)) (h1 : ∀ x ∈ A1.getLast?, ∀ y ∈ B2.head?, ltT x y) (h2 : ∀ x ∈ B1.getLast?, ∀ y ∈ A2.head?, ltT x y)
    (c1 : Srt C1) (p1 : C1.Perm (A1 ++ B1)) (c2 : Srt C2) (p2 : C2.Perm (A2 ++ B2)) : Srt (C1 ++ C2) ∧ (C1 ++ C2).Perm (A1 ++ A2 ++ (B1 ++ B2)) := by
  obtain ⟨a1, a2, a3⟩ := List.pairwise_append.1 hA
  obtain ⟨b1, b2, b3⟩ := List.pairwise_append.1 hB
  have k1 := ahd_of a1 b2 h1
  have k2 := ahd_of b1 a2 h2
  refine ⟨List.pairwise_append.2 ⟨c1, c2, fun x hx y hy => ?_⟩, ?_⟩
  · rcases List.mem_append.1 (p1.mem_iff.1 hx) with hx | hx <;> rcases List.mem_append.1 (p2.mem_iff.1 hy) with hy | hy
    · exact a3 x hx y hy
    · exact k1 x hx y hy
    · exact k2 x hx y hy
    · exact b3 x hx y hy
  · refine (p1.append p2).trans ?_
    rw [List.append_assoc, List.append_assoc]
    refine List.Perm.append_left A1 ?_
    rw [← List.append_assoc, ← List.append_assoc]
    exact List.Perm.append_right B2 List.perm_append_comm
/-- one element into a row -/
theorem srt_ins {B1 B2 : List Tg} {x : Tg} (hB : Srt (B1 ++ B2)) (h1 : ∀ y ∈ B1.getLast?, ltT y x) (h2 : ∀ y ∈ B2.head?, ltT x y) : Srt (B1 ++ x :: B2) := by
  obtain ⟨b1, b2, b3⟩ := List.pairwise_append.1 hB
  have k1 : Ahd B1 [x] := ahd_of b1 (List.pairwise_singleton _ _) fun y hy z hz => by
    have : z = x := by simpa using hz.symm
    rw [this]; exact h1 y hy
  have k2 : Ahd [x] B2 := ahd_of (List.pairwise_singleton _ _) b2 fun y hy z hz => by
    have : y = x := by simpa using hy.symm
    rw [this]; exact h2 z hz
  refine List.pairwise_append.2 ⟨b1, List.pairwise_cons.2 ⟨fun y hy => k2 x (by simp) y hy, b2⟩, fun y hy z hz => ?_⟩
  rcases List.mem_cons.1 hz with rfl | hz
  · exact k1 y hy _ (by simp)
  · exact b3 y hy z hz
/-- pairs with their places -/
def tgs : Nat → Kv → List Tg
  | _, [] => []
  | n, p :: r => (p, n) :: tgs (n + 1) r
theorem tgs_map : ∀ (l : Kv) (n : Nat), (tgs n l).map (·.1) = l := by
  intro l
  induction l with
  | nil => intro n; rfl
  | cons p r ih => intro n; rw [tgs, List.map_cons, ih]
theorem tgs_ge : ∀ (l : Kv) (n : Nat), ∀ x ∈ tgs n l, n ≤ x.2 := by
  intro l
  induction l with
  | nil => intro n x hx; cases hx
  | cons p r ih =>
    intro n x hx
    rcases List.mem_cons.1 hx with rfl | hx
    · exact Nat.le_refl _
    · have := ih (n + 1) x hx; omega
theorem tgs_up : ∀ (l : Kv) (n : Nat), (tgs n l).Pairwise fun x y => x.2 < y.2 := by
  intro l
  induction l with
  | nil => intro n; exact List.Pairwise.nil
  | cons p r ih => intro n; exact List.pairwise_cons.2 ⟨fun x hx => by have := tgs_ge r (n + 1) x hx; show n < x.2; omega, ih _⟩
theorem tgs_app : ∀ (l m : Kv) (n : Nat), tgs n (l ++ m) = tgs n l ++ tgs (n + l.length) m := by
  intro l
  induction l with
  | nil => intro m n; rfl
  | cons p r ih => intro m n; rw [List.cons_append, tgs, tgs, ih, List.cons_append, show n + 1 + r.length = n + (p :: r).length by simp; omega]
theorem look_filter (l : Kv) (k : Key) : look (l.filter fun p => decide (p.1 = k)) k = look l k := by
  induction l with
  | nil => rfl
  | cons p r ih =>
    rw [List.filter_cons]
    by_cases e : p.1 = k
    · rw [if_pos (decide_eq_true e), look, look, if_pos e, if_pos e]
    · rw [if_neg (by simp [e]), ih, look, if_neg e]
theorem lookL_filter (l : Kv) (k : Key) : lookL (l.filter fun p => decide (p.1 = k)) k = lookL l k := by
  unfold lookL
  rw [← List.filter_reverse, look_filter]
/-- sorted, the last pair by a key is the last one that stood there -/
theorem srt_look {l : Kv} {C : List Tg} (hC : Srt C) (hp : C.Perm (tgs 0 l)) (k : Key) : lookL (C.map (·.1)) k = lookL l k := by
  have e : C.filter (fun x => decide (x.1.1 = k)) = (tgs 0 l).filter fun x => decide (x.1.1 = k) := by
    refine Srt.ext (List.Pairwise.filter _ hC) ?_ (hp.filter _)
    refine List.Pairwise.imp_of_mem ?_ (List.Pairwise.filter _ (tgs_up l 0))
    intro a b ha hb h
    have h1 := of_decide_eq_true (List.mem_filter.1 ha).2
    have h2 := of_decide_eq_true (List.mem_filter.1 hb).2
    exact .inr ⟨h1.trans h2.symm, h⟩
  have key : ∀ L : List Tg, (L.map (·.1)).filter (fun p => decide (p.1 = k)) = (L.filter fun x => decide (x.1.1 = k)).map (·.1) := fun L => by
    rw [List.filter_map]; rfl
  rw [← lookL_filter, key, e, ← key, tgs_map, lookL_filter]
/-- of pairs by one key the last one -/
def dedK : Kv → Kv
  | [] => []
  | [p] => [p]
  | p :: q :: r => if p.1 = q.1 then dedK (q :: r) else p :: dedK (q :: r)
theorem dedK_mem : ∀ {m : Kv}, ∀ x ∈ dedK m, x ∈ m := by
  intro m
  induction m with
  | nil => intro x hx; exact hx
  | cons p m ih =>
    intro x hx
    cases m with
    | nil => exact hx
    | cons q r =>
      rw [dedK] at hx
      split at hx
      · exact List.mem_cons_of_mem _ (ih x hx)
      · rcases List.mem_cons.1 hx with rfl | hx
        · simp
        · exact List.mem_cons_of_mem _ (ih x hx)
theorem dedK_spec : ∀ {m : Kv}, (m.Pairwise fun x y => ¬ klt y.1 x.1) → Rises (dedK m) ∧ ∀ k, look (dedK m) k = lookL m k := by
  intro m
  induction m with
  | nil => intro _; exact ⟨List.Pairwise.nil, fun k => rfl⟩
  | cons p m ih =>
    intro h
    obtain ⟨h1, h2⟩ := List.pairwise_cons.1 h
    obtain ⟨i1, i2⟩ := ih h2
    cases m with
    | nil => exact ⟨List.pairwise_singleton _ _, fun k => rfl⟩
    | cons q r =>
      have hcons : ∀ k, lookL (p :: q :: r) k = (lookL (q :: r) k).or (if p.1 = k then some p.2 else none) := fun k => by
        unfold lookL
        rw [List.reverse_cons, look_app]
        congr 1
      rw [dedK]
      by_cases e : p.1 = q.1
      · rw [if_pos e]
        refine ⟨i1, fun k => ?_⟩
        rw [i2, hcons]
        by_cases ek : p.1 = k
        · have : (lookL (q :: r) k).isSome = true := by
            cases hl : lookL (q :: r) k with
            | some y => rfl
            | none => exact absurd (ek ▸ e.symm) (look_none.1 hl q (by simp))
          obtain ⟨y, hy⟩ := Option.isSome_iff_exists.1 this
          rw [hy]; rfl
        · rw [if_neg ek]; cases lookL (q :: r) k <;> rfl
      · rw [if_neg e]
        have hpq : klt p.1 q.1 := by
          rcases klt_tri p.1 q.1 with h | h | h
          · exact h
          · exact absurd h e
          · exact absurd h (h1 q (by simp))
        have hlt : ∀ x ∈ q :: r, klt p.1 x.1 := fun x hx => by
          rcases List.mem_cons.1 hx with rfl | hx
          · exact hpq
          · have h3 := (List.pairwise_cons.1 h2).1 x hx
            rcases klt_tri q.1 x.1 with h | h | h
            · exact klt_trans hpq h
            · exact h ▸ hpq
            · exact absurd h h3
        refine ⟨List.pairwise_cons.2 ⟨fun x hx => hlt x (dedK_mem x hx), i1⟩, fun k => ?_⟩
        rw [look, hcons, i2]
        by_cases ek : p.1 = k
        · rw [if_pos ek, if_pos ek]
          have : lookL (q :: r) k = none := look_none.2 fun x hx => fun e2 => by
            have := hlt x (List.mem_reverse.1 hx)
            rw [ek, e2] at this
            exact klt_irr this
          rw [this]; rfl
        · rw [if_neg ek, if_neg ek]; cases lookL (q :: r) k <;> rfl
/-- what load.Sort answers -/
theorem ded_sort {l : Kv} {C : List Tg} (hC : Srt C) (hp : C.Perm (tgs 0 l)) : dedK (C.map (·.1)) = sortK l := by
  have hw : (C.map (·.1)).Pairwise fun x y => ¬ klt y.1 x.1 := by
    rw [List.pairwise_map]
    refine hC.imp fun {a b} h hk => ?_
    rcases h with h | ⟨h, -⟩
    · exact klt_asym h hk
    · rw [h] at hk; exact klt_irr hk
  obtain ⟨h1, h2⟩ := dedK_spec hw
  exact h1.ext (sortK_rises l) fun k => by rw [h2, srt_look hC hp, sortK_look]
theorem take_last {A : List Tg} {u : Nat} {x : Tg} (hu : u ≤ A.length) (h : x ∈ (A.take u).getLast?) : ∃ (h0 : 0 < u) (h1 : u - 1 < A.length), x = A[u - 1] := by
  have hn : 0 < u := by
    cases u with
    | zero => rw [List.take_zero] at h; cases h
    | succ u => omega
  refine ⟨hn, by omega, ?_⟩
  rw [List.getLast?_eq_getElem?, List.length_take, Nat.min_eq_left hu, List.getElem?_take, if_pos (by omega), List.getElem?_eq_getElem (by omega)] at h
  exact (Option.mem_some_iff.1 h).symm
theorem drop_head {B : List Tg} {v : Nat} {y : Tg} (h : y ∈ (B.drop v).head?) : ∃ (h1 : v < B.length), y = B[v] := by
  rw [List.head?_drop] at h
  rcases Nat.lt_or_ge v B.length with hl | hl
  · rw [List.getElem?_eq_getElem hl] at h
    exact ⟨hl, (Option.mem_some_iff.1 h).symm⟩
  · rw [List.getElem?_eq_none hl] at h; cases h
section
variable {A B : List Tg} {u v : Nat} {x y : Tg}
/-- the places where two sorted rows are cut: what is merged apart is merged -/
theorem sym_cut (hA : Srt A) (hB : Srt B) (ht : ∀ x ∈ A, ∀ y ∈ B, x.2 < y.2) (hu : u ≤ A.length) (hv : v ≤ B.length)
    (h1 : ∀ (i : u - 1 < A.length) (j : v < B.length), 0 < u → ¬ klt B[v].1.1 A[u - 1].1.1) (h2 : ∀ (i : u < A.length) (j : v - 1 < B.length), 0 < v → klt B[v - 1].1.1 A[u].1.1)
    {C1 C2 : List Tg} (c1 : Srt C1) (p1 : C1.Perm (A.take u ++ B.take v)) (c2 : Srt C2) (p2 : C2.Perm (A.drop u ++ B.drop v)) : Srt (C1 ++ C2) ∧ (C1 ++ C2).Perm (A ++ B) := by
  have := srt_cut (A1 := A.take u) (A2 := A.drop u) (B1 := B.take v) (B2 := B.drop v) (by rw [List.take_append_drop]; exact hA) (by rw [List.take_append_drop]; exact hB) (fun x hx y hy => ?_) (fun x hx y hy => ?_) c1 p1 c2 p2
  · rw [List.take_append_drop, List.take_append_drop] at this; exact this
  · obtain ⟨h0, i, rfl⟩ := take_last hu hx
    obtain ⟨j, rfl⟩ := drop_head hy
    exact (ltT_ahead (ht _ (List.getElem_mem i) _ (List.getElem_mem j))).2 (h1 i j h0)
  · obtain ⟨h0, j, rfl⟩ := take_last hv hx
    obtain ⟨i, rfl⟩ := drop_head hy
    exact (ltT_back (ht _ (List.getElem_mem i) _ (List.getElem_mem j))).2 (h2 i j h0)
/-- one element that stood ahead, put into a sorted row -/
theorem ins_ahead (hB : Srt B) (ht : ∀ y ∈ B, x.2 < y.2) (hv : v ≤ B.length) (h1 : ∀ (j : v - 1 < B.length), 0 < v → klt B[v - 1].1.1 x.1.1) (h2 : ∀ (j : v < B.length), ¬ klt B[v].1.1 x.1.1) :
    Srt (B.take v ++ x :: B.drop v) ∧ (B.take v ++ x :: B.drop v).Perm (x :: B) := by
  refine ⟨srt_ins (by rw [List.take_append_drop]; exact hB) (fun y hy => ?_) (fun y hy => ?_), ?_⟩
  · obtain ⟨h0, j, rfl⟩ := take_last hv hy
    exact (ltT_back (ht _ (List.getElem_mem j))).2 (h1 j h0)
  · obtain ⟨j, rfl⟩ := drop_head hy
    exact (ltT_ahead (ht _ (List.getElem_mem j))).2 (h2 j)
  · have := List.perm_middle (a := x) (l₁ := B.take v) (l₂ := B.drop v)
    rw [List.take_append_drop] at this
    exact this
/-- one element that stood behind, put into a sorted row -/
theorem ins_back (hA : Srt A) (ht : ∀ x ∈ A, x.2 < y.2) (hu : u ≤ A.length) (h1 : ∀ (i : u - 1 < A.length), 0 < u → ¬ klt y.1.1 A[u - 1].1.1) (h2 : ∀ (i : u < A.length), klt y.1.1 A[u].1.1) :
    Srt (A.take u ++ y :: A.drop u) ∧ (A.take u ++ y :: A.drop u).Perm (A ++ [y]) := by
  refine ⟨srt_ins (by rw [List.take_append_drop]; exact hA) (fun x hx => ?_) (fun x hx => ?_), ?_⟩
  · obtain ⟨h0, j, rfl⟩ := take_last hu hx
    exact (ltT_ahead (ht _ (List.getElem_mem j))).2 (h1 j h0)
  · obtain ⟨j, rfl⟩ := drop_head hx
    exact (ltT_back (ht _ (List.getElem_mem j))).2 (h2 j)
  · have := List.perm_middle (a := y) (l₁ := A.take u) (l₂ := A.drop u)
    rw [List.take_append_drop] at this
    exact this.trans (List.perm_append_comm (l₁ := [y]) (l₂ := A))
end
/-- a step of the turning of two blocks: the longer one ahead -/
theorem rot_ahead {α : Type} {P S U1 U2 V : List α} : P ++ V ++ (U1 ++ U2) ++ S = (P ++ V) ++ U1 ++ U2 ++ S := by simp
/-- a step of the turning of two blocks: the longer one behind -/
theorem rot_back {α : Type} {P S U V1 V2 : List α} : P ++ (V1 ++ V2) ++ U ++ S = P ++ V1 ++ V2 ++ (U ++ S) := by simp
section
variable {α : Type} {P S U V W X Y M L : List α} {x y : α} {i n : Nat}
/-- two elements change places -/
theorem swap_two (hL : L = U ++ x :: (V ++ y :: W)) : (L.set U.length y).set (U.length + 1 + V.length) x = U ++ y :: (V ++ x :: W) := by
  subst hL
  rw [List.set_append_right _ _ (Nat.le_refl _), Nat.sub_self, List.set_cons_zero, List.set_append_right _ _ (by omega), show U.length + 1 + V.length - U.length = V.length + 1 by omega, List.set_cons_succ,
    List.set_append_right _ _ (Nat.le_refl _), Nat.sub_self, List.set_cons_zero]
theorem at_first : (U ++ x :: (V ++ y :: W))[U.length]? = some x := by simp
theorem at_second : (U ++ x :: (V ++ y :: W))[U.length + 1 + V.length]? = some y := by
  rw [List.getElem?_append_right (by omega), show U.length + 1 + V.length - U.length = V.length + 1 by omega, List.getElem?_cons_succ, List.getElem?_append_right (Nat.le_refl _), Nat.sub_self]; rfl
/-- two blocks of n, of which i elements have changed places -/
abbrev swR (P X M Y S : List α) (i : Nat) : List α := P ++ (Y.take i ++ (X.drop i ++ (M ++ (X.take i ++ (Y.drop i ++ S)))))
theorem swR_zero : swR P X M Y S 0 = P ++ (X ++ (M ++ (Y ++ S))) := by simp [swR]
theorem swR_all (hX : X.length = n) (hY : Y.length = n) : swR P X M Y S n = P ++ (Y ++ (M ++ (X ++ S))) := by
  simp [swR, ← hX]
  rw [List.take_of_length_le (l := Y) (by omega), List.drop_of_length_le (l := Y) (by omega)]; simp
theorem swR_form (hX : X.length = n) (hY : Y.length = n) (hi : i < n) : swR P X M Y S i = (P ++ Y.take i) ++ X[i] :: ((X.drop (i + 1) ++ (M ++ X.take i)) ++ Y[i] :: (Y.drop (i + 1) ++ S)) := by
  have e1 : X.drop i = X[i] :: X.drop (i + 1) := List.drop_eq_getElem_cons (by omega)
  have e2 : Y.drop i = Y[i] :: Y.drop (i + 1) := List.drop_eq_getElem_cons (by omega)
  unfold swR
  rw [e1, e2]
  simp only [List.append_assoc, List.cons_append]
theorem swR_next (hX : X.length = n) (hY : Y.length = n) (hi : i < n) : (P ++ Y.take i) ++ Y[i] :: ((X.drop (i + 1) ++ (M ++ X.take i)) ++ X[i] :: (Y.drop (i + 1) ++ S)) = swR P X M Y S (i + 1) := by
  have e1 : X.take (i + 1) = X.take i ++ [X[i]] := (List.take_append_getElem (by omega)).symm
  have e2 : Y.take (i + 1) = Y.take i ++ [Y[i]] := (List.take_append_getElem (by omega)).symm
  unfold swR
  rw [e1, e2]
  simp only [List.append_assoc, List.cons_append, List.nil_append, List.singleton_append]
/-- what is to come of two blocks that are turned: P' X Y S', of which X and Y are still to be turned -/
def RotI (Z L : List α) (a i j : Nat) : Prop := ∃ P X Y S, L = P ++ (X ++ (Y ++ S)) ∧ P.length = a ∧ X.length = i ∧ Y.length = j ∧ Z = P ++ (Y ++ (X ++ S))
/-- the longer block ahead: its first j elements and the other block change places -/
theorem RotI.ahead {Z : List α} {a i j : Nat} (h : RotI Z L a i j) (hij : j < i) : ∃ P X M Y S, L = P ++ (X ++ (M ++ (Y ++ S))) ∧ P.length = a ∧ X.length = j ∧ M.length = i - j ∧ Y.length = j ∧ RotI Z (P ++ (Y ++ (M ++ (X ++ S)))) (a + j) (i - j) j := by
  obtain ⟨P, X, Y, S, rfl, h1, h2, h3, rfl⟩ := h
  refine ⟨P, X.take j, X.drop j, Y, S, by rw [← List.append_assoc (X.take j), List.take_append_drop], h1, by rw [List.length_take]; omega, by rw [List.length_drop]; omega, h3, ?_⟩
  refine ⟨P ++ Y, X.drop j, X.take j, S, by simp, by simp; omega, by rw [List.length_drop]; omega, by rw [List.length_take]; omega, ?_⟩
  rw [← List.append_assoc (X.take j), List.take_append_drop]; simp
/-- the longer block behind -/
theorem RotI.back {Z : List α} {a i j : Nat} (h : RotI Z L a i j) (hij : i < j) : ∃ P X M Y S, L = P ++ (X ++ (M ++ (Y ++ S))) ∧ P.length = a ∧ X.length = i ∧ M.length = j - i ∧ Y.length = i ∧ RotI Z (P ++ (Y ++ (M ++ (X ++ S)))) a i (j - i) := by
  obtain ⟨P, X, Y, S, rfl, h1, h2, h3, rfl⟩ := h
  refine ⟨P, X, Y.take (j - i), Y.drop (j - i), S, by rw [← List.append_assoc (Y.take (j - i)), List.take_append_drop], h1, h2, by rw [List.length_take]; omega, by rw [List.length_drop]; omega, ?_⟩
  refine ⟨P, Y.drop (j - i), Y.take (j - i), X ++ S, by simp, h1, by rw [List.length_drop]; omega, by rw [List.length_take]; omega, ?_⟩
  rw [← List.append_assoc (Y.take (j - i)), List.take_append_drop]
/-- blocks of one length: one change of places is all -/
theorem RotI.last {Z : List α} {a i : Nat} (h : RotI Z L a i i) : ∃ P X Y S, L = P ++ (X ++ ([] ++ (Y ++ S))) ∧ P.length = a ∧ X.length = i ∧ Y.length = i ∧ Z = P ++ (Y ++ ([] ++ (X ++ S))) := by
  obtain ⟨P, X, Y, S, rfl, h1, h2, h3, rfl⟩ := h
  exact ⟨P, X, Y, S, by simp, h1, h2, h3, by simp⟩
end
/-- a part of a row -/
def sl {α : Type} (L : List α) (i j : Nat) : List α := (L.take j).drop i
theorem sl_length {α : Type} {L : List α} {i j : Nat} (hj : j ≤ L.length) : (sl L i j).length = j - i := by
  unfold sl; rw [List.length_drop, List.length_take]; omega
theorem sl_split {α : Type} {L : List α} {i m j : Nat} (h1 : i ≤ m) (h2 : m ≤ j) : sl L i j = sl L i m ++ sl L m j := by
  unfold sl
  apply List.ext_getElem?
  intro k
  simp only [List.getElem?_drop, List.getElem?_take, List.getElem?_append, List.length_drop, List.length_take]
  by_cases hk : i + k < min m L.length
  · rw [if_pos (by omega), if_pos (by omega), if_pos (by omega)]
  · by_cases hL : L.length ≤ i + k
    · split <;> split <;> (try split) <;> (try rfl) <;> (try (rw [List.getElem?_eq_none (by omega)])) <;> (try (rw [List.getElem?_eq_none (by omega)]))
    · rw [if_neg (show ¬ k < min m L.length - i by omega)]
      have e : m + (k - (min m L.length - i)) = i + k := by omega
      rw [e]
theorem sl_parts {α : Type} {L : List α} {i j : Nat} (h1 : i ≤ j) (h2 : j ≤ L.length) : L = L.take i ++ (sl L i j ++ L.drop j) := by
  have e : L.take j = L.take i ++ sl L i j := by
    have h := sl_split (L := L) (i := 0) (m := i) (j := j) (Nat.zero_le _) h1
    unfold sl at h ⊢
    simpa using h
  rw [← List.append_assoc, ← e, List.take_append_drop]
theorem sl_keep {α : Type} {P C S C' : List α} {p q : Nat} (hC : C'.length = C.length) (h : q ≤ P.length ∨ P.length + C.length ≤ p) : sl (P ++ (C' ++ S)) p q = sl (P ++ (C ++ S)) p q := by
  unfold sl
  apply List.ext_getElem?
  intro k
  simp only [List.getElem?_drop, List.getElem?_take, List.getElem?_append, hC]
  split
  · split
    · rfl
    · split
      · exfalso; omega
      · rfl
  · rfl
/-- a part is sorted, and has what stood in it -/
structure Seg (T L : List Tg) (i j : Nat) : Prop where
  srt : Srt (sl L i j)
  perm : (sl L i j).Perm (sl T i j)
theorem tgs_at : ∀ (l : Kv) (n k : Nat) (x : Tg), (tgs n l)[k]? = some x → x.2 = n + k := by
  intro l
  induction l with
  | nil => intro n k x h; simp [tgs] at h
  | cons p r ih =>
    intro n k x h
    cases k with
    | zero => rw [tgs, List.getElem?_cons_zero] at h; rw [← Option.some.inj h]; rfl
    | succ k => rw [tgs, List.getElem?_cons_succ] at h; have := ih (n + 1) k x h; omega
theorem tgs_len : ∀ (l : Kv) (n : Nat), (tgs n l).length = l.length := by
  intro l
  induction l with
  | nil => intro n; rfl
  | cons p r ih => intro n; rw [tgs, List.length_cons, List.length_cons, ih]
theorem sl_tag {l : Kv} {i j : Nat} {x : Tg} (h : x ∈ sl (tgs 0 l) i j) : i ≤ x.2 ∧ x.2 < j := by
  obtain ⟨k, hk, rfl⟩ := List.mem_iff_getElem.1 h
  have h1 : (sl (tgs 0 l) i j)[k]? = some (sl (tgs 0 l) i j)[k] := List.getElem?_eq_getElem hk
  have h2 := h1
  unfold sl at h2
  rw [List.getElem?_drop, List.getElem?_take] at h2
  split at h2
  · have := tgs_at l 0 (i + k) _ h2
    unfold sl at this ⊢
    omega
  · cases h2
section
variable {l : Kv} {L C : List Tg} {i m j : Nat}
/-- what stands in a part stood ahead of what stands in the next one -/
theorem Seg.tags (h : Seg (tgs 0 l) L i m) (k : Seg (tgs 0 l) L m j) : ∀ x ∈ sl L i m, ∀ y ∈ sl L m j, x.2 < y.2 := fun x hx y hy => by
  have h1 := sl_tag (h.perm.mem_iff.1 hx)
  have h2 := sl_tag (k.perm.mem_iff.1 hy)
  omega
/-- two parts, merged -/
theorem Seg.merge (h : Seg (tgs 0 l) L i m) (k : Seg (tgs 0 l) L m j) (h1 : i ≤ m) (h2 : m ≤ j) (hj : j ≤ L.length) (c : Srt C) (p : C.Perm (sl L i m ++ sl L m j)) :
    Seg (tgs 0 l) (L.take i ++ (C ++ L.drop j)) i j ∧ (L.take i ++ (C ++ L.drop j)).length = L.length := by
  have hl : C.length = j - i := by
    rw [p.length_eq, List.length_append, sl_length (by omega), sl_length hj]; omega
  have e : sl (L.take i ++ (C ++ L.drop j)) i j = C := by
    unfold sl
    have hti : (L.take i).length = i := by rw [List.length_take]; omega
    rw [← List.append_assoc, List.take_append_of_le_length (by rw [List.length_append, hti]; omega), List.take_of_length_le (by rw [List.length_append, hti]; omega), List.drop_append_of_le_length (by omega), List.drop_of_length_le (by omega)]; rfl
  refine ⟨⟨by rw [e]; exact c, ?_⟩, ?_⟩
  · rw [e, sl_split h1 h2]
    exact p.trans (h.perm.append k.perm)
  · rw [List.length_append, List.length_append, List.length_take, List.length_drop, hl]; omega
/-- a part elsewhere is as it was -/
theorem Seg.keep {p q : Nat} (h : Seg (tgs 0 l) L p q) (hij : i ≤ j) (hj : j ≤ L.length) (hC : C.length = j - i) (hpq : q ≤ i ∨ j ≤ p) : Seg (tgs 0 l) (L.take i ++ (C ++ L.drop j)) p q := by
  have e : sl (L.take i ++ (C ++ L.drop j)) p q = sl L p q := by
    have hti : (L.take i).length = i := by rw [List.length_take]; omega
    rw [sl_keep (P := L.take i) (C := sl L i j) (C' := C) (S := L.drop j) (by rw [hC, sl_length hj]) (by rw [hti, sl_length hj]; omega), ← sl_parts hij hj]
  exact ⟨by rw [e]; exact h.srt, by rw [e]; exact h.perm⟩
/-- the whole -/
theorem Seg.all (h : Seg (tgs 0 l) L 0 l.length) (hl : L.length = l.length) : dedK (L.map (·.1)) = sortK l := by
  have e1 : sl L 0 l.length = L := by unfold sl; rw [List.drop_zero, List.take_of_length_le (by omega)]
  have e2 : sl (tgs 0 l) 0 l.length = tgs 0 l := by unfold sl; rw [List.drop_zero, List.take_of_length_le (by rw [tgs_len]; exact Nat.le_refl _)]
  have h1 := h.srt
  have h2 := h.perm
  rw [e1] at h1 h2
  rw [e2] at h2
  exact ded_sort h1 h2
end
/-- all blocks of a size are sorted -/
def Blks (l : Kv) (L : List Tg) (bs : Nat) : Prop := ∀ q, q * bs < l.length → Seg (tgs 0 l) L (q * bs) (min (q * bs + bs) l.length)
/-- .. and k pairs of them are merged -/
structure MB (l : Kv) (L : List Tg) (bs k : Nat) : Prop where
  done : ∀ q, q < k → q * (2 * bs) < l.length → Seg (tgs 0 l) L (q * (2 * bs)) (min (q * (2 * bs) + 2 * bs) l.length)
  rest : ∀ q, 2 * k ≤ q → q * bs < l.length → Seg (tgs 0 l) L (q * bs) (min (q * bs + bs) l.length)
  len : L.length = l.length
section
variable {l : Kv} {L C : List Tg} {bs k : Nat}
theorem MB.start (h : Blks l L bs) (hl : L.length = l.length) : MB l L bs 0 := ⟨fun q hq => by omega, fun q _ hq => h q hq, hl⟩
theorem two_mul_k {k bs : Nat} : (2 * k) * bs = k * (2 * bs) := by rw [Nat.mul_comm 2 k, Nat.mul_assoc]
theorem two_mul_k1 {k bs : Nat} : (2 * k + 1) * bs = k * (2 * bs) + bs := by rw [Nat.succ_mul, two_mul_k]
/-- one pair more; m is where the second block ends -/
theorem MB.next (h : MB l L bs k) {j : Nat} (hj : j = min (k * (2 * bs) + 2 * bs) l.length) (hlt : k * (2 * bs) + bs < l.length) (c : Srt C) (p : C.Perm (sl L (k * (2 * bs)) (k * (2 * bs) + bs) ++ sl L (k * (2 * bs) + bs) j)) :
    MB l (L.take (k * (2 * bs)) ++ (C ++ L.drop j)) bs (k + 1) := by
  have hlen := h.len
  have s1 := h.rest (2 * k) (Nat.le_refl _) (by rw [two_mul_k]; omega)
  have s2 := h.rest (2 * k + 1) (by omega) (by rw [two_mul_k1]; exact hlt)
  rw [two_mul_k] at s1
  rw [two_mul_k1] at s2
  rw [show min (k * (2 * bs) + bs) l.length = k * (2 * bs) + bs by omega] at s1
  rw [show min (k * (2 * bs) + bs + bs) l.length = j by omega] at s2
  have hC : C.length = j - k * (2 * bs) := by
    rw [p.length_eq, List.length_append, sl_length (by omega), sl_length (by omega)]; omega
  obtain ⟨m1, m2⟩ := s1.merge s2 (by omega) (by omega) (by omega) c p
  refine ⟨fun q hq hql => ?_, fun q hq hql => ?_, m2.trans hlen⟩
  · rcases Nat.lt_or_ge q k with h1 | h1
    · have hle : (q + 1) * (2 * bs) ≤ k * (2 * bs) := Nat.mul_le_mul_right _ h1
      rw [Nat.succ_mul] at hle
      exact (h.done q h1 hql).keep (by omega) (by omega) hC (.inl (by omega))
    · have e : q = k := by omega
      subst e
      rw [← hj]; exact m1
  · have hle : (2 * k + 2) * bs ≤ q * bs := Nat.mul_le_mul_right _ (by omega)
    rw [Nat.succ_mul, two_mul_k1] at hle
    exact (h.rest q (by omega) hql).keep (by omega) (by omega) hC (.inr (by omega))
/-- when no second block is left, the blocks are twice as long -/
theorem MB.all (h : MB l L bs k) (hk : l.length ≤ k * (2 * bs) + bs) : Blks l L (2 * bs) := by
  intro q hq
  rcases Nat.lt_or_ge q k with h1 | h1
  · exact h.done q h1 hq
  · by_cases hb : bs = 0
    · subst hb; omega
    · have e : q = k := by
        rcases Nat.lt_or_ge k q with h2 | h2
        · have hle : (k + 1) * (2 * bs) ≤ q * (2 * bs) := Nat.mul_le_mul_right _ h2
          rw [Nat.succ_mul] at hle
          omega
        · omega
      subst e
      have s1 := h.rest (2 * q) (Nat.le_refl _) (by rw [two_mul_k]; omega)
      rw [two_mul_k] at s1
      rw [show min (q * (2 * bs) + 2 * bs) l.length = min (q * (2 * bs) + bs) l.length by omega]
      exact s1
/-- one block is all -/
theorem Blks.whole (h : Blks l L bs) (hl : L.length = l.length) (hb : l.length ≤ bs) : dedK (L.map (·.1)) = sortK l := by
  by_cases h0 : l.length = 0
  · have e1 : l = [] := List.eq_nil_of_length_eq_zero h0
    subst e1
    have e2 : L = [] := List.eq_nil_of_length_eq_zero hl
    subst e2
    rfl
  · have := h 0 (by omega)
    rw [Nat.zero_mul, show min (0 + bs) l.length = l.length by omega] at this
    exact this.all hl
end
section
variable {α : Type} {P A S : List α} {y : α} {u : Nat}
/-- an element that is on its way down a row -/
abbrev insR (P A S : List α) (y : α) (u : Nat) : List α := P ++ (A.take u ++ y :: (A.drop u ++ S))
theorem insR_len : insR P A S y A.length = P ++ (A ++ y :: S) := by simp [insR]
theorem insR_form (h0 : 0 < u) (hu : u ≤ A.length) : insR P A S y u = (P ++ A.take (u - 1)) ++ A[u - 1] :: ([] ++ y :: (A.drop u ++ S)) := by
  have e : A.take u = A.take (u - 1) ++ [A[u - 1]] := by
    have := (List.take_append_getElem (l := A) (i := u - 1) (by omega)).symm
    rwa [show u - 1 + 1 = u by omega] at this
  unfold insR
  rw [e]
  simp only [List.append_assoc, List.cons_append, List.nil_append]
theorem insR_next (h0 : 0 < u) (hu : u ≤ A.length) : (P ++ A.take (u - 1)) ++ y :: ([] ++ A[u - 1] :: (A.drop u ++ S)) = insR P A S y (u - 1) := by
  have e : A.drop (u - 1) = A[u - 1] :: A.drop u := by
    have := List.drop_eq_getElem_cons (l := A) (i := u - 1) (by omega)
    rwa [show u - 1 + 1 = u by omega] at this
  unfold insR
  rw [e]
  simp only [List.append_assoc, List.cons_append, List.nil_append]
end
section
variable {l : Kv} {L : List Tg} {i a : Nat}
theorem Seg.nil (T L : List Tg) (i : Nat) : Seg T L i i := by
  have e : ∀ M : List Tg, sl M i i = [] := fun M => by unfold sl; rw [List.drop_of_length_le (by rw [List.length_take]; omega)]
  exact ⟨by rw [e]; exact List.Pairwise.nil, by rw [e, e]⟩
theorem sl_one {α : Type} {M : List α} {i : Nat} (h : i < M.length) : sl M i (i + 1) = [M[i]] := by
  unfold sl
  rw [List.drop_take, show i + 1 - i = 1 by omega, List.drop_eq_getElem_cons h]; rfl
/-- an element that stands where it stood -/
theorem Seg.one {T : List Tg} (h : i < L.length) (ht : L[i]? = T[i]?) : Seg T L i (i + 1) := by
  have hT : i < T.length := by
    rw [List.getElem?_eq_getElem h] at ht
    rcases Nat.lt_or_ge i T.length with h1 | h1
    · exact h1
    · rw [List.getElem?_eq_none h1] at ht; cases ht
  have e : L[i] = T[i] := by
    rw [List.getElem?_eq_getElem h, List.getElem?_eq_getElem hT] at ht
    exact Option.some.inj ht
  refine ⟨by rw [sl_one h]; exact List.pairwise_singleton _ _, ?_⟩
  rw [sl_one h, sl_one hT, e]
/-- the element at i has come down to its place in the part from a on -/
theorem Seg.ins (hs : Seg (tgs 0 l) L a i) (hai : a ≤ i) (hi : i < L.length) (ht : L[i]? = (tgs 0 l)[i]?) {u : Nat} (hu : u ≤ (sl L a i).length)
    (h1 : ∀ (j : u - 1 < (sl L a i).length), 0 < u → ¬ klt L[i].1.1 (sl L a i)[u - 1].1.1) (h2 : ∀ (j : u < (sl L a i).length), klt L[i].1.1 (sl L a i)[u].1.1) :
    Seg (tgs 0 l) (insR (L.take a) (sl L a i) (L.drop (i + 1)) L[i] u) a (i + 1) ∧ (insR (L.take a) (sl L a i) (L.drop (i + 1)) L[i] u).length = L.length := by
  have k := Seg.one hi ht
  have htg := hs.tags k
  rw [sl_one hi] at htg
  obtain ⟨c, p⟩ := ins_back (A := sl L a i) (y := L[i]) hs.srt (fun x hx => htg x hx _ (by simp)) hu h1 h2
  have := hs.merge k hai (by omega) (by omega) c (by rw [sl_one hi]; exact p)
  have e : insR (L.take a) (sl L a i) (L.drop (i + 1)) L[i] u = L.take a ++ (((sl L a i).take u ++ L[i] :: (sl L a i).drop u) ++ L.drop (i + 1)) := by
    unfold insR; simp only [List.append_assoc, List.cons_append]
  rw [e]; exact this
theorem insR_start (hai : a ≤ i) (hi : i < L.length) : insR (L.take a) (sl L a i) (L.drop (i + 1)) L[i] (sl L a i).length = L := by
  rw [insR_len, ← List.drop_eq_getElem_cons hi]
  exact (sl_parts hai (by omega)).symm
end
section
variable {A B P S : List Tg} {u v : Nat}
/-- what symMerge turns -/
theorem sym_rot (hu : u ≤ A.length) (hv : v ≤ B.length) : RotI ((P ++ A.take u) ++ (B.take v ++ (A.drop u ++ (B.drop v ++ S)))) (P ++ (A ++ (B ++ S))) (P.length + u) (A.length - u) v := by
  refine ⟨P ++ A.take u, A.drop u, B.take v, B.drop v ++ S, ?_, by rw [List.length_append, List.length_take]; omega, by rw [List.length_drop], by rw [List.length_take]; omega, rfl⟩
  rw [← List.append_assoc (B.take v), List.take_append_drop, List.append_assoc, ← List.append_assoc (A.take u), List.take_append_drop]
/-- a row and nothing are merged already -/
theorem srt_skip (hA : Srt A) (hB : Srt B) (h : A = [] ∨ B = []) : Srt (A ++ B) := by
  rcases h with rfl | rfl
  · exact hB
  · rw [List.append_nil]; exact hA
/-- where the search ends: u elements of A, v of B are on the left; s is the search's place, n the sum of the places -/
theorem sym_place {a m b mid s : Nat} (ham : a < m) (hmb : m < b) (hmid : mid = (a + b) / 2) (h0 : (if mid < m then mid + m - b else a) ≤ s) (h1 : s ≤ if mid < m then mid else m) :
    a ≤ s ∧ s ≤ m ∧ m ≤ mid + m - s ∧ mid + m - s ≤ b ∧ s + (mid + m - s - m) = mid ∧
    (s = (if mid < m then mid + m - b else a) → s - a = 0 ∨ mid + m - s - m = b - m) ∧ (s = (if mid < m then mid else m) → s - a = m - a ∨ mid + m - s - m = 0) := by
  split at h0 <;> split at h1 <;> (try omega)
  · rename_i h2 h3
    rw [if_pos h2, if_pos h2]
    omega
  · rename_i h2 h3
    rw [if_neg h2, if_neg h2]
    omega
end
/-- a step of the insertion: C is what stood from a to i, sorted -/
theorem ins_step {L C : List Tg} {a i u : Nat} (hai : a ≤ i) (hi : i < L.length) (c : Srt C) (p : C.Perm (sl L a i)) (ht : ∀ x ∈ sl L a i, x.2 < L[i].2) (hu : u ≤ C.length)
    (h1 : ∀ (j : u - 1 < C.length), 0 < u → ¬ klt L[i].1.1 C[u - 1].1.1) (h2 : ∀ (j : u < C.length), klt L[i].1.1 C[u].1.1) :
    Srt (C.take u ++ L[i] :: C.drop u) ∧ (C.take u ++ L[i] :: C.drop u).Perm (sl L a (i + 1)) := by
  obtain ⟨k1, k2⟩ := ins_back (A := C) (y := L[i]) c (fun x hx => ht x (p.mem_iff.1 hx)) hu h1 h2
  refine ⟨k1, k2.trans ?_⟩
  rw [sl_split hai (Nat.le_succ i), sl_one hi]
  exact List.Perm.append_right _ p
/-- the first k blocks are sorted, the rest stands as it stood -/
structure IB (l : Kv) (L : List Tg) (bs k : Nat) : Prop where
  done : ∀ q, q < k → Seg (tgs 0 l) L (q * bs) (q * bs + bs)
  rest : ∀ i, k * bs ≤ i → L[i]? = (tgs 0 l)[i]?
  len : L.length = l.length
section
variable {l : Kv} {L C : List Tg} {bs k : Nat}
theorem IB.start (l : Kv) (bs : Nat) : IB l (tgs 0 l) bs 0 := ⟨fun q hq => by omega, fun i _ => rfl, tgs_len l 0⟩
theorem IB.tags (h : IB l L bs k) {i : Nat} (hk : k * bs ≤ i) (hi : i < L.length) : ∀ x ∈ sl L (k * bs) i, x.2 < L[i].2 := by
  intro x hx
  obtain ⟨j, hj, rfl⟩ := List.mem_iff_getElem.1 hx
  have hjl : j < i - k * bs := by rw [sl_length (by omega)] at hj; exact hj
  have e1 : (sl L (k * bs) i)[j]? = (tgs 0 l)[k * bs + j]? := by
    unfold sl
    rw [List.getElem?_drop, List.getElem?_take, if_pos (by omega)]
    exact h.rest _ (by omega)
  rw [List.getElem?_eq_getElem hj] at e1
  have t1 := tgs_at l 0 _ _ e1.symm
  have e2 := h.rest i hk
  rw [List.getElem?_eq_getElem hi] at e2
  have t2 := tgs_at l 0 _ _ e2.symm
  omega
theorem IB.seg (h : IB l L bs k) {j : Nat} (hkj : k * bs ≤ j) (hj : j ≤ L.length) (c : Srt C) (p : C.Perm (sl L (k * bs) j)) : Seg (tgs 0 l) (L.take (k * bs) ++ (C ++ L.drop j)) (k * bs) j ∧ (L.take (k * bs) ++ (C ++ L.drop j)).length = l.length := by
  have hlen := h.len
  have hl : C.length = j - k * bs := by rw [p.length_eq, sl_length hj]
  have hti : (L.take (k * bs)).length = k * bs := by rw [List.length_take]; omega
  have e : sl (L.take (k * bs) ++ (C ++ L.drop j)) (k * bs) j = C := by
    unfold sl
    rw [← List.append_assoc, List.take_append_of_le_length (by rw [List.length_append, hti]; omega), List.take_of_length_le (by rw [List.length_append, hti]; omega), List.drop_append_of_le_length (by omega), List.drop_of_length_le (by omega)]; rfl
  have e2 : sl L (k * bs) j = sl (tgs 0 l) (k * bs) j := by
    apply List.ext_getElem?
    intro q
    unfold sl
    rw [List.getElem?_drop, List.getElem?_take, List.getElem?_drop, List.getElem?_take]
    split
    · exact h.rest _ (by omega)
    · rfl
  refine ⟨⟨by rw [e]; exact c, by rw [e, ← e2]; exact p⟩, ?_⟩
  rw [List.length_append, List.length_append, hti, List.length_drop, hl]; omega
theorem IB.next (h : IB l L bs k) (hj : k * bs + bs ≤ L.length) (c : Srt C) (p : C.Perm (sl L (k * bs) (k * bs + bs))) : IB l (L.take (k * bs) ++ (C ++ L.drop (k * bs + bs))) bs (k + 1) := by
  have hlen := h.len
  obtain ⟨s1, s2⟩ := h.seg (by omega) hj c p
  have hl : C.length = k * bs + bs - k * bs := by rw [p.length_eq, sl_length hj]
  refine ⟨fun q hq => ?_, fun i hi => ?_, s2⟩
  · rcases Nat.lt_or_ge q k with h1 | h1
    · have hle : (q + 1) * bs ≤ k * bs := Nat.mul_le_mul_right _ h1
      rw [Nat.succ_mul] at hle
      exact (h.done q h1).keep (by omega) hj hl (.inl hle)
    · have e : q = k := by omega
      subst e; exact s1
  · rw [Nat.succ_mul] at hi
    have hti : (L.take (k * bs)).length = k * bs := by rw [List.length_take]; omega
    rw [List.getElem?_append_right (by omega), List.getElem?_append_right (by omega), List.getElem?_drop, hti, ← h.rest i (by omega)]
    congr 1; omega
/-- the last block may be shorter -/
theorem IB.all (h : IB l L bs k) (hk : k * bs ≤ l.length) (hj : l.length < k * bs + bs) (c : Srt C) (p : C.Perm (sl L (k * bs) l.length)) : Blks l (L.take (k * bs) ++ (C ++ L.drop l.length)) bs ∧ (L.take (k * bs) ++ (C ++ L.drop l.length)).length = l.length := by
  have hlen := h.len
  obtain ⟨s1, s2⟩ := h.seg hk (by omega) c p
  have hl : C.length = l.length - k * bs := by rw [p.length_eq, sl_length (by omega)]
  refine ⟨fun q hq => ?_, s2⟩
  rcases Nat.lt_or_ge q k with h1 | h1
  · have hle : (q + 1) * bs ≤ k * bs := Nat.mul_le_mul_right _ h1
    rw [Nat.succ_mul] at hle
    rw [show min (q * bs + bs) l.length = q * bs + bs by omega]
    exact (h.done q h1).keep (by omega) (by omega) hl (.inl hle)
  · have e : q = k := by
      rcases Nat.lt_or_ge k q with h2 | h2
      · have hle : (k + 1) * bs ≤ q * bs := Nat.mul_le_mul_right _ h2
        rw [Nat.succ_mul] at hle
        omega
      · omega
    subst e
    rw [show min (q * bs + bs) l.length = l.length by omega]
    exact s1
end
end Go.Proofs.YtlhjfenpmnejoaaGreat
