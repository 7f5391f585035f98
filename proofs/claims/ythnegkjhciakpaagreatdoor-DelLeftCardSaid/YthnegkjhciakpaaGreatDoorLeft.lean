/-  del.Left: what is left of a node.  -/
import Derived.Test.YthnegkjhciakpaaGreatDoorUni
import Derived.Test.YthnegkjhciakpaaGreatDoorConcat
import Derived.Test.YthnegkjhciakpaaGreatDoorDet
namespace Go.Proofs.YthnegkjhciakpaaGreatDoor
open Go Go.RowKit X
set_option linter.unusedSimpArgs false
set_option linter.unusedVariables false
set_option linter.unusedSectionVars false
theorem filter_same {α : Type} {p q : α → Bool} (h : ∀ x, p x = true → q x = true) : ∀ {L : List α}, (L.filter p).length ≤ (L.filter q).length ∧ ((L.filter p).length = (L.filter q).length → ∀ x ∈ L, q x = true → p x = true) := by
  intro L
  induction L with
  | nil => exact ⟨Nat.le_refl _, fun _ x hx => by cases hx⟩
  | cons a L ih =>
    cases hp : p a with
    | true =>
      rw [List.filter_cons_of_pos hp, List.filter_cons_of_pos (h a hp)]
      refine ⟨by simp; exact ih.1, fun e x hx hq => ?_⟩
      rcases List.mem_cons.1 hx with rfl | hx
      · exact hp
      · exact ih.2 (by simpa using e) x hx hq
    | false =>
      rw [List.filter_cons_of_neg (by simp [hp])]
      cases hq : q a with
      | true =>
        rw [List.filter_cons_of_pos hq]
        refine ⟨by simp; exact Nat.le_succ_of_le ih.1, fun e => ?_⟩
        have := ih.1
        simp at e
        omega
      | false =>
        rw [List.filter_cons_of_neg (by simp [hq])]
        refine ⟨ih.1, fun e x hx hqx => ?_⟩
        rcases List.mem_cons.1 hx with rfl | hx
        · rw [hq] at hqx; cases hqx
        · exact ih.2 e x hx hqx
/-- the kid by a byte -/
def setK (l : List (UInt8 × T)) (c : UInt8) : T := match l.find? (fun p => p.1 == c) with | some p => p.2 | none => .nil
def UpK (l : List (UInt8 × T)) : Prop := l.Pairwise fun p q => p.1.toNat < q.1.toNat
theorem setK_nil : setK [] = fun _ => .nil := rfl
theorem setK_snoc {l : List (UInt8 × T)} {p : UInt8 × T} (h : ∀ q ∈ l, q.1 ≠ p.1) : setK (l ++ [p]) = updT (setK l) p.1 p.2 := by
  funext c
  unfold setK updT
  rw [List.find?_append]
  by_cases e : c = p.1
  · subst e
    have : l.find? (fun q => q.1 == p.1) = none := List.find?_eq_none.2 fun q hq => by simpa using h q hq
    rw [this]; simp
  · have : [p].find? (fun q => q.1 == c) = none := List.find?_eq_none.2 fun q hq => by rw [List.mem_singleton.1 hq]; simpa using fun h => e h.symm
    rw [this, if_neg e]; simp
theorem setK_mem {l : List (UInt8 × T)} (h : UpK l) {p : UInt8 × T} (hp : p ∈ l) : setK l p.1 = p.2 := by
  induction l with
  | nil => cases hp
  | cons q r ih =>
    unfold setK
    have hc := List.pairwise_cons.1 h
    rcases List.mem_cons.1 hp with rfl | hp
    · rw [List.find?_cons_of_pos (by simp)]
    · have hne : q.1 ≠ p.1 := fun e => by have := hc.1 p hp; rw [e] at this; omega
      rw [List.find?_cons_of_neg (by simpa using hne)]
      exact ih hc.2 hp
theorem setK_some {l : List (UInt8 × T)} {c : UInt8} (h : setK l c ≠ .nil) : ∃ p ∈ l, p.1 = c ∧ setK l c = p.2 := by
  unfold setK at h ⊢
  cases hf : l.find? (fun p => p.1 == c) with
  | none => rw [hf] at h; exact absurd rfl h
  | some p => exact ⟨p, List.mem_of_find?_eq_some hf, by simpa using List.find?_some hf, rfl⟩
theorem T.ptr_some {t : T} (h : t ≠ .nil) : t.ptr.isSome = true := by cases t with
  | nil => exact absurd rfl h
  | node => rfl
theorem T.nil_of {t : T} (h : ¬ t.ptr.isSome = true) : t = .nil := by cases t with
  | nil => rfl
  | node => exact absurd rfl h
theorem setK_dom {l : List (UInt8 × T)} (h : UpK l) (hn : ∀ p ∈ l, p.2 ≠ .nil) : dom (ptrs (setK l)) = l.map Prod.fst := by
  refine dom_eq (List.pairwise_map.2 h) fun c => ?_
  constructor
  · intro hc
    obtain ⟨p, hp, rfl⟩ := List.mem_map.1 hc
    show (setK l p.1).ptr.isSome = true
    rw [setK_mem h hp]
    exact T.ptr_some (hn p hp)
  · intro hc
    have hc : (setK l c).ptr.isSome = true := hc
    obtain ⟨p, hp, e, -⟩ := setK_some (l := l) (c := c) fun e => by rw [e] at hc; cases hc
    exact List.mem_map.2 ⟨p, hp, e⟩
theorem setK_cnt {l : List (UInt8 × T)} (h : UpK l) (hn : ∀ p ∈ l, p.2 ≠ .nil) : cnt (ptrs (setK l)) = l.length := by
  show (dom _).length = _
  rw [setK_dom h hn, List.length_map]
theorem setK_same {w : World} [Floor] {l : List (UInt8 × T)} {kids : UInt8 → T} (h : UpK l) (hn : ∀ p ∈ l, p.2 ≠ .nil) (hk : ∀ p ∈ l, (kids p.1).ptr = p.2.ptr) (hc : cnt (ptrs kids) = l.length) (ht : ∀ c, Tree w (kids c)) (ht' : ∀ p ∈ l, Tree w p.2) : (fun c => (setK l c).er) = fun c => (kids c).er := by
  funext c
  have key := (filter_same (p := fun c => (ptrs (setK l) c).isSome) (q := fun c => (ptrs kids c).isSome) (fun x hx => by
    obtain ⟨p, hp, rfl, e⟩ := setK_some (l := l) (c := x) fun e => by
      have hx : (setK l x).ptr.isSome = true := hx
      rw [e] at hx; cases hx
    show (kids p.1).ptr.isSome = true
    rw [hk p hp]
    exact T.ptr_some (hn p hp)) (L := byt)).2 (by
      show (dom (ptrs (setK l))).length = (dom (ptrs kids)).length
      rw [setK_dom h hn, List.length_map]; exact hc.symm)
  by_cases hs : (setK l c) = .nil
  · have : kids c = .nil := T.nil_of fun hq => by
      have hx : (setK l c).ptr.isSome = true := key c (byt_mem c) hq
      rw [hs] at hx; cases hx
    rw [hs, this]
  · obtain ⟨p, hp, rfl, e⟩ := setK_some hs
    rw [e]
    exact Tree.inj (ht' p hp) (ht p.1) (hk p hp).symm
variable [Floor]
/-- kids in a row -/
structure LK (w : World) (v : Value) (l : List (UInt8 × T)) : Prop where
  row : ∃ cells, Sl w (tyQ T_del_Kid) v 2 l.length cells ∧ ∀ (i : Nat) (p : UInt8 × T), l[i]? = some p → cells[i * 2]? = some (bv p.1) ∧ cells[i * 2 + 1]? = some p.2.v
  tree : ∀ p ∈ l, Tree w p.2
  some : ∀ p ∈ l, p.2 ≠ .nil
  up : UpK l
  len : l.length ≤ 256
section
variable {w w' : World} {v : Value} {l : List (UInt8 × T)} {mt : Option Mtr} {n o : Nat}
theorem X.Sl.rdFK {Q : Nat → TypeId → Prop} {sz nn : Nat} {cells : List Value} {K : Value → Value → Prop} {kd : IntKind} {i : Int} {x : Value} {o : Nat} (h : Sl w Q v sz nn cells) (m : Nat) (hi : i = (m : Int)) (hm : m < nn) (ho : o < sz) (hx : cells[m * sz + o]? = some x)
    (k : ∀ p, (∀ w', Sl w' Q v sz nn cells → xKeep1 w' p x) → K p x) : xIxS v (.int kd i) sz fun u => xFld u o fun p => xAt p fun a => XLd w a fun y => K p y := by
  have key : ∀ w', Sl w' Q v sz nn cells → ∃ a cap, v = .slice (some a) nn cap ∧ w'.cell? ((a.add (m * sz)).add o) = some x := by
    intro w' h1
    obtain ⟨a, cap, rfl, hc⟩ := Sl.cell h1 hm ho
    exact ⟨a, cap, rfl, by rw [hc, hx]⟩
  obtain ⟨a, cap, rfl, hc⟩ := key w h
  refine ⟨m, hi, hm, ⟨_, hc, k _ fun w' h' => ?_⟩⟩
  obtain ⟨a', cap', e, hc'⟩ := key w' h'
  simp only [Value.slice.injEq, Option.some.injEq] at e
  obtain ⟨rfl, -, rfl⟩ := e
  exact hc'
theorem LK.ext {X : Nat → Prop} (h : LK w v l) (e : Ext X w w') (hx : NBT T_del_Kid w X) (ht : ∀ p ∈ l, Tree w' p.2) : LK w' v l := by
  obtain ⟨cells, h1, h2⟩ := h.row
  exact ⟨⟨cells, h1.ext1 e fun b hb hl => by obtain ⟨-, cs, T', h3, h4⟩ := hx b hb hl; exact ⟨cs, T', h3, h4⟩, h2⟩, ht, h.some, h.up, h.len⟩
theorem LK.extM (h : LK w v l) (hm : Mt w mt n) (e : Ext (MX mt) w w') : LK w' v l := h.ext e (hm.nbt (by decide)) fun p hp => (h.tree p hp).extM hm e
theorem LK.extN (h : LK w v l) (e : Ext No w w') : LK w' v l := h.ext e (NBT.no _ w) fun p hp => (h.tree p hp).extN e
theorem xpeq_node {t : T} (h : t ≠ .nil) {K : Value → Prop} (k : K (.bool false)) : xPEq P w t.v (.pointer none) K := by
  cases t with
  | nil => exact absurd rfl h
  | node => exact k
theorem xpne_tree {t t' : T} (h : Tree w t) (h' : Tree w t') {K : Value → Prop} (k : K (.bool (!decide (t.ptr = t'.ptr)))) : xPNe P w t.v t'.v K := by
  show xPtrs P w (.pointer t.ptr) (.pointer t'.ptr) _
  cases t with
  | nil =>
    cases t' with
    | nil => exact k
    | node => exact k
  | node a ow p v ks kids =>
    cases t' with
    | nil => exact k
    | node a' ow' p' v' ks' kids' =>
      show XSame P w ⟨a, 0, none⟩ ⟨a', 0, none⟩ _
      obtain ⟨pv1, hb1, -⟩ := h.1.blk
      obtain ⟨pv2, hb2, -⟩ := h'.1.blk
      by_cases e : a = a'
      · subst e
        refine xsame (run_sameAddr_same _ _) ?_
        have : (T.node a ow p v ks kids).ptr = (T.node a ow' p' v' ks' kids').ptr := rfl
        rw [decide_eq_true this] at k
        exact k
      · refine xsame (run_sameAddr_other _ (by simp [e]) hb1.h hb2.h) ?_
        have : ¬ (T.node a ow p v ks kids).ptr = (T.node a' ow' p' v' ks' kids').ptr := fun h => e (by have h2 : (⟨a, 0, none⟩ : Addr) = ⟨a', 0, none⟩ := Option.some.inj h; injection h2)
        rw [decide_eq_false this] at k
        exact k
/-- a kid is read, whole, into a block of its own -/
theorem LK.rd (h : LK w v l) (i : Nat) (hi : i < l.length) {K : Addr → World → Prop} (k : ∀ b w', Blk w' b [bv l[i].1, l[i].2.v] T_del_Kid → Ext No w w' → w.heap.size ≤ b → K ⟨b, 0, none⟩ w') :
    xIxS v (.int .i64 i) 2 fun u => xAt u fun a => XLdN w a 2 fun y => XNew w [.int .u8 0, .pointer none] T_del_Kid fun b w1 => XDo P (storeVar T_del_Kid b y) w1 fun w2 => K b w2 := by
  obtain ⟨cells, h1, h2⟩ := h.row
  obtain ⟨h3, h4⟩ := h2 i l[i] (List.getElem?_eq_getElem hi)
  have h5 : (cells.drop (i * 2)).take 2 = [bv l[i].1, l[i].2.v] := by
    apply List.ext_getElem?
    intro j
    rw [List.getElem?_take]
    match j with
    | 0 => rw [if_pos (by omega), List.getElem?_drop]; exact h3
    | 1 => rw [if_pos (by omega), List.getElem?_drop]; exact h4
    | j + 2 => rw [if_neg (by omega)]; rfl
  refine h1.rdN i rfl hi ?_
  rw [h5]
  refine xnew fun b w1 hb hblk hz he1 => ?_
  refine xstoreVar hblk (by kernel_rfl) (by simp) ?_ fun w2 hb2 hz2 he2 => ?_
  · intro u hu
    simp only [List.mem_cons, List.mem_nil_iff, or_false] at hu
    rcases hu with rfl | rfl
    · rfl
    · rfl
  exact k b w2 (by simpa using hb2) (he1.trans1 he2 (by omega)) (by omega)
theorem c_dcheck (h : LK w v l) : Ret P n_del_check [v] w fun r w' => r = .int .i64 0 ∧ Ext No w w' := by
  have hll := h.len
  refine W_del_check ?_
  refine xLen_sl h.row.choose_spec.1 ?_
  refine xloop (fun nn vs w' => ∃ (i : Nat) (y1 y2 y3 y4 : Value), vs = [.int .i64 i, y1, y2, y3, y4, .int .i64 0] ∧ nn = l.length - i ∧ i ≤ l.length ∧ Ext No w w') l.length ⟨0, _, _, _, _, rfl, rfl, by omega, Ext.refl _ _⟩ ?_
  rintro nn vs g w1 ⟨i, y1, y2, y3, y4, rfl, rfl, hi, he⟩
  unfold S_del_check_l1
  refine xifD (fun hlt => ?_) fun hge => ?_
  · have hil : i < l.length := by omega
    refine xj (fun vs w' => ∃ y1 y2 y3 y4 : Value, vs = [y1, y2, y3, y4, .int .i64 0] ∧ Ext No w w') ?_ ?_
    · refine (h.extN he).rd i hil fun b w2 hb he2 _ => ?_
      refine hb.ld (o := 1) (v := l[i].2.v) rfl ?_
      refine xpeq_node (h.some _ (List.getElem_mem hil)) ?_
      refine xifF rfl ?_
      have hE2 := (he.transN he2)
      have hd := Ext.drew (Ext.refl No w2)
      refine xj (fun vs w' => vs = [.bool false] ∧ w' = w2.drew) ?_ ?_
      · refine xifD (fun h0 => ?_) fun h0 => ⟨rfl, rfl⟩
        refine xi (r := ((i - 1 : Nat) : Int)) (by rw [wrapI (by omega)]; omega) ?_
        obtain ⟨cells, h1, h2⟩ := ((h.extN hE2).extN hd).row
        refine h1.rdF (i - 1) rfl (by omega) (by omega) ((h2 (i - 1) l[i - 1] (List.getElem?_eq_getElem (by omega))).1) ?_
        refine hb.drew.ld (o := 0) (v := bv l[i].1) rfl ?_
        have := List.pairwise_iff_getElem.1 h.up (i - 1) i (by omega) hil (by omega)
        exact ⟨by simp; omega, rfl⟩
      · rintro vs g w3 ⟨rfl, rfl⟩
        exact xifF rfl ⟨_, _, _, _, rfl, hE2.transN hd⟩
    rintro vs g w3 ⟨z1, z2, z3, z4, rfl, hE3⟩
    refine xi (r := ((i + 1 : Nat) : Int)) (by rw [wrapI (by omega)]; omega) ?_
    exact xnext (l.length - (i + 1)) (by omega) ⟨i + 1, _, _, _, _, rfl, rfl, by omega, hE3⟩
  · exact ⟨rfl, he⟩
section
variable {a ow : Nat} {part : Key} {v0 val : Option Nat} {ks : List Nat} {kids : UInt8 → T} {x : Nat}
theorem c_dmay (ht : Tree w (.node a ow part v0 ks kids)) (hne : ks ≠ []) (h : LK w v l) (ho : o ≠ 0) : Ret P n_del_may [(T.node a ow part v0 ks kids).v, v, .int .u64 o] w fun r w' => r = .int .i64 0 ∧ Ext No w w' := by
  refine W_del_may ?_
  refine (c_dcheck h).mono ?_
  rintro _ w1 ⟨rfl, he⟩
  refine xj (fun vs w' => vs = [.bool false] ∧ w1 = w') ?_ ?_
  · refine xifF (by simp; omega) ?_
    exact ⟨rfl, rfl⟩
  rintro vs g w2 ⟨rfl, rfl⟩
  refine xifF rfl ?_
  refine xpeq_node (t := .node a ow part v0 ks kids) (by simp) ?_
  refine xifF rfl ?_
  refine (c_Kind (ht.extN he)).mono ?_
  rintro _ w2 ⟨rfl, rfl⟩
  have : (T.node a ow part v0 ks kids).kind ≠ 1 := by
    show kindV ks (ptrs kids) ≠ 1
    unfold kindV
    rw [if_neg hne]
    unfold kindN
    repeat' split
    all_goals omega
  refine xifF (beq_eq_false_iff_ne.2 (by omega)) ?_
  exact ⟨rfl, he⟩
theorem c_djust (ht : Tree w (.node a ow part v0 ks kids)) (h : LK w v l) (hx : ∀ y, val = some y → y = x) : Ret P n_del_just [(T.node a ow part v0 ks kids).v, .bool val.isSome, .int .u64 x, v] w fun r w' => r = .bool (decide (v0 = val ∧ cnt (ptrs kids) = l.length ∧ ∀ p ∈ l, (kids p.1).ptr = p.2.ptr)) ∧ Ext No w w' := by
  have hll := h.len
  refine W_del_just ?_
  refine (c_Val ht).mono ?_
  rintro _ w1 ⟨rfl, rfl⟩
  have hlen : ∀ {A : Prop}, (val = v0) → (A ↔ True) → True := fun _ _ => trivial
  refine xj (fun vs w' => vs = [.bool (!decide (v0 = val ∧ cnt (ptrs kids) = l.length))] ∧ w1 = w') ?_ ?_
  · have cont : v0 = val → Ret P n_node_Node_Len [(T.node a ow part v0 ks kids).v] w1 fun v1 w2 => xLen v fun v2 => xNe v1 v2 fun v3 => [v3] = [.bool (!decide (v0 = val ∧ cnt (ptrs kids) = l.length))] ∧ w1 = w2 := fun e => by
      refine (c_Len ht).mono ?_
      rintro _ w2 ⟨rfl, rfl⟩
      refine xLen_sl h.row.choose_spec.1 ?_
      refine ⟨?_, rfl⟩
      have hc : (v0 = val ∧ cnt (ptrs kids) = l.length) ↔ cnt (ptrs kids) = l.length := ⟨fun h => h.2, fun h => ⟨e, h⟩⟩
      rw [decide_eq_decide.2 hc]
      show [Value.bool (((cnt (ptrs kids) : Nat) : Int) != (l.length : Nat))] = _
      by_cases h0 : cnt (ptrs kids) = l.length
      · rw [decide_eq_true h0, h0]; simp
      · rw [decide_eq_false h0]; simp; omega
    cases v0 with
    | none =>
      cases val with
      | none => exact cont rfl
      | some y =>
        have fin : [Value.bool true] = [Value.bool (!decide ((none : Option Nat) = some y ∧ cnt (ptrs kids) = l.length))] ∧ w1 = w1 := ⟨by simp, rfl⟩
        exact fin
    | some z =>
      cases val with
      | none =>
        have fin : [Value.bool true] = [Value.bool (!decide (some z = (none : Option Nat) ∧ cnt (ptrs kids) = l.length))] ∧ w1 = w1 := ⟨by simp, rfl⟩
        exact fin
      | some y =>
        obtain rfl := hx y rfl
        refine xifN (fun hne => ?_) fun heq => ?_
        · exact ⟨by have : ¬ z = y := fun e => hne (by rw [e]; rfl)
                    simp [this], rfl⟩
        · have heq : ((z : Nat) : Int) = (y : Nat) := heq
          exact cont (by rw [show z = y by omega])
  rintro vs g w2 ⟨rfl, rfl⟩
  by_cases hc : v0 = val ∧ cnt (ptrs kids) = l.length
  · rw [decide_eq_true hc]
    refine xifF rfl ?_
    refine xLen_sl h.row.choose_spec.1 ?_
    refine xloop (fun nn vs w' => ∃ (i : Nat) (y : Value), vs = [.int .i64 i, y] ∧ nn = l.length - i ∧ i ≤ l.length ∧ (∀ p ∈ l.take i, (kids p.1).ptr = p.2.ptr) ∧ Ext No w1 w') l.length ⟨0, _, rfl, rfl, by omega, (fun p hp => by simp at hp), Ext.refl _ _⟩ ?_
    rintro nn vs g w2 ⟨i, y, rfl, rfl, hi, hall, he⟩
    unfold S_del_just_l1
    refine xifD (fun hlt => ?_) fun hge => ?_
    · have hil : i < l.length := by omega
      refine (h.extN he).rd i hil fun b w3 hb he3 _ => ?_
      have hd := Ext.drew (Ext.refl No w3)
      have hE3 := (he.transN he3).transN hd
      refine hb.drew.ld (o := 0) (v := bv l[i].1) rfl ?_
      refine hb.drew.ld (o := 1) (v := l[i].2.v) rfl ?_
      refine (c_Kid (ht.extN hE3) (b := l[i].1)).mono ?_
      rintro _ w4 ⟨rfl, he4⟩
      have hE4 := hE3.transN he4
      refine ⟨?_, ?_⟩
      · show w4.cell? ((⟨b, 0, none⟩ : Addr).add 1) = _
        rw [Addr.add_lit, (hb.drew.ext he4 fun h => h).cell]; rfl
      refine xpne_tree (t := kids l[i].1) ((ht.extN hE4).2 _) (h.tree _ (List.getElem_mem hil) |>.extN hE4) ?_
      by_cases e : (kids l[i].1).ptr = l[i].2.ptr
      · rw [decide_eq_true e]
        refine xifF rfl ?_
        refine xi (r := ((i + 1 : Nat) : Int)) (by rw [wrapI (by omega)]; omega) ?_
        refine xnext (l.length - (i + 1)) (by omega) ⟨i + 1, _, rfl, rfl, by omega, fun p hp => ?_, hE4⟩
        rw [← List.take_append_getElem hil] at hp
        rcases List.mem_append.1 hp with e1 | e1
        · exact hall p e1
        · rw [List.mem_singleton.1 e1]; exact e
      · rw [decide_eq_false e]
        refine xifT rfl ⟨?_, hE4⟩
        rw [decide_eq_false]
        exact fun hq => e (hq.2.2 _ (List.getElem_mem hil))
    · have : i = l.length := by omega
      subst this
      rw [List.take_length] at hall
      exact ⟨by rw [decide_eq_true ⟨hc.1, hc.2, hall⟩], he⟩
  · rw [decide_eq_false hc]
    refine xifT rfl ⟨?_, Ext.refl _ _⟩
    rw [decide_eq_false]
    exact fun hq => hc ⟨hq.1, hq.2.1⟩
/-- what is left of a node -/
structure LeftR (w w' : World) (t : T) (l : List (UInt8 × T)) (e : E) (o : Nat) (t' : T) (mt : Option Mtr) (n n' : Nat) : Prop where
  tree : Tree w' t'
  er : t'.er = e
  leafy : t'.Leafy
  own : ∀ q : Nat → Prop, q o → t.OwQ q → (∀ p ∈ l, p.2.OwQ q) → t'.OwQ q
  all : ∀ b, t'.All b → t.All b ∨ (∃ p ∈ l, p.2.All b) ∨ w.heap.size ≤ b
  cnt : Mt w' mt n'
  le : n' ≤ n + 1
  ext : Ext (MX mt) w w'
theorem c_join0 {w1 : World} {b1 : Nat} {p q : Key} {c : UInt8} {v1 v3 : Value} {K : Value → World → Prop} (hfl : Floor.n ≤ w1.heap.size) (h1 : Bs w1 v1 p) (hb : Blk w1 b1 [bv c] T_uint8) (h3 : Bs w1 v3 q) (hn : p.length + 1 + q.length ≤ 65535)
    (k : ∀ v' w', Bs w' v' (p ++ c :: q) → Ext No w1 w' → K v' w') :
    XNew w1 [v1, .slice (some ⟨b1, 0, none⟩) 1 1, v3] T_s_uint8 fun ad w2 => Ret P n_del_join [.slice (some ad) 3 3] w2 K := by
  refine xnew fun nb w2 hnb hblk hz he => ?_
  refine W_del_join ?_
  have hsl : Sl w2 (tyQ T_s_uint8) (.slice (some ⟨nb, 0, none⟩) 3 3) 1 [p, [c], q].length [v1, .slice (some ⟨b1, 0, none⟩) 1 1, v3] := hblk.sln rfl
  have hz2 := he.size
  refine (c_Concat (by omega) hsl (fun i hi => ?_) (by simp; omega) (by simp)).mono ?_
  · match i, hi with
    | 0, _ => exact ⟨v1, rfl, h1.extN he⟩
    | 1, _ => exact ⟨_, rfl, (Bs.new2 (k := [c]) hb).extN he⟩
    | 2, _ => exact ⟨v3, rfl, h3.extN he⟩
    | n + 3, h => exact absurd h (by simp)
  · rintro r w3 ⟨hr, he3⟩
    refine k r w3 ?_ (he.transN he3)
    simpa using hr
theorem T.node_fine {a ow : Nat} {part : Key} {v0 : Option Nat} {ks : List Nat} {kids : UInt8 → T} (hf : (T.node a ow part v0 ks kids).er.Fine) (hl : (T.node a ow part v0 ks kids).Leafy) (hne : ks ≠ []) : 2 ≤ cntE (fun c => (kids c).er) + one v0 := by
  have h1 := hf.1
  have e : cnt (fun c => ((kids c).er).opt) = cnt (ptrs kids) := X.cnt_congr' fun c => T.er_opt (kids c)
  have hc : cnt (ptrs kids) ≠ 0 := fun e => hne (hl.1.2 e)
  have h1 : if cnt (fun c => ((kids c).er).opt) = 0 then v0.isSome = true else 2 ≤ cnt (fun c => ((kids c).er).opt) + one v0 := h1
  rw [if_neg (by rw [e]; exact hc)] at h1
  exact h1
theorem setK_cntE {l : List (UInt8 × T)} (h : UpK l) (hn : ∀ p ∈ l, p.2 ≠ .nil) : cntE (fun c => (setK l c).er) = l.length := by
  have e : cnt (fun c => ((setK l c).er).opt) = cnt (ptrs (setK l)) := X.cnt_congr' fun c => T.er_opt _
  show cnt _ = _
  rw [e, setK_cnt h hn]
theorem LK.setTree (h : LK w v l) (c : UInt8) : Tree w (setK l c) := by
  by_cases e : setK l c = .nil
  · rw [e]; trivial
  · obtain ⟨p, hp, -, e'⟩ := setK_some e
    rw [e']; exact h.tree p hp
set_option maxRecDepth 100000 in
theorem c_Left (ht : Tree w (.node a ow part v0 ks kids)) (hne : ks ≠ []) (hf : (T.node a ow part v0 ks kids).er.Fine) (hl : (T.node a ow part v0 ks kids).Leafy) (hL : LK w v l) (hlf : ∀ p ∈ l, p.2.Leafy) (hx : ∀ y, val = some y → y = x) (hx64 : x < 18446744073709551616) (ho : o ≠ 0) (hm : Mt w mt n)
    (hlen : ∀ p ∈ l, part.length + 1 + p.2.part.length ≤ 65535) :
    Ret P n_del_Left [(T.node a ow part v0 ks kids).v, .bool val.isSome, .int .u64 x, v, .int .u64 o, mv mt] w fun r w' => ∃ t' n', r = .tuple #[t'.v, .int .i64 0] ∧ LeftR w w' (.node a ow part v0 ks kids) l (normE part val fun c => (setK l c).er) o t' mt n n' ∧
      ((v0 = val ∧ cnt (ptrs kids) = l.length ∧ ∀ p ∈ l, (kids p.1).ptr = p.2.ptr) → t' = .node a ow part v0 ks kids ∧ n' = n) := by
  have hll := hL.len
  refine W_del_Left ?_
  refine (c_dmay ht hne hL ho).mono ?_
  rintro _ w1 ⟨rfl, he1⟩
  refine xifF rfl ?_
  refine (c_djust (ht.extN he1) (hL.extN he1) hx).mono ?_
  rintro _ w2 ⟨rfl, he2⟩
  have hE := he1.transN he2
  have ht2 := ht.extN hE
  have hL2 := hL.extN hE
  have hm2 := hm.extN hE
  have hz2 := hE.size
  by_cases hj : v0 = val ∧ cnt (ptrs kids) = l.length ∧ ∀ p ∈ l, (kids p.1).ptr = p.2.ptr
  · rw [decide_eq_true hj]
    refine xifT rfl ?_
    refine ⟨_, n, rfl, ⟨ht2, ?_, hl, fun q _ h _ => h, fun b h => .inl h, hm2, by omega, hE.mono fun _ _ h => h.elim⟩, fun _ => ⟨rfl, rfl⟩⟩
    show E.node part v0 (fun c => (kids c).er) = normE part val fun c => (setK l c).er
    rw [setK_same hL2.up hL2.some hj.2.2 hj.2.1 ht2.2 hL2.tree, ← hj.1]
    exact (normE_id (T.node_fine hf hl hne)).symm
  · rw [decide_eq_false hj]
    refine xifF rfl ?_
    cases l with
    | nil =>
      refine xj (fun vs w' => vs = [.bool val.isSome] ∧ w2 = w') ?_ ?_
      · refine xLen_sl hL2.row.choose_spec.1 ?_
        exact xifT rfl ⟨rfl, rfl⟩
      rintro vs g w3 ⟨rfl, rfl⟩
      cases val with
      | some y =>
        obtain rfl := hx y rfl
        refine xifT rfl ?_
        refine (c_Part ht2).mono ?_
        rintro pv w3 ⟨hpv, he3⟩
        have hpv : Bs w3 pv part := hpv
        refine (c_Leaf (ow := o) (hm2.extN he3) hpv ht.1.short hx64).mono ?_
        rintro _ w4 ⟨u, rfl, hna, hfr, hm4, he4⟩
        have hz3 := he3.size
        refine ⟨.node u o part (some y) [] (fun _ => .nil), n + 1, rfl, ⟨⟨hna, fun _ => trivial⟩, rfl, ⟨⟨fun _ => (by show cnt (fun _ => none : UInt8 → Option Addr) = 0; simp [cnt, dom_none]), fun _ => rfl⟩, fun _ => trivial⟩, fun q h _ _ => ⟨h, fun _ => trivial⟩, fun b hb => ?_, hm4, by omega, ((hE.transN he3).mono fun _ _ h => h.elim).transS he4⟩, fun hq => absurd hq hj⟩
        rcases hb with (hb | hb) | ⟨c, hb⟩
        · exact .inr (.inr (by rw [hb]; omega))
        · cases hb
        · exact hb.elim
      | none =>
        refine xifF rfl ?_
        refine xLen_sl hL2.row.choose_spec.1 ?_
        refine xifT rfl ?_
        refine ⟨.nil, n, rfl, ⟨trivial, ?_, trivial, fun _ _ _ _ => trivial, fun b hb => hb.elim, hm2, by omega, hE.mono fun _ _ h => h.elim⟩, fun hq => absurd hq hj⟩
        show E.nil = normE part none noE
        unfold normE
        rw [if_pos cntE_no]
    | cons p r =>
      refine xj (fun vs w' => vs = [.bool false] ∧ w2 = w') ?_ ?_
      · refine xLen_sl hL2.row.choose_spec.1 ?_
        exact xifF (by simp; omega) ⟨rfl, rfl⟩
      rintro vs g w3 ⟨rfl, rfl⟩
      refine xifF rfl ?_
      refine xLen_sl hL2.row.choose_spec.1 ?_
      refine xifF (by simp; omega) ?_
      have make : ¬ (r = [] ∧ val = none) → Ret P n_node_Node_Part [(T.node a ow part v0 ks kids).v] w2 fun v1078 w1079 =>
          Ret P n_node_Inner [mv mt, .int .u64 o, v1078] w1079 fun v1080 w1081 =>
          XJ (fun J1082 => xIf (.bool val.isSome) (Ret P n_node_Node_SetVal [v1080, .int .u64 o, .int .u64 x] w1081 fun v1086 w1087 => J1082 [] w1087) (J1082 [] w1081)) fun vs1083 g1084 w1085 =>
          xLen v fun v1088 =>
          XLoop [(.int .i64 0)] w1085 (S_del_Left_l1 (fun r' w' => ∃ t' n', r' = .tuple #[t'.v, .int .i64 0] ∧ LeftR w w' (.node a ow part v0 ks kids) (p :: r) (normE part val fun c => (setK (p :: r) c).er) o t' mt n n' ∧
            ((v0 = val ∧ cnt (ptrs kids) = (p :: r).length ∧ ∀ q ∈ p :: r, (kids q.1).ptr = q.2.ptr) → t' = .node a ow part v0 ks kids ∧ n' = n)) v (.int .u64 o) v1080 v1088) := fun hmk => by
        refine (c_Part ht2).mono ?_
        rintro pv w3 ⟨hpv, he3⟩
        have hpv : Bs w3 pv part := hpv
        have hz3 := he3.size
        refine (c_Inner (ow := o) (hm2.extN he3) hpv ht.1.short).mono ?_
        rintro _ w4 ⟨u, uks, rfl, hna, hne4, hfr, hm4, he4⟩
        have hF4 : FN w3 w4 u o part none uks (fun _ => .nil) mt (n + 1) := ⟨⟨hna, fun _ => trivial⟩, hfr, fun c b h => h.elim, hm4, he4⟩
        have hL3 := hL2.extN he3
        have hL4 := hL3.extM (hm2.extN he3) he4
        have hlt : ∀ q ∈ p :: r, ∀ b, q.2.All b → b < w.heap.size := fun q hq b hb => (hL.tree q hq).lt hb
        have nbt : ∀ {w' : World} {val' : Option Nat} {uks' : List Nat} {kids' : UInt8 → T}, FN w3 w' u o part val' uks' kids' mt (n + 1) → NBT T_del_Kid w' (NX u uks') := fun hF b hb hl => by
          obtain ⟨cs, T', h1, h2⟩ := hF.tree.ty (.inl hb)
          exact ⟨hF.tree.fl (.inl hb), cs, T', h1, (show Oth T_del_Kid by unfold Oth; decide).nt h2⟩
        have lk : ∀ {w' w'' : World} {val' : Option Nat} {uks' : List Nat} {kids' : UInt8 → T}, FN w3 w' u o part val' uks' kids' mt (n + 1) → LK w' v (p :: r) → Ext (NX u uks') w' w'' → LK w'' v (p :: r) := fun hF h e => h.ext e (nbt hF) fun q hq => (h.tree q hq).ext e (hF.nb fun b hb => hb) fun b hb hx => by
          have := hF.fresh b hx
          have := hlt q hq b hb
          omega
        refine xj (fun vs w' => FN w3 w' u o part val uks (fun _ => .nil) mt (n + 1) ∧ LK w' v (p :: r)) ?_ ?_
        · cases val with
          | none => exact xifF rfl ⟨hF4, hL4⟩
          | some y =>
            obtain rfl := hx y rfl
            refine xifT rfl ?_
            refine (c_FVal hF4 ho hx64).mono ?_
            rintro _ w5 ⟨hF5, he5⟩
            exact ⟨hF5, lk hF4 hL4 (he5.mono fun b _ hb => .inl hb)⟩
        rintro vs g w5 ⟨hF5, hL5⟩
        refine xLen_sl hL5.row.choose_spec.1 ?_
        refine xloop (fun nn vs w' => ∃ (i : Nat) (uks' : List Nat), vs = [.int .i64 i] ∧ nn = (p :: r).length - i ∧ i ≤ (p :: r).length ∧ FN w3 w' u o part val uks' (setK ((p :: r).take i)) mt (n + 1) ∧ uks' ≠ [] ∧ LK w' v (p :: r)) (p :: r).length
          ⟨0, uks, rfl, rfl, by omega, hF5, hne4, hL5⟩ ?_
        rintro nn vs g w6 ⟨i, uks6, rfl, rfl, hi, hF6, hne6, hL6⟩
        unfold S_del_Left_l1
        refine xifD (fun hlt' => ?_) fun hge => ?_
        · have hil : i < (p :: r).length := by omega
          refine hL6.rd i hil fun b w7 hb he7 _ => ?_
          refine hb.ld (o := 0) (v := bv (p :: r)[i].1) rfl ?_
          refine hb.ld (o := 1) (v := (p :: r)[i].2.v) rfl ?_
          have hF7 := hF6.extN he7
          have hL7 := hL6.extN he7
          have hmem := List.getElem_mem hil
          obtain ⟨a2, hp2⟩ : ∃ a2, (p :: r)[i].2.ptr = some ⟨a2, 0, none⟩ := by
            cases hq : (p :: r)[i].2 with
            | nil => exact absurd hq (hL.some _ hmem)
            | node a2 => exact ⟨a2, rfl⟩
          have hv2 : (p :: r)[i].2.v = rp a2 := by show Value.pointer (p :: r)[i].2.ptr = _; rw [hp2]
          rw [hv2]
          refine (c_FKid hF7 ho hne6 hp2 (hL7.tree _ hmem) fun b hb hx => ?_).mono ?_
          · have := hF7.fresh b hx
            have := hlt _ hmem b hb
            omega
          rintro _ w8 ⟨uks8, hF8, hne8, he8, -⟩
          refine xi (r := ((i + 1 : Nat) : Int)) (by rw [wrapI (by omega)]; omega) ?_
          refine xnext ((p :: r).length - (i + 1)) (by omega) ⟨i + 1, uks8, rfl, rfl, by omega, ?_, hne8, lk hF7 hL7 he8⟩
          rw [← List.take_append_getElem hil, setK_snoc fun q hq e => ?_]
          · exact hF8
          · obtain ⟨k, hk, rfl⟩ := List.getElem_of_mem hq
            rw [List.length_take] at hk
            have := List.pairwise_iff_getElem.1 hL.up k i (by omega) hil (by omega)
            rw [List.getElem_take] at e
            rw [e] at this
            omega
        · have : i = (p :: r).length := by omega
          subst this
          rw [List.take_length] at hF6
          have hcn := setK_cntE hL.up hL.some
          refine ⟨.node u o part val uks6 (setK (p :: r)), n + 1, rfl, ⟨hF6.tree, ?_, ⟨⟨fun h => absurd h hne6, fun h => ?_⟩, fun c => ?_⟩, fun q h1 h2 h3 => ⟨h1, fun c => ?_⟩, fun b hb => ?_, hF6.cnt, by omega, ((hE.transN he3).mono fun _ _ h => h.elim).transS hF6.ext⟩, fun hq => absurd hq hj⟩
          · show E.node part val (fun c => (setK (p :: r) c).er) = _
            cases val with
            | some y => rfl
            | none =>
              refine (normE_id ?_).symm
              rw [hcn]
              have : r ≠ [] := fun e => hmk ⟨e, rfl⟩
              cases r with
              | nil => exact absurd rfl this
              | cons => simp only [List.length_cons]; omega
          · exfalso
            have h : cnt (ptrs (setK (p :: r))) = 0 := h
            rw [setK_cnt hL.up hL.some] at h
            simp at h
          · by_cases e : setK (p :: r) c = .nil
            · rw [e]; trivial
            · obtain ⟨q, hq, -, e'⟩ := setK_some e
              rw [e']; exact hlf q hq
          · by_cases e : setK (p :: r) c = .nil
            · rw [e]; trivial
            · obtain ⟨q', hq, -, e'⟩ := setK_some e
              rw [e']; exact h3 q' hq
          · rcases hb with hb | ⟨c, hb⟩
            · have := hF6.fresh b hb
              exact .inr (.inr (by omega))
            · by_cases e : setK (p :: r) c = .nil
              · rw [e] at hb; exact hb.elim
              · obtain ⟨q', hq, -, e'⟩ := setK_some e
                rw [e'] at hb
                exact .inr (.inl ⟨q', hq, hb⟩)
      cases r with
      | cons p2 r2 =>
        refine xj (fun vs w' => vs = [.bool false] ∧ w2 = w') ?_ ?_
        · refine xLen_sl hL2.row.choose_spec.1 ?_
          exact xifF (by simp; omega) ⟨rfl, rfl⟩
        rintro vs g w3 ⟨rfl, rfl⟩
        refine xifF rfl ?_
        exact make fun h => by cases h.1
      | nil =>
        refine xj (fun vs w' => vs = [.bool (!val.isSome)] ∧ w2 = w') ?_ ?_
        · refine xLen_sl hL2.row.choose_spec.1 ?_
          exact xifT rfl ⟨rfl, rfl⟩
        rintro vs g w3 ⟨rfl, rfl⟩
        cases val with
        | some y =>
          refine xifF rfl ?_
          exact make fun h => by cases h.2
        | none =>
          refine xifT rfl ?_
          obtain ⟨c, t1⟩ := p
          obtain ⟨cells, hsl, hce⟩ := id hL2.row
          obtain ⟨hc0, hc1⟩ := hce 0 (c, t1) rfl
          refine hsl.rdF 0 rfl (by simp) (by omega) hc1 ?_
          have hnn : t1 ≠ .nil := hL.some (c, t1) (by simp)
          have ht1 : Tree w2 t1 := hL2.tree (c, t1) (by simp)
          have hle1 : part.length + 1 + t1.part.length ≤ 65535 := hlen (c, t1) (by simp)
          have hlf1 : t1.Leafy := hlf (c, t1) (by simp)
          cases t1 with
          | nil => exact absurd rfl hnn
          | node a1 ow1 p1 v1 ks1 kids1 =>
            have hle1 : part.length + 1 + p1.length ≤ 65535 := hle1
            refine (c_Copy (o := o) ht1.1 hm2).mono ?_
            rintro _ w3 ⟨u, uks, rfl, hna, hiff, hfr, hm3, he3⟩
            have hz3 := he3.size
            have hd := Ext.drew (Ext.refl No w3)
            have ht3 := (ht2.extM hm2 he3).extN hd
            have ht13 := (ht1.extM hm2 he3).extN hd
            have hfl3 : Floor.n ≤ w3.drew.heap.size := (hm3.extN hd).fl
            have hsl3 : Sl w3.drew (tyQ T_del_Kid) v 2 1 cells := (hsl.ext1 he3 fun b hb hl => by obtain ⟨-, cs, T', h3, h4⟩ := hm2.nbt (T := T_del_Kid) (by decide) b hb hl; exact ⟨cs, T', h3, h4⟩).extN hd
            refine hsl3.rdFK 0 rfl (by omega) (by omega) hc0 fun q0 hk0 => ?_
            refine hsl3.rdFK 0 rfl (by omega) (by omega) hc1 fun q1 hk1 => ?_
            have fin : ∀ v' w', Bs w' v' (part ++ c :: p1) → Ext No w3.drew w' → Ret P n_node_Node_SetPart [rp u, .int .u64 o, v'] w' fun _ w' => ∃ t' n', Value.tuple #[rp u, .int .i64 0] = .tuple #[t'.v, .int .i64 0] ∧ LeftR w w' (.node a ow part v0 ks kids) [(c, .node a1 ow1 p1 v1 ks1 kids1)] (normE part none fun d => (setK [(c, .node a1 ow1 p1 v1 ks1 kids1)] d).er) o t' mt n n' ∧
                ((v0 = none ∧ cnt (ptrs kids) = 1 ∧ ∀ q ∈ [(c, T.node a1 ow1 p1 v1 ks1 kids1)], (kids q.1).ptr = q.2.ptr) → t' = .node a ow part v0 ks kids ∧ n' = n) := fun v' w' hv e => by
              have hna' := (hna.extN hd).extN e
              refine (c_NSetPart hna' ho rfl hv (by simp; omega)).mono ?_
              rintro _ w5 ⟨hna5, he5⟩
              have ht5 : Tree w' (.node u o p1 v1 uks kids1) := ⟨hna', fun d => (ht13.extN e).2 d⟩
              have hu := hfr u (.inl rfl)
              obtain ⟨pv0, hbu, -⟩ := hna'.blk
              refine ⟨.node u o (part ++ c :: p1) v1 uks kids1, n + 1, rfl, ⟨⟨hna5, fun d => (ht5.2 d).ext he5 (ht5.nbX fun b hb => .inl (.inl hb)) fun b hb e' => ?_⟩, ?_, ⟨hiff.trans hlf1.1, hlf1.2⟩, fun q h1 _ h3 => ⟨h1, (h3 (c, .node a1 ow1 p1 v1 ks1 kids1) (by simp)).2⟩, fun b hb => ?_, ((hm3.extN hd).extN e).ext he5 fun b hb e' => ?_, by omega, ?_⟩, fun hq => absurd hq hj⟩
              · have e' : b = u := e'
                subst e'
                have := (ht1.2 d).lt hb
                omega
              · show E.node (part ++ c :: p1) v1 (fun d => (kids1 d).er) = _
                have h1 : (setK [(c, T.node a1 ow1 p1 v1 ks1 kids1)] c) = .node a1 ow1 p1 v1 ks1 kids1 := setK_mem (l := [(c, T.node a1 ow1 p1 v1 ks1 kids1)]) (List.pairwise_singleton _ _) (p := (c, T.node a1 ow1 p1 v1 ks1 kids1)) (by simp)
                rw [normE_one (c := c) (by show ((setK _ c).er.opt).isSome = true; rw [h1]; rfl) fun d hd => ?_]
                · show _ = liftE part c (setK _ c).er
                  rw [h1]; rfl
                · show (setK _ d).er = .nil
                  have : setK [(c, T.node a1 ow1 p1 v1 ks1 kids1)] d = .nil := by
                    by_cases e : setK [(c, T.node a1 ow1 p1 v1 ks1 kids1)] d = .nil
                    · exact e
                    · obtain ⟨q, hq, e1, -⟩ := setK_some e
                      rw [List.mem_singleton.1 hq] at e1
                      exact absurd e1.symm hd
                  rw [this]; rfl
              · rcases hb with hb | hb
                · have := hfr b hb
                  exact .inr (.inr (by omega))
                · exact .inr (.inl ⟨(c, .node a1 ow1 p1 v1 ks1 kids1), by simp, .inr hb⟩)
              · have e' : b = u := e'
                subst e'
                exact ((hm3.extN hd).extN e).ne hbu (by decide) hb
              · refine ((((hE.mono fun _ _ h => h.elim).transS he3).transN hd).transN e).trans he5 fun b hb e' => ?_
                have e' : b = u := e'
                subst e'
                omega
            refine ⟨?_, ?_⟩
            · refine (c_Part ht3).mono ?_
              rintro pv w4 ⟨hpv, he4⟩
              have hpv : Bs w4 pv part := hpv
              obtain ⟨ad, cp, rfl⟩ := hpv.slice
              refine ⟨hk1 _ (hsl3.extN he4), hk0 _ (hsl3.extN he4), ?_, ?_⟩
              · show XNew w4 ([c].map bv) T_uint8 _
                refine xnew fun b1 w5 hb1 hb1k hz5 he5 => ⟨hk1 _ ((hsl3.extN he4).extN he5), ?_⟩
                refine (c_Part (ht13.extN (he4.transN he5))).mono ?_
                rintro qv w6 ⟨hqv, he6⟩
                have hqv : Bs w6 qv p1 := hqv
                obtain ⟨ad', cp', rfl⟩ := hqv.slice
                have hE6 := (he4.transN he5).transN he6
                exact c_join0 (Nat.le_trans hfl3 hE6.size) (hpv.extN (he5.transN he6)) (hb1k.ext he6 fun h => h) hqv hle1 fun v' w' hv e => fin v' w' hv (hE6.transN e)
              · refine (c_Part (ht13.extN he4)).mono ?_
                rintro qv w5 ⟨hqv, he5⟩
                have hqv : Bs w5 qv p1 := hqv
                obtain ⟨ad', cp', rfl⟩ := hqv.slice
                refine ⟨hk0 _ ((hsl3.extN he4).extN he5), ?_⟩
                show XNew w5 ([c].map bv) T_uint8 _
                refine xnew fun b1 w6 hb1 hb1k hz6 he6 => ?_
                have hE6 := (he4.transN he5).transN he6
                exact c_join0 (Nat.le_trans hfl3 hE6.size) (hpv.extN (he5.transN he6)) hb1k (hqv.extN he6) hle1 fun v' w' hv e => fin v' w' hv (hE6.transN e)
            · show XNew w3.drew ([c].map bv) T_uint8 _
              refine xnew fun b1 w4 hb1 hb1k hz4 he4 => ⟨hk1 _ (hsl3.extN he4), ?_⟩
              refine (c_Part (ht3.extN he4)).mono ?_
              rintro pv w5 ⟨hpv, he5⟩
              have hpv : Bs w5 pv part := hpv
              obtain ⟨ad, cp, rfl⟩ := hpv.slice
              refine ⟨hk1 _ ((hsl3.extN he4).extN he5), ?_⟩
              refine (c_Part (ht13.extN (he4.transN he5))).mono ?_
              rintro qv w6 ⟨hqv, he6⟩
              have hqv : Bs w6 qv p1 := hqv
              obtain ⟨ad', cp', rfl⟩ := hqv.slice
              have hE6 := (he4.transN he5).transN he6
              exact c_join0 (Nat.le_trans hfl3 hE6.size) (hpv.extN he6) (hb1k.ext (he5.transN he6) fun h => h) hqv hle1 fun v' w' hv e => fin v' w' hv (hE6.transN e)
end
end
end Go.Proofs.YthnegkjhciakpaaGreatDoor
