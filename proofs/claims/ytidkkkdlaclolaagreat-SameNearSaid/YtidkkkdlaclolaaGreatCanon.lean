/-  canon: whether pairs may be; the tree of pairs.  -/
import Derived.Test.YtidkkkdlaclolaaGreatNode
import Derived.Test.YtidkkkdlaclolaaGreatPs
import Derived.Test.YtidkkkdlaclolaaGreatMap
section
namespace Go.Proofs.YtidkkkdlaclolaaGreat
open Go Go.RowKit X
set_option linter.unusedSimpArgs false
set_option linter.unusedVariables false
set_option linter.unusedSectionVars false
theorem rises_of_steps {l : Kv} (h : ∀ i (hi : i + 1 < l.length), klt l[i].1 l[i + 1].1) : Rises l := by
  unfold Rises
  rw [List.pairwise_iff_getElem]
  have key : ∀ d i (hi : i + d + 1 < l.length), klt (l[i]'(by omega)).1 l[i + d + 1].1 := by
    intro d
    induction d with
    | zero => intro i hi; exact h i hi
    | succ d ih => intro i hi; exact klt_trans (ih i (by omega)) (h (i + d + 1) (by omega))
  intro i j hi hj hij
  have := key (j - i - 1) i (by omega)
  simpa [show i + (j - i - 1) + 1 = j by omega] using this
instance (l : Kv) : Decidable (Rises l) := inferInstanceAs (Decidable (List.Pairwise (fun a b : Key × Nat => klt a.1 b.1) l))
theorem Rises.step {l : Kv} (h : Rises l) {i : Nat} (hi : i + 1 < l.length) : klt l[i].1 l[i + 1].1 := List.pairwise_iff_getElem.1 h i (i + 1) (by omega) hi (by omega)
theorem Rises.take {l : Kv} (h : Rises l) (n : Nat) : Rises (l.take n) := List.Pairwise.sublist (List.take_sublist n l) h
theorem Rises.drop {l : Kv} (h : Rises l) (n : Nat) : Rises (l.drop n) := List.Pairwise.sublist (List.drop_sublist n l) h
variable [Floor]
section
variable {w : World} {v : Value} {l : Kv}
theorem c_Sorted (h : Ps w v l) (hl : l.length ≤ 4611686018427387904) : Ret P n_keys_Sorted [v] w fun r w' => (∃ b, r = .bool b ∧ (b = true ↔ Rises l)) ∧ Ext No w w' := by
  refine W_keys_Sorted ?_
  refine xloop (fun n vs w' => ∃ (i : Nat) (x : Value), vs = [.int .i64 (i + 1 : Nat), x] ∧ n = l.length - i ∧ (∀ j (hj : j + 1 < l.length), j < i → klt l[j].1 l[j + 1].1) ∧ Ext No w w') l.length ⟨0, _, rfl, rfl, fun j _ hj => by omega, Ext.refl _ _⟩ ?_
  rintro n vs g w1 ⟨i, x, rfl, rfl, hij, he⟩
  refine h.len ?_
  refine xifD (fun hlt => ?_) fun hge => ⟨⟨true, rfl, fun _ => rises_of_steps fun j hj => hij j hj (by omega), fun _ => rfl⟩, he⟩
  have hi : i + 1 < l.length := by omega
  refine xi (r := (i : Int)) (by rw [wrapI (by omega)]; omega) ?_
  have h1 := h.extN he.drew
  refine h1.key i rfl (by omega) fun ka hka => ?_
  refine h1.key (i + 1) rfl hi fun kb hkb => ?_
  refine (c_Cmp hka hkb).mono ?_
  rintro r w2 ⟨rfl, rfl⟩
  refine xifD (fun hc => ⟨⟨false, rfl, fun h => (by cases h), fun hr => ?_⟩, he.drew⟩) fun hc => ?_
  · have : Lib.compareBytes l[i].1 l[i + 1].1 < 0 := hr.step hi
    omega
  · refine xi (r := ((i + 1 + 1 : Nat) : Int)) (by rw [wrapI (by omega)]; omega) ?_
    refine xnext (l.length - (i + 1)) (by omega) ⟨i + 1, _, rfl, rfl, fun j hj hji => ?_, he.drew⟩
    rcases Nat.lt_succ_iff_lt_or_eq.1 hji with e | e
    · exact hij j hj e
    · subst e
      show Lib.compareBytes l[j].1 l[j + 1].1 < 0
      omega
/-- a big key: its number; else whether they rise -/
def checkN (l : Kv) (b : Bool) : Int := if ∀ p ∈ l, p.1.length ≤ 65535 then (if b then 0 else 12) else 8
set_option maxRecDepth 100000 in
theorem c_check (h : Ps w v l) (hl : l.length ≤ 4611686018427387904) : Ret P n_canon_check [v] w fun r w' => (∃ b : Bool, r = .int .i64 (checkN l b) ∧ (b = true ↔ Rises l)) ∧ Ext No w w' := by
  refine W_canon_check ?_
  refine h.len ?_
  refine xloop (fun n vs w' => ∃ (i : Nat) (x y : Value), vs = [.int .i64 i, x, y] ∧ i ≤ l.length ∧ n = l.length - i ∧ (∀ p ∈ l.take i, p.1.length ≤ 65535) ∧ Ext No w w') l.length ⟨0, _, _, rfl, by omega, rfl, by simp, Ext.refl _ _⟩ ?_
  rintro n vs g w1 ⟨i, x, y, rfl, hil, rfl, hall, he⟩
  have h1 := h.extN he
  refine xifD (fun hlt => ?_) fun hge => ?_
  · have hi : i < l.length := by omega
    refine h1.rd i rfl hi fun kv hkv => ?_
    refine xnew fun b w2 hb hblk hz he2 => ?_
    refine xstoreVar hblk (by kernel_rfl) (by simp) ?_ fun w3 hb3 hz3 he3 => ?_
    · intro u hu
      simp only [List.mem_cons, List.mem_nil_iff, or_false] at hu
      rcases hu with rfl | rfl
      · exact hkv.one1
      · rfl
    · have hb3' : Blk w3 b [kv, u64 l[i].2] T_api_Pair := by simpa using hb3
      refine hb3'.ld (o := 0) (v := kv) rfl ?_
      have hE3 : Ext No w1 w3 := he2.trans1 he3 (by omega)
      refine (c_May (hkv.extN hE3)).mono ?_
      rintro r w4 ⟨rfl, rfl⟩
      by_cases hk : l[i].1.length ≤ 65535
      · rw [if_pos hk]
        refine xifF rfl ?_
        refine xi (r := ((i + 1 : Nat) : Int)) (by rw [wrapI (by omega)]; omega) ?_
        refine xnext (l.length - (i + 1)) (by omega) ⟨i + 1, _, _, rfl, by omega, rfl, fun p hp => ?_, he.transN hE3⟩
        rw [← List.take_append_getElem hi] at hp
        rcases List.mem_append.1 hp with e | e
        · exact hall p e
        · rw [List.mem_singleton.1 e]; exact hk
      · rw [if_neg hk]
        refine xifT rfl ⟨⟨decide (Rises l), ?_, decide_eq_true_iff⟩, he.transN hE3⟩
        unfold checkN
        rw [if_neg]
        intro hh
        exact hk (hh _ (List.getElem_mem hi))
  · have hi : i = l.length := by omega
    subst hi
    rw [List.take_length] at hall
    refine (c_Sorted h1 hl).mono ?_
    rintro r w2 ⟨⟨b, rfl, hb⟩, he2⟩
    cases b with
    | true => exact xifF rfl ⟨⟨true, by unfold checkN; rw [if_pos hall]; rfl, hb⟩, he.transN he2⟩
    | false => exact xifT rfl ⟨⟨false, by unfold checkN; rw [if_pos hall]; rfl, hb⟩, he.transN he2⟩
end
end Go.Proofs.YtidkkkdlaclolaaGreat
end
section
namespace Go.Proofs.YtidkkkdlaclolaaGreat
open Go Go.RowKit X
set_option linter.unusedSimpArgs false
set_option linter.unusedVariables false
set_option linter.unusedSectionVars false
theorem sum_upd {α : Type} [DecidableEq α] {l : List α} (hl : l.Nodup) {b : α} (hb : b ∈ l) (f : α → Nat) (x : Nat) : (l.map fun c => if c = b then x else f c).sum + f b = (l.map f).sum + x := by
  induction l with
  | nil => cases hb
  | cons a r ih =>
    obtain ⟨h1, h2⟩ := List.nodup_cons.1 hl
    simp only [List.map_cons, List.sum_cons]
    by_cases e : a = b
    · subst e
      rw [if_pos rfl]
      have : (r.map fun c => if c = a then x else f c) = r.map f := List.map_congr_left fun c hc => if_neg fun (e : c = a) => h1 (by rw [← e]; exact hc)
      rw [this]; omega
    · rw [if_neg e]
      have := ih h2 ((List.mem_cons.1 hb).resolve_left (Ne.symm e))
      omega
abbrev sizes (kids : UInt8 → T) : Nat := (byt.map fun c => (kids c).er.size).sum
theorem sizes_upd (kids : UInt8 → T) (b : UInt8) (t : T) : sizes (updT kids b t) + (kids b).er.size = sizes kids + t.er.size := by
  have := sum_upd (Rise.nodup byt_sorted) (byt_mem b) (fun c => (kids c).er.size) t.er.size
  have e : (byt.map fun c => (updT kids b t c).er.size) = byt.map fun c => if c = b then t.er.size else (kids c).er.size := by
    refine List.map_congr_left fun c _ => ?_
    unfold updT; split <;> rfl
  show (byt.map fun c => (updT kids b t c).er.size).sum + _ = _
  rw [e]; exact this
theorem sizes_no : sizes (fun _ => T.nil) = 0 := by
  show (byt.map fun _ => 0).sum = 0
  have : ∀ l : List UInt8, (l.map fun _ => 0).sum = 0 := by
    intro l; induction l with
    | nil => rfl
    | cons a r ih => simp [ih]
  exact this byt
/-- all nodes are the owner's -/
def T.Owned (o : Nat) : T → Prop
  | .nil => True
  | .node _ ow _ _ _ kids => ow = o ∧ ∀ c, (kids c).Owned o
theorem T.er_nil {t : T} (h : t.er = .nil) : t = .nil := by cases t with
  | nil => rfl
  | node => cases h
theorem T.node_of {t : T} (h : t.er.opt.isSome) : ∃ a ow p v ks kids, t = .node a ow p v ks kids := by cases t with
  | nil => cases h
  | node a ow p v ks kids => exact ⟨a, ow, p, v, ks, kids, rfl⟩
variable [Floor]
section
theorem NTy.maker {T' : TypeId} (h : T' = T_node_Node ∨ KT T') : T' ≠ T_canon_maker := by
  rcases h with rfl | rfl | rfl | rfl | rfl | rfl <;> decide
/-- what was made stays, when the meter counts on -/
theorem Res.mt {w w1 w2 : World} {o : Nat} {t t' : T} {mt : Option Mtr} {n n2 : Nat} (h : Res w w1 o t t' mt n) (e : Ext (MX mt) w1 w2) (hm : Mt w2 mt n2) : Res w w2 o t t' mt n2 :=
  ⟨h.tree.extM h.cnt e, h.ext.transS (e.mono fun _ _ hb => .inl hb), hm, h.all, h.foot, h.sep⟩
/-- out of nothing only new things come, and the meter counts -/
theorem Res.extM {w w1 : World} {o : Nat} {t' : T} {mt : Option Mtr} {n : Nat} (h : Res w w1 o .nil t' mt n) : Ext (MX mt) w w1 := h.ext.mono fun b _ hb => hb.elim id fun h => h.elim
theorem Res.new {w w1 : World} {o : Nat} {t' : T} {mt : Option Mtr} {n : Nat} (h : Res w w1 o .nil t' mt n) {b : Nat} (hb : t'.All b) : w.heap.size ≤ b := (h.all b hb).elim (fun h => h.elim) id
theorem NA.nbp {w : World} {a ow : Nat} {part : Key} {val : Option Nat} {ks : List Nat} {m : UInt8 → Option Addr} (h : NA w a ow part val ks m) : NBP w (NX a ks) := by
  have key : ∀ T : TypeId, T_node_Node ≠ T → (∀ T', KT T' → T' ≠ T) → NBT T w (NX a ks) := fun T h1 h2 b hb _ => by
    rcases hb with rfl | hb
    · obtain ⟨pv, hb, -⟩ := h.blk
      exact ⟨h.new.1, _, _, hb, h1⟩
    · obtain ⟨cs, T', h3, h4⟩ := h.kd.ty b hb
      exact ⟨h.new.2 b hb, cs, T', h3, h2 T' h4⟩
  refine ⟨key _ (by decide) ?_, key _ (by decide) ?_, key _ (by decide) ?_⟩ <;> (intro T' h'; rcases h' with rfl | rfl | rfl | rfl | rfl <;> decide)
theorem NBP.sub {w : World} {X Y : Nat → Prop} (h : NBP w X) (hs : ∀ b, Y b → X b) : NBP w Y := ⟨fun b hb => h.b b (hs b hb), fun b hb => h.p b (hs b hb), fun b hb => h.q b (hs b hb)⟩
set_option maxHeartbeats 2000000 in
theorem c_tree : ∀ (k : Nat) {w : World} {v : Value} {l : Kv} {p : Key} {mt : Option Mtr} {n ow : Nat}, l.length ≤ k → l.length ≤ 4611686018427387904 → Ps w v l → Rises l → (∀ x ∈ l, x.1.length ≤ 65535) → (∀ x ∈ l, p <+: x.1) → p.length ≤ 65535 + 1 → Mt w mt n → ow ≠ 0 →
    Ret P n_canon_maker_tree [.agg #[mv mt, u64 ow], v, .int .i64 p.length] w fun r w' => ∃ t, r = t.v ∧ Res w w' ow .nil t mt (n + t.er.size) ∧ Can t.er (fun r => look l (p ++ r)) ∧ t.Leafy ∧ t.Owned ow := by
  intro k
  induction k with
  | zero =>
    intro w v l p mt n ow hk hll hv hr hs hb hpl hm ho
    have : l = [] := List.eq_nil_of_length_eq_zero (by omega)
    subst this
    refine W_canon_maker_tree ?_
    refine xnew fun mb w1 hmb hmblk hmz he1 => ?_
    refine hv.len ?_
    refine xifT rfl ⟨.nil, rfl, ?_, ⟨trivial, fun k => rfl⟩, trivial, trivial⟩
    exact ⟨trivial, he1.mono fun _ _ h => h.elim, hm.extN he1, fun b h => h.elim, fun b h => h.elim, trivial⟩
  | succ k ih =>
    intro w v l p mt n ow hk hll hv hr hs hb hpl hm ho
    refine W_canon_maker_tree ?_
    refine xnew fun mb w1 hmb hmblk hmz he1 => ?_
    have hmblk : Blk w1 mb [mv mt, u64 ow] T_canon_maker := hmblk
    have hm1 := hm.extN he1
    have hv1 := hv.extN he1
    have hfl : Floor.n ≤ mb := by have := hm.fl; omega
    refine hv.len ?_
    match l, hk, hll, hv, hr, hs, hb, hv1 with
    | [], _, _, _, _, _, _, _ =>
      exact xifT rfl ⟨.nil, rfl, ⟨trivial, he1.mono fun _ _ h => h.elim, hm1, fun b h => h.elim, fun b h => h.elim, trivial⟩, ⟨trivial, fun k => rfl⟩, trivial, trivial⟩
    | [x], _, _, hv, hr, hs, hb, hv1 =>
      refine xifF rfl ?_
      refine xifT rfl ?_
      have hvd := hv1.extN (Ext.refl No w1).drew
      refine hmblk.drew.ld (v := mv mt) rfl ?_
      refine hmblk.drew.ld (v := u64 ow) rfl ?_
      refine hvd.key 0 rfl (by simp) fun kv hkv => ?_
      obtain ⟨s, hxs⟩ := hb x (by simp)
      have hle := hs x (by simp)
      refine hkv.drop p.length rfl (by show p.length ≤ x.1.length; rw [← hxs]; simp) fun kv' hkv' => ?_
      refine hvd.val 0 rfl (by simp) ?_
      have he : x.1.drop p.length = s := by rw [← hxs, List.drop_left]
      have hkv' : Bs w1.drew kv' s := by rw [← he]; exact hkv'
      have hsl : s.length ≤ 65535 := by rw [← hxs] at hle; simp at hle; omega
      have hm1d : Mt w1.drew mt n := hm1.extN (Ext.refl No w1).drew
      refine (c_Leaf (ow := ow) hm1d hkv' hsl (hv.v64 x (by simp))).mono ?_
      rintro r w2 ⟨a, rfl, hna, ha, hm2, he2⟩
      have hE : Ext (MX mt) w w2 := (he1.mono fun _ _ h => h.elim).transS (he2.undrew)
      have hz1 := he1.size
      have ha : w1.heap.size ≤ a := ha
      refine ⟨.node a ow s (some x.2) [] fun _ => .nil, rfl, ⟨⟨hna, fun _ => trivial⟩, hE.mono fun b _ h => .inl h, ?_, fun b h => ?_, fun b h => ?_, ?_⟩, ?_, ⟨by simp [cnt, dom_none, T.ptr], fun _ => trivial⟩, ⟨rfl, fun _ => trivial⟩⟩
      · have : (T.node a ow s (some x.2) [] fun _ => .nil).er.size = 1 := by
          have := sizes_no
          show sizes (fun _ => T.nil) + 1 = 1
          omega
        rw [this]; exact hm2
      · rcases h with (rfl | h) | ⟨c, h⟩
        · exact .inr (by omega)
        · cases h
        · exact h.elim
      · rcases h with ⟨-, rfl | h⟩ | ⟨c, h⟩
        · exact .inr (by omega)
        · cases h
        · exact h.elim
      · exact ⟨fun _ => trivial, fun _ _ _ _ h => h.elim, fun _ _ _ _ h => h.elim, fun _ _ h => h.elim⟩
      · refine Can.leaf fun r => ?_
        show (if x.1 = p ++ r then some x.2 else none) = _
        rw [← hxs]
        by_cases e : r = s
        · subst e; rw [if_pos rfl, if_pos rfl]
        · rw [if_neg e, if_neg fun h => e (List.append_cancel_left h).symm]
    | x :: y :: l, hk, hll, hv, hr, hs, hb, hv1 =>
      refine xifF (by simp; omega) ?_
      refine xifF (by simp; omega) ?_
      have hzl : (x :: y :: l).getLast? = some ((y :: l)[l.length]) := by rw [List.getLast?_eq_getElem?]; simp
      have hpt := Parts.ends hr (by simp) hzl
      have hll2 : l.length + 2 ≤ 4611686018427387904 := by simpa using hll
      generalize hzz : (y :: l)[l.length] = z at hzl hpt
      have hcl := common_le x.1 z.1
      have hzm : z ∈ x :: y :: l := List.mem_of_getLast? hzl
      generalize hqq : x.1.take (common x.1 z.1) = q at hpt
      have hql : q.length = common x.1 z.1 := by rw [← hqq, prefix_of_common]
      have hx64 := hs x (by simp)
      have hz64 := hs z hzm
      refine hv1.key 0 rfl (by simp) fun kx hkx => ?_
      have hkx : Bs w1 kx x.1 := hkx
      refine hv1.len ?_
      refine xi (r := ((l.length + 1 : Nat) : Int)) (by simp only [List.length_cons] at hll ⊢; rw [wrapI (by omega)]; omega) ?_
      refine hv1.key (l.length + 1) rfl (by simp) fun kz hkz => ?_
      have hkz : Bs w1 kz z.1 := by rw [← hzz]; exact hkz
      refine (c_Common hkx hkz (by omega) (by omega)).mono ?_
      rintro r w2 ⟨rfl, he2⟩
      rw [← hql]
      have hpq : p.length ≤ q.length := by rw [hql]; exact common_ge (hb x (by simp)) (hb z hzm)
      have hpp : ∃ part, q = p ++ part := by
        obtain ⟨s, hs'⟩ := hb x (by simp)
        refine ⟨q.drop p.length, ?_⟩
        have h1 : p <+: q := List.prefix_of_prefix_length_le (hb x (by simp)) (hpt.all x (by simp)) hpq
        obtain ⟨s, rfl⟩ := h1
        rw [List.drop_left]
      obtain ⟨part, hpart⟩ := hpp
      have hE2 : Ext No w1 w2.drew := he2.drew
      have hmblk2 := hmblk.ext hE2 fun h => h
      refine hmblk2.ld (v := mv mt) rfl ?_
      refine hmblk2.ld (v := u64 ow) rfl ?_
      refine (hkx.extN he2).part p.length q.length rfl rfl hpq (by omega) fun vp hvp => ?_
      have hvp : Bs w2.drew vp part := by
        have e : (x.1.drop p.length).take (q.length - p.length) = part := by
          obtain ⟨s, hs'⟩ := hpt.all x (by simp)
          rw [← hs', hpart]
          simp [List.append_assoc]
        rw [e] at hvp
        exact hvp.extN (Ext.refl No w2).drew
      have hpl2 : part.length ≤ 65535 := by
        have := congrArg List.length hpart
        simp at this
        omega
      have hm2 := hm1.extN hE2
      refine (c_Inner (ow := ow) hm2 hvp hpl2).mono ?_
      rintro r w3 ⟨a, ks0, rfl, hna, hks0, hfresh, hm3, he3⟩
      have hE3 : Ext (MX mt) w w3 := ((he1.transN hE2).mono fun _ _ h => h.elim).transS he3
      have z1 := he1.size
      have z2 := hE2.size
      have hR3 : Res w w3 ow .nil (.node a ow part none ks0 fun _ => .nil) mt (n + 1) := by
        refine ⟨⟨hna, fun _ => trivial⟩, hE3.mono fun b _ h => .inl h, hm3, fun b h => ?_, fun b h => ?_, ?_⟩
        · rcases h with h | ⟨c, h⟩
          · exact .inr (by have := hfresh b h; omega)
          · exact h.elim
        · rcases h with ⟨-, h⟩ | ⟨c, h⟩
          · exact .inr (by have := hfresh b h; omega)
          · exact h.elim
        · exact ⟨fun _ => trivial, fun _ _ _ _ h => h.elim, fun _ _ _ _ h => h.elim, fun _ _ h => h.elim⟩
      have hv3 := (hv1.extN hE2).mt he3 hm2
      have hkx3 := (hkx.extN hE2).mt he3 hm2
      have hmblk3 := hmblk2.ext he3 (hm2.ne hmblk2 (by decide))
      generalize hL' : (if x.1.length = q.length then y :: l else x :: y :: l) = L' at hpt
      generalize hval : (if x.1.length = q.length then some x.2 else none) = val at hpt
      refine xj (fun vs w' => ∃ v' ks, vs = [v'] ∧ Ps w' v' L' ∧ Res w w' ow .nil (.node a ow part val ks fun _ => .nil) mt (n + 1) ∧ ks ≠ [] ∧ Blk w' mb [mv mt, u64 ow] T_canon_maker) ?_ ?_
      · refine hkx3.len ?_
        refine xifE (fun e => ?_) fun e => ?_
        · have e : x.1.length = q.length := by omega
          rw [if_pos e] at hL' hval
          subst hL'; subst hval
          have hv3d := hv3.extN (Ext.refl No w3).drew
          have hR3d := hR3.extN (Ext.refl No w3).drew
          refine hmblk3.drew.ld (v := u64 ow) rfl ?_
          refine hv3d.val 0 rfl (by simp) ?_
          refine (c_RVal hR3d ho (hv.v64 x (by simp))).mono ?_
          rintro r w4 ⟨hR4, he4⟩
          have hnb : NBP w3.drew (· = a) := by
            obtain ⟨pv, hba, -⟩ := hR3d.tree.1.blk
            have hn := hR3d.tree.1.new.1
            refine ⟨?_, ?_, ?_⟩ <;> (intro b hb _; have e : b = a := hb; subst e; exact ⟨hn, _, _, hba, by decide⟩)
          refine hv3d.drop 1 rfl (by simp) fun v' hv' => ?_
          refine ⟨v', ks0, rfl, hv'.ext he4 hnb, hR4, hks0, hmblk3.drew.ext he4 fun e => ?_⟩
          have := hfresh a (.inl rfl)
          have hmb1 := hmblk2.lt
          omega
        · have e : x.1.length ≠ q.length := by omega
          rw [if_neg e] at hL' hval
          subst hL'; subst hval
          exact ⟨_, ks0, rfl, hv3, hR3, hks0, hmblk3⟩
      · rintro vs g w4 ⟨v', ks, rfl, hv4, hR4, hks, hmb4⟩
        have hLL : L'.length ≤ l.length + 2 := by rw [← hL']; split <;> simp
        have hLr : Rises L' := by
          rw [← hL']; split
          · exact (List.pairwise_cons.1 hr).2
          · exact hr
        have hLs : ∀ u ∈ L', u ∈ x :: y :: l := by
          rw [← hL']; split
          · intro u hu; exact List.mem_cons_of_mem _ hu
          · intro u hu; exact hu
        have hks4 := hks
        refine xloop (fun nn vs w' => ∃ (v' xb xm : Value) (done rest : Kv) (uks : List Nat) (kids : UInt8 → T), vs = [v', xb, xm] ∧ nn = rest.length ∧ done ++ rest = L' ∧ Ps w' v' rest ∧ Res w w' ow .nil (.node a ow part val uks kids) mt (n + 1 + sizes kids) ∧ uks ≠ [] ∧
          (∀ c, Can (kids c).er fun r => look done (q ++ c :: r)) ∧ (∀ c, (kids c).Leafy) ∧ (∀ c, (kids c).Owned ow) ∧ (∀ u ∈ done, ∀ y ∈ rest, byteAt q.length u.1 ≠ byteAt q.length y.1) ∧ Blk w' mb [mv mt, u64 ow] T_canon_maker) L'.length
          ⟨v', _, _, [], L', ks, fun _ => .nil, rfl, rfl, rfl, hv4, by rw [sizes_no]; exact hR4, hks, fun c => ⟨trivial, fun k => rfl⟩, fun c => trivial, fun c => trivial, (fun u hu => by cases hu), hmb4⟩ ?_
        rintro nn vs g w5 ⟨v5, xb, xm, done, rest, uks, kids, rfl, rfl, hdr, hv5, hR5, hks5, hcan, hleafy, howned, hsep, hmb5⟩
        refine hv5.len ?_
        have hdone : ∀ u ∈ done, u ∈ L' := fun u hu => by rw [← hdr]; exact List.mem_append_left _ hu
        have hrest : ∀ u ∈ rest, u ∈ L' := fun u hu => by rw [← hdr]; exact List.mem_append_right _ hu
        have hrl : rest.length ≤ L'.length := by rw [← hdr]; simp
        refine xifD (fun hlt => ?_) fun hge => ?_
        · have h0 : 0 < rest.length := by omega
          have hlong : Longer q rest := fun u hu => hpt.long u (hrest u hu)
          have hrr : Rises rest := by rw [← hdr] at hLr; exact (List.pairwise_append.1 hLr).2.1
          refine hv5.key 0 rfl h0 fun k0 hk0 => ?_
          refine hk0.rd q.length (hlong.lt (List.getElem_mem h0)) rfl ?_
          rw [byteAt_get (hlong.lt (List.getElem_mem h0))]
          generalize hbb : byteAt q.length rest[0].1 = bb
          refine xloop (fun nn vs w' => ∃ (many : Nat), vs = [.int .i64 many] ∧ nn = rest.length - many ∧ 1 ≤ many ∧ many ≤ rest.length ∧ (∀ u ∈ rest.take many, byteAt q.length u.1 = bb) ∧ w' = w5) (rest.length - 1)
            ⟨1, rfl, rfl, Nat.le_refl _, h0, fun u hu => ?_, rfl⟩ ?_
          · cases rest with
            | nil => cases h0
            | cons u0 rr => simp at hu; subst hu; exact hbb
          rintro nn vs g w6 ⟨many, rfl, rfl, hm1', hml, hmall, rfl⟩
          refine xj (fun vs w' => ∃ t : Bool, vs = [.bool t] ∧ w' = w6 ∧ (t = true → ∃ h : many < rest.length, byteAt q.length rest[many].1 = bb) ∧ (t = false → ∀ y, rest[many]? = some y → byteAt q.length y.1 ≠ bb)) ?_ ?_
          · refine hv5.len ?_
            refine xifD (fun hlt => ?_) fun hge => ⟨false, rfl, rfl, fun h => (by cases h), fun _ y hy => ?_⟩
            · have hmr : many < rest.length := by omega
              refine hv5.key many rfl hmr fun km hkm => ?_
              have hlm := hlong.lt (List.getElem_mem hmr)
              refine hkm.rd q.length hlm rfl ?_
              rw [byteAt_get hlm]
              refine ⟨_, rfl, rfl, fun h => ⟨hmr, ?_⟩, fun h y hy => ?_⟩
              · exact UInt8.toNat_inj.1 (by exact_mod_cast (by simpa using h : ((byteAt q.length rest[many].1).toNat : Int) = (bb.toNat : Int)))
              · rw [List.getElem?_eq_getElem hmr] at hy
                cases hy
                intro e
                rw [e] at h
                simp at h
            · rw [List.getElem?_eq_none (by omega)] at hy; cases hy
          · rintro vs g w' ⟨t, rfl, rfl, ht, hf⟩
            cases t with
            | true =>
              obtain ⟨hmr, hbm⟩ := ht rfl
              refine xifT rfl ?_
              refine xi (r := ((many + 1 : Nat) : Int)) (by rw [wrapI (by omega)]; omega) ?_
              refine xnext (rest.length - (many + 1)) (by omega) ⟨many + 1, rfl, rfl, by omega, by omega, fun u hu => ?_, rfl⟩
              rw [← List.take_append_getElem hmr] at hu
              rcases List.mem_append.1 hu with e | e
              · exact hmall u e
              · rw [List.mem_singleton.1 e]; exact hbm
            | false =>
              have hstop := hf rfl
              refine xifF rfl ?_
              have hdrop := hrr.groups hlong hmall (by omega) hstop
              have hmb5d := hmb5.drew
              refine hmb5d.ld (v := u64 ow) rfl ?_
              refine hmb5d.ldA rfl ?_
              refine hv5.take many rfl hml fun vg hvg => ?_
              refine xi (r := (((q ++ [bb]).length : Nat) : Int)) (by rw [wrapI (by omega)]; simp) ?_
              have hgk : (rest.take many).length ≤ k := by
                have hk' : l.length + 1 ≤ k := by simp at hk; omega
                have h1 : (rest.take many).length ≤ rest.length := by simp; omega
                by_cases e : x.1.length = q.length
                · rw [if_pos e] at hL'
                  have : L'.length = l.length + 1 := by rw [← hL']; simp
                  omega
                · refine Classical.byContradiction fun hn => ?_
                  rw [if_neg e] at hL' hval
                  have hl1 : L'.length = l.length + 2 := by rw [← hL']; simp
                  have hdl : done.length + rest.length = L'.length := by rw [← hdr]; simp
                  have hd0 : done = [] := List.eq_nil_of_length_eq_zero (by omega)
                  have hmr : rest.take many = rest := List.take_of_length_le (by simp at hn; omega)
                  rw [hd0, List.nil_append] at hdr
                  rw [hmr, hdr, ← hL'] at hmall
                  obtain ⟨u, hu, c, r, hc, h | ⟨u', hu', d, r', hd, hcd⟩⟩ := hpt.two
                  · rw [← hval] at h; cases h
                  · apply hcd
                    have e1 := hmall u hu
                    have e2 := hmall u' hu'
                    rw [hc, byteAt_app] at e1
                    rw [hd, byteAt_app] at e2
                    rw [e1, e2]
              have hE5 := (Ext.refl No w').drew
              refine (ih hgk (by simp; omega) (hvg.extN hE5) (hrr.take many) (fun u hu => hs u (hLs u (hrest u (List.mem_of_mem_take hu)))) (fun u hu => ?_) (by simp; omega) (hR5.cnt.extN hE5) ho).mono ?_
              · obtain ⟨c, r, hc⟩ := hlong u (List.mem_of_mem_take hu)
                have := hmall u hu
                rw [hc, byteAt_app] at this
                rw [hc, this]
                exact ⟨r, by simp⟩
              · rintro r w7 ⟨t2, rfl, hR7, hcan7, hleaf7, hown7⟩
                have hz7 := hR7.ext.size
                have hz7 : w'.heap.size ≤ w7.heap.size := hz7
                have he7 := hR7.extM
                have he7' : Ext (MX mt) w' w7 := he7.undrew
                have hmb7 := hmb5.ext he7' (hR5.cnt.ne hmb5 (by decide))
                have hRn : Res w w7 ow .nil (.node a ow part val uks kids) mt (n + 1 + sizes kids + t2.er.size) := hR5.mt he7' hR7.cnt
                have hg0 : rest[0] ∈ rest.take many := by
                  rw [List.mem_take_iff_getElem]
                  exact ⟨0, by omega, rfl⟩
                have hsome : t2.er.opt.isSome := by
                  obtain ⟨r, hr0⟩ := split_at (hpt.all _ (hLs _ (hrest _ (List.getElem_mem h0)))) (hlong.lt (List.getElem_mem h0))
                  rw [hbb] at hr0
                  refine hcan7.some (k := r) ?_
                  show (look (rest.take many) ((q ++ [bb]) ++ r)).isSome
                  cases hlk : look (rest.take many) ((q ++ [bb]) ++ r) with
                  | some => rfl
                  | none => exact absurd (by rw [hr0]; simp) (look_none.1 hlk _ hg0)
                obtain ⟨a2, ow2, p2, v2, ks2, kids2, rfl⟩ := T.node_of hsome
                have hnew : ∀ b, (T.node a2 ow2 p2 v2 ks2 kids2).All b → w'.heap.size ≤ b := fun b hb => hR7.new hb
                have hold : ∀ b, NX a uks b → b < w'.heap.size := fun b hb => hR5.tree.lt (.inl hb)
                have holdk : ∀ c b, (kids c).All b → b < w'.heap.size := fun c b hb => (hR5.tree.2 c).lt hb
                have hzw := hR5.ext.size
                refine ⟨by show w7.cell? _ = _; exact (hmb7.cell 1).trans rfl, ?_⟩
                refine (c_RKid hRn ho hks5 (c0 := bb) rfl hR7.tree hR7.sep (fun b hb => .inr (by have := hnew b hb; omega)) (fun b hb => .inr (by have := hnew b hb.all; omega)) (fun b hb hx => by have := hnew b hb; have := hold b hx; omega)
                  (fun c _ b hb hx => by have := hnew b hb.all; have := holdk c b hx; omega) (fun c _ b hb hx => by have := hnew b hx; have := holdk c b hb.all; omega)).mono ?_
                rintro r w8 ⟨uks', hR8, hks8, he8, -⟩
                have hnbp : NBP w7 (· ∈ uks) := hRn.tree.1.nbp.sub fun b hb => .inr hb
                have hv8 := (hv5.mt he7' hR5.cnt).ext he8 hnbp
                refine hv8.drop many rfl hml fun v9 hv9 => ?_
                have hkb : (kids bb).er = .nil := (hcan bb).none fun r => look_bytes fun u hu e => hsep u hu rest[0] (List.getElem_mem h0) (by rw [e, hbb])
                have hszz := sizes_upd kids bb (T.node a2 ow2 p2 v2 ks2 kids2)
                rw [hkb] at hszz
                have hszz : sizes (updT kids bb (T.node a2 ow2 p2 v2 ks2 kids2)) + 0 = sizes kids + (T.node a2 ow2 p2 v2 ks2 kids2).er.size := hszz
                refine xnext (rest.drop many).length (by simp; omega) ⟨v9, _, _, done ++ rest.take many, rest.drop many, uks', updT kids bb (T.node a2 ow2 p2 v2 ks2 kids2), rfl, rfl, by rw [List.append_assoc, List.take_append_drop, hdr], hv9, ?_, hks8, fun c => ?_, fun c => ?_, fun c => ?_, fun u hu y hy => ?_, ?_⟩
                · have : n + 1 + sizes (updT kids bb (T.node a2 ow2 p2 v2 ks2 kids2)) = n + 1 + sizes kids + (T.node a2 ow2 p2 v2 ks2 kids2).er.size := by omega
                  rw [this]; exact hR8
                · have h1 := Can.group (kids := fun c => (kids c).er) hcan (hcan7.congr fun r => by rw [List.append_assoc]; rfl) (fun u hu => by
                    have := hsep u hu rest[0] (List.getElem_mem h0)
                    rwa [hbb] at this) hmall c
                  have h2 := congrFun (updT_er kids bb (T.node a2 ow2 p2 v2 ks2 kids2)) c
                  have h2 : (updT kids bb (T.node a2 ow2 p2 v2 ks2 kids2) c).er = _ := h2
                  rw [h2]; exact h1
                · unfold updT; split
                  · exact hleaf7
                  · exact hleafy c
                · unfold updT; split
                  · exact hown7
                  · exact howned c
                · rcases List.mem_append.1 hu with e | e
                  · exact hsep u e y (List.mem_of_mem_drop hy)
                  · rw [hmall u e]; exact (hdrop y hy).symm
                · refine hmb7.ext he8 fun e => ?_
                  obtain ⟨cs, T', h3, h4⟩ := hRn.tree.1.kd.ty mb e
                  exact NTy.maker (.inr h4) (h3.inj hmb7).2
        · have hr0 : rest = [] := List.eq_nil_of_length_eq_zero (by omega)
          subst hr0
          rw [List.append_nil] at hdr
          subst hdr
          have hsz : (T.node a ow part val uks kids).er.size = sizes kids + 1 := rfl
          have hcann := Can.groups (val := val) (kids := fun c => (kids c).er) hpart hcan hpt.get hpt.vl hpt.all hpt.two
          refine ⟨.node a ow part val uks kids, rfl, by rw [hsz, show n + (sizes kids + 1) = n + 1 + sizes kids by omega]; exact hR5, hcann, ⟨?_, hleafy⟩, rfl, howned⟩
          have hf := fine_of hcann.fine
          refine ⟨fun h => absurd h hks5, fun h => ?_⟩
          exfalso
          have h0 : cntE (fun c => (kids c).er) = 0 := by
            have : cntE (fun c => (kids c).er) = cnt (fun c => (kids c).ptr) := cnt_congr' fun c => T.er_opt (kids c)
            rw [this]; exact h
          obtain ⟨u, hu, c, r, hc, -⟩ := hpt.two
          have hu2 : ((kids c).er).opt.isSome := (hcan c).some (k := r) (by
            rw [hpt.get]
            cases hlk : look (x :: y :: l) (q ++ c :: r) with
            | some => rfl
            | none => exact absurd hc (look_none.1 hlk u hu))
          have h9 : 0 < cntE (fun c => (kids c).er) := cnt_pos (m := fun c => (kids c).er.opt) (c := c) hu2
          omega
end
end Go.Proofs.YtidkkkdlaclolaaGreat
end
