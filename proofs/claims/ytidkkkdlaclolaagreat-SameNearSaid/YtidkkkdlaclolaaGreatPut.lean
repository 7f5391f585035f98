/-  put: what it makes, and writes.  -/
import Derived.Test.YtidkkkdlaclolaaGreatCanon
import Derived.Test.YtidkkkdlaclolaaGreatMap
import Derived.LaidEql
namespace Go.Proofs.YtidkkkdlaclolaaGreat
open Go Go.RowKit X
set_option linter.unusedSimpArgs false
set_option linter.unusedVariables false
set_option linter.unusedSectionVars false
variable [Floor]

abbrev putV (x o : Nat) (mt : Option Mtr) : Value := .agg #[.int .u64 x, .int .u64 o, mv mt]
abbrev putC (x o : Nat) (mt : Option Mtr) : List Value := [.int .u64 x, .int .u64 o, mv mt]
theorem oth_put : Oth T_put_putter := by unfold Oth; decide
/-- every node's owner is one of these -/
def T.OwQ (q : Nat → Prop) : T → Prop
  | .nil => True
  | .node _ ow _ _ _ kids => q ow ∧ ∀ c, (kids c).OwQ q
theorem T.Owned.q {o : Nat} : ∀ {t : T}, t.Owned o → t.OwQ (· = o) := by
  intro t
  induction t with
  | nil => intro _; trivial
  | node a ow part val ks kids ih => rintro ⟨h1, h2⟩; exact ⟨h1, fun c => ih c (h2 c)⟩
theorem T.OwQ.mono {q q' : Nat → Prop} (hq : ∀ o, q o → q' o) : ∀ {t : T}, t.OwQ q → t.OwQ q' := by
  intro t
  induction t with
  | nil => intro _; trivial
  | node a ow part val ks kids ih => rintro ⟨h1, h2⟩; exact ⟨hq _ h1, fun c => ih c (h2 c)⟩
theorem T.OwQ.free {o : Nat} : ∀ {t : T}, t.OwQ (· ≠ o) → t.Free o := by
  intro t
  induction t with
  | nil => intro _; trivial
  | node a ow part val ks kids ih => rintro ⟨h1, h2⟩; exact ⟨h1, fun c => ih c (h2 c)⟩
theorem Tree.not {w : World} {t : T} {b : Nat} {cs : List Value} {T : TypeId} (h : Tree w t) (hb : Blk w b cs T) (ho : Oth T) : ¬ t.All b := fun hc => by
  obtain ⟨cs', T', h1, h2⟩ := h.ty hc
  exact ho.nt h2 (h1.inj hb).2
theorem Tree.nbX {w : World} {t : T} {X : Nat → Prop} (h : Tree w t) (hx : ∀ b, X b → t.All b) : NB w X := fun b hb _ => by
  obtain ⟨cs, T', h1, h2⟩ := h.ty (hx b hb)
  exact ⟨h.fl (hx b hb), cs, T', h1, (NT.ne h2).1⟩
theorem Res.from' {w w1 w2 : World} {o n : Nat} {t t' : T} {mt : Option Mtr} (he : Ext No w w1) (h : Res w1 w2 o t t' mt n) : Res w w2 o t t' mt n := by
  have := he.size
  exact ⟨h.tree, (he.mono fun _ _ h => h.elim).transS h.ext, h.cnt, fun b hb => (h.all b hb).imp id fun h => by omega, fun b hb => (h.foot b hb).imp id fun h => by omega, h.sep⟩
theorem Bs.rdK {w : World} {v : Value} {bs : Key} {K : Value → Value → Prop} {kd : IntKind} {i : Int} (h : Bs w v bs) (m : Nat) (hm : m < bs.length) (hi : i = (m : Int)) (k : ∀ p, (∀ w', Bs w' v bs → xKeep1 w' p (bv bs[m])) → K p (bv bs[m])) :
    xIxS v (.int kd i) 1 fun u => xAt u fun a => XLd w a fun x => K u x := by
  have key : ∀ w', Bs w' v bs → ∃ a cap, v = .slice (some a) bs.length cap ∧ w'.cell? (a.add (m * 1)) = some (bv bs[m]) := by
    intro w' h1
    obtain ⟨a, cap, rfl, hc⟩ := Sl.cell h1 hm (Nat.zero_lt_one)
    refine ⟨a, cap, rfl, ?_⟩
    simp only [Nat.mul_one, Nat.add_zero, Addr.add_zero'] at hc ⊢
    rw [hc]; simp [hm]
  obtain ⟨a, cap, rfl, hc⟩ := key w h
  refine ⟨m, hi, hm, ⟨_, hc, k _ fun w' h' => ?_⟩⟩
  obtain ⟨a', cap', e, hc'⟩ := key w' h'
  simp only [Value.slice.injEq, Option.some.injEq] at e
  obtain ⟨rfl, -, rfl⟩ := e
  exact hc'
/-- whose the top node is -/
def T.Top (o : Nat) : T → Prop
  | .nil => False
  | .node _ ow _ _ _ _ => ow = o
/-- how many nodes are not the owner's -/
def T.pot (o : Nat) : T → Nat
  | .nil => 0
  | .node _ ow _ _ _ kids => (byt.map fun c => (kids c).pot o).sum + (if ow = o then 0 else 1)
abbrev pots (o : Nat) (kids : UInt8 → T) : Nat := (byt.map fun c => (kids c).pot o).sum
theorem pot_node {o a ow : Nat} {part : Key} {val : Option Nat} {ks : List Nat} {kids : UInt8 → T} : (T.node a ow part val ks kids).pot o = pots o kids + (if ow = o then 0 else 1) := by rw [T.pot]
theorem pots_upd (o : Nat) (kids : UInt8 → T) (b : UInt8) (t : T) : pots o (updT kids b t) + (kids b).pot o = pots o kids + t.pot o := by
  have := sum_upd (Rise.nodup byt_sorted) (byt_mem b) (fun c => (kids c).pot o) (t.pot o)
  have e : (byt.map fun c => (updT kids b t c).pot o) = byt.map fun c => if c = b then t.pot o else (kids c).pot o := by
    refine List.map_congr_left fun c _ => ?_
    unfold updT; split <;> rfl
  show (byt.map fun c => (updT kids b t c).pot o).sum + _ = _
  rw [e]; exact this
theorem pots_no (o : Nat) : pots o (fun _ => T.nil) = 0 := by
  have : ∀ l : List UInt8, (l.map fun _ => (T.nil).pot o).sum = 0 := by
    intro l
    induction l with
    | nil => rfl
    | cons a r ih => rw [List.map_cons, List.sum_cons, ih]; rfl
  exact this byt
theorem leaf_pot {o a : Nat} {p : Key} {v : Option Nat} : (T.node a o p v [] fun _ => .nil).pot o = 0 := by rw [pot_node, pots_no, if_pos rfl]
theorem pots_kid (o : Nat) (kids : UInt8 → T) (c : UInt8) : (kids c).pot o ≤ pots o kids := by
  have := pots_upd o kids c .nil
  have : (T.nil).pot o = 0 := rfl
  omega
/-- all nodes on the way to a key are the owner's -/
def T.Way (o : Nat) : T → Key → Prop
  | .nil, _ => True
  | .node _ ow part _ _ kids, k => ow = o ∧ ∀ c r, k = part ++ c :: r → (kids c).Way o r
/-- what is not the owner's has nothing of it below -/
def T.Up (o : Nat) : T → Prop
  | .nil => True
  | .node _ ow _ _ _ kids => (ow = o ∨ ∀ c, (kids c).Free o) ∧ ∀ c, (kids c).Up o
theorem T.Free.up {o : Nat} : ∀ {t : T}, t.Free o → t.Up o := by
  intro t
  induction t with
  | nil => intro _; trivial
  | node a ow part val ks kids ih => rintro ⟨-, h⟩; exact ⟨.inr h, fun c => ih c (h c)⟩
theorem key_here {p r : Key} {c : UInt8} (h : p = p ++ c :: r) : False := by
  have := congrArg List.length h
  simp at this
theorem key_cons {p r r' : Key} {c c' : UInt8} (h : p ++ c :: r = p ++ c' :: r') : c = c' ∧ r = r' := by simpa using h
/-- a node that is not the owner's is not written to -/
theorem same_top {w w' : World} {o n : Nat} {t1 t2 : T} {mt : Option Mtr} (h1 : Tree w t1) (h2 : Tree w' t2) (hm : Mt w mt n) (he : Ext (fun b => MX mt b ∨ t1.Foot o b) w w') (hf : t1.Free o) (hp : t2.ptr = t1.ptr) (ht : t2.Top o) : False := by
  cases t2 with
  | nil => exact ht
  | node a2 ow2 p2 v2 ks2 kids2 =>
    have ht : ow2 = o := ht
    cases t1 with
    | nil => cases hp
    | node a1 ow1 p1 v1 ks1 kids1 =>
      obtain rfl : a2 = a1 := by simpa [T.ptr] using hp
      obtain ⟨pv1, hb1, -⟩ := h1.1.blk
      obtain ⟨pv2, hb2, -⟩ := h2.1.blk
      have hb1' := hb1.ext he fun hx => hx.elim (hm.ne hb1 (by decide)) (hf.foot _)
      have e := (hb1'.inj hb2).1
      simp only [List.cons.injEq, Value.int.injEq, true_and] at e
      exact hf.1 (by have := e.1; omega)
/-- what an operation by a key leaves where it was: all but the way of the key -/
def T.Sh : T → T → Key → Prop
  | .nil, _, _ => True
  | .node a _ part _ _ kids, t', k => t'.ptr = some ⟨a, 0, none⟩ ∨ ∀ a' ow' val' ks' kids', t' = .node a' ow' part val' ks' kids' → cnt (ptrs kids') = cnt (ptrs kids) → (∀ d, (∀ r, k ≠ part ++ d :: r) → kids' d = kids d) ∧ ∀ d r, k = part ++ d :: r → T.Sh (kids d) (kids' d) r
theorem T.Sh.refl {t : T} {k : Key} : t.Sh t k := by
  cases t with
  | nil => exact trivial
  | node => exact .inl rfl
theorem T.Sh.none {t : T} {k : Key} : t.Sh .nil k := by
  cases t with
  | nil => exact trivial
  | node => exact .inr fun _ _ _ _ _ e => by cases e
section
variable {a ow a' ow' : Nat} {part part' : Key} {val val' : Option Nat} {ks ks' : List Nat} {kids kids' : UInt8 → T} {k : Key}
theorem T.Sh.ofPart (h : part' ≠ part) : (T.node a ow part val ks kids).Sh (.node a' ow' part' val' ks' kids') k := .inr fun _ _ _ _ _ e => by
  injection e with _ _ h1
  exact absurd h1 h
theorem T.Sh.ofKids : (T.node a ow part val ks kids).Sh (.node a' ow' part val' ks' kids) k := .inr fun _ _ _ _ _ e _ => by
  injection e with _ _ _ _ _ h1
  subst h1
  exact ⟨fun _ _ => rfl, fun _ _ _ => T.Sh.refl⟩
theorem T.Sh.ofCnt (h : X.cnt (ptrs kids') ≠ X.cnt (ptrs kids)) : (T.node a ow part val ks kids).Sh (.node a' ow' part' val' ks' kids') k := .inr fun _ _ _ _ _ e hc => by
  injection e with _ _ _ _ _ h1
  subst h1
  exact absurd hc h
theorem T.Sh.ofUpd {c : UInt8} {t2 : T} {r : Key} (h : (kids c).Sh t2 r) : (T.node a ow part val ks kids).Sh (.node a' ow' part val' ks' (updT kids c t2)) (part ++ c :: r) := .inr fun _ _ _ _ _ e _ => by
  injection e with _ _ _ _ _ h1
  subst h1
  refine ⟨fun d hd => updT_other _ _ fun e => hd r (by rw [e]), fun d r' e => ?_⟩
  obtain ⟨rfl, rfl⟩ := key_cons e
  rw [updT_same]; exact h
end
/-- what a put makes of a tree -/
structure PutR (w w' : World) (o : Nat) (t t' : T) (mt : Option Mtr) (n n' : Nat) (k : Key) (x : Nat) : Prop where
  res : Res w w' o t t' mt n'
  er : t'.er = putE t.er k x
  leafy : t.Leafy → t'.Leafy
  le : n' ≤ n + t.steps k + 2
  own : ∀ q : Nat → Prop, q o → t.OwQ q → t'.OwQ q
  mine : t.OwQ (· = o) → n' ≤ n + 2 ∧ ((t.get k).isSome → t'.ptr = t.ptr ∧ n' = n)
  root : ∀ a, t.ptr = some ⟨a, 0, none⟩ → ∃ cs T, Blk w' a cs T
  top : t'.ptr = t.ptr ∨ t'.Top o
  pot : n' + t'.pot o ≤ n + t.pot o + 2
  pot0 : (t.get k).isSome → n' + t'.pot o ≤ n + t.pot o
  still : t.Way o k → (t.get k).isSome → t'.ptr = t.ptr ∧ n' = n
  up : t.get k ≠ some x → t.Up o → t'.Up o ∧ t'.Way o k
  sh : t.Sh t' k
theorem PutR.from' {w w1 w2 : World} {o n n' x : Nat} {t t' : T} {mt : Option Mtr} {k : Key} (he : Ext No w w1) (h : PutR w1 w2 o t t' mt n n' k x) : PutR w w2 o t t' mt n n' k x :=
  ⟨h.res.from' he, h.er, h.leafy, h.le, h.own, h.mine, h.root, h.top, h.pot, h.pot0, h.still, h.up, h.sh⟩
section
variable {w : World} {a ow o x : Nat} {part : Key} {val : Option Nat} {ks : List Nat} {kids : UInt8 → T} {mt : Option Mtr} {n : Nat}
theorem c_PHere (ht : Tree w (.node a ow part val ks kids)) (hs : (T.node a ow part val ks kids).Sep o) (hm : Mt w mt n) (ho : o ≠ 0) (hx : x < 18446744073709551616) :
    Ret P n_put_putter_here [putV x o mt, (T.node a ow part val ks kids).v] w fun r w' => ∃ t' n', r = t'.v ∧ PutR w w' o (.node a ow part val ks kids) t' mt n n' part x := by
  refine W_put_putter_here ?_
  refine xnew fun pb w1 hpb hblk hz he => ?_
  have hblk : Blk w1 pb (putC x o mt) T_put_putter := hblk
  have ht1 := ht.extN he
  have hm1 := hm.extN he
  obtain ⟨pv0, hba, -⟩ := ht1.1.blk
  refine hblk.ld (v := mv mt) rfl ?_
  refine hblk.ld (v := .int .u64 o) rfl ?_
  refine (c_HOwn (Res.start ht1 hs hm1).h ho).mono ?_
  rintro r w2 ⟨u, uks, n', rfl, hR, hiff, he2, hle, hmine⟩
  have hblk2 := hblk.ext he2 (hm1.ne hblk (by decide))
  have hba2 := hba.ext he2 (hm1.ne hba (by decide))
  refine hblk2.ld (v := .int .u64 o) rfl ?_
  refine hblk2.ld (v := .int .u64 x) rfl ?_
  refine (c_RVal (hR.res rfl) ho hx).mono ?_
  rintro r w3 ⟨hR3, he3⟩
  obtain ⟨pvu, hbu, -⟩ := hR3.tree.1.blk
  have hput : putE (T.node a ow part val ks kids).er part x = .node part (some x) fun c => (kids c).er := by
    have := putE_app (p := part) (r := []) (val := val) (kids := fun c => (kids c).er) (v := x)
    rw [List.append_nil] at this
    exact this
  refine ⟨.node u o part (some x) uks kids, n', rfl, PutR.from' he ⟨hR3, hput.symm, fun hl => ⟨by rw [hiff]; exact hl.1, hl.2⟩, by omega, fun q hq hw => ⟨hq, hw.2⟩, fun hw => ?_, fun a' ha' => ?_, .inr rfl, by rw [pot_node, pot_node, if_pos rfl]; omega, fun _ => ?_, fun hw _ => ?_, fun _ hu => ⟨⟨.inl rfl, hu.2⟩, rfl, fun c r e => (key_here e).elim⟩, T.Sh.ofKids⟩⟩
  · obtain ⟨h1, h2, h3⟩ := hmine hw.1.symm
    exact ⟨by omega, fun _ => ⟨by rw [h1]; rfl, h3⟩⟩
  · obtain rfl : a = a' := by simpa [T.ptr] using ha'
    by_cases e : a = u
    · subst e; exact ⟨_, _, hbu⟩
    · exact ⟨_, _, hba2.ext he3 e⟩
  · rw [pot_node, pot_node, if_pos rfl]
    split
    · rename_i how
      have := (hmine how.symm).2.2
      omega
    · omega
  · obtain ⟨h1, h2, h3⟩ := hmine hw.1.symm
    exact ⟨by rw [h1]; rfl, h3⟩
/-- a tree of one leaf -/
theorem Sep.leaf {o a : Nat} {p : Key} {v : Option Nat} : (T.node a o p v [] fun _ => .nil).Sep o := ⟨fun _ => trivial, fun _ _ _ _ h => h.elim, fun _ _ _ _ h => h.elim, fun _ _ h => h.elim⟩
theorem leaf_all {a o b : Nat} {p : Key} {v : Option Nat} (h : (T.node a o p v [] fun _ => .nil).All b) : b = a := by
  rcases h with (h | h) | ⟨c, h⟩
  · exact h
  · cases h
  · exact h.elim
theorem leaf_up {a o : Nat} {p : Key} {v : Option Nat} : (T.node a o p v [] fun _ => .nil).Up o := ⟨.inl rfl, fun _ => trivial⟩
theorem leaf_way {a o : Nat} {p k : Key} {v : Option Nat} : (T.node a o p v [] fun _ => .nil).Way o k := ⟨rfl, fun _ _ _ => trivial⟩
theorem leaf_leafy {a o : Nat} {p : Key} {v : Option Nat} : (T.node a o p v [] fun _ => .nil).Leafy := ⟨by simp [cnt, dom_none, T.ptr], fun _ => trivial⟩
/-- a leaf for what is not there -/
theorem c_PLeaf {vk : Value} {k : Key} (hm : Mt w mt n) (hk : Bs w vk k) (hkl : k.length ≤ 65535) (hx : x < 18446744073709551616) :
    Ret P n_node_Leaf [mv mt, .int .u64 o, vk, .int .u64 x] w fun r w' => ∃ a, r = rp a ∧ Tree w' (.node a o k (some x) [] fun _ => .nil) ∧ w.heap.size ≤ a ∧ Mt w' mt (n + 1) ∧ Ext (MX mt) w w' := by
  refine (c_Leaf hm hk hkl hx).mono ?_
  rintro r w1 ⟨a, rfl, hna, ha, hm1, he1⟩
  exact ⟨a, rfl, ⟨hna, fun _ => trivial⟩, ha, hm1, he1⟩
theorem c_PNil {vk : Value} {k : Key} (hm : Mt w mt n) (hk : Bs w vk k) (hkl : k.length ≤ 65535) (hx : x < 18446744073709551616) :
    Ret P n_put_putter_into [putV x o mt, T.nil.v, vk] w fun r w' => ∃ t', r = t'.v ∧ PutR w w' o .nil t' mt n (n + 1) k x := by
  refine W_put_putter_into ?_
  refine xnew fun pb w1 hpb hblk hz he => ?_
  have hblk : Blk w1 pb (putC x o mt) T_put_putter := hblk
  refine xifT rfl ?_
  refine hblk.ld (v := mv mt) rfl ?_
  refine hblk.ld (v := .int .u64 o) rfl ?_
  refine hblk.ld (v := .int .u64 x) rfl ?_
  refine (c_PLeaf (hm.extN he) (hk.extN he) hkl hx).mono ?_
  rintro r w2 ⟨a, rfl, htr, ha, hm2, he2⟩
  refine ⟨.node a o k (some x) [] fun _ => .nil, rfl, PutR.from' he ⟨⟨htr, he2.mono fun b _ h => .inl h, hm2, fun b hb => .inr (by rw [leaf_all hb]; exact ha), fun b hb => .inr (by rw [leaf_all hb.all]; exact ha), Sep.leaf⟩, rfl, fun _ => leaf_leafy, by omega, fun q hq _ => ⟨hq, fun _ => trivial⟩, fun _ => ⟨by omega, fun h => by cases h⟩, (fun a h => by cases h), .inr rfl, by rw [leaf_pot]; omega, (fun h => by cases h), (fun _ h => by cases h), fun _ _ => ⟨leaf_up, leaf_way⟩, trivial⟩⟩
end
def IntoS (o x : Nat) (mt : Option Mtr) (t : T) : Prop := ∀ {w : World} {vk : Value} {k : Key} {n : Nat}, Tree w t → t.Sep o → t.er.Fine → t.Leafy → Mt w mt n → Bs w vk k → k.length ≤ 65535 →
  Ret P n_put_putter_into [putV x o mt, t.v, vk] w fun r w' => ∃ t' n', r = t'.v ∧ PutR w w' o t t' mt n n' k x
section
variable {w : World} {a ow o x : Nat} {part : Key} {val : Option Nat} {ks : List Nat} {kids : UInt8 → T} {mt : Option Mtr} {n : Nat} {vk : Value} {c : UInt8} {r : Key}
theorem T.node_of_er {t : T} (h : t.er.opt.isSome = true) : ∃ a ow part val ks kids, t = .node a ow part val ks kids := by
  cases t with
  | nil => cases h
  | node => exact ⟨_, _, _, _, _, _, rfl⟩
theorem c_PBelow (ih : IntoS o x mt (kids c)) (ht : Tree w (.node a ow part val ks kids)) (hs : (T.node a ow part val ks kids).Sep o) (hf : (T.node a ow part val ks kids).er.Fine) (hl : (T.node a ow part val ks kids).Leafy) (hne : ks ≠ []) (hm : Mt w mt n) (ho : o ≠ 0) (hk : Bs w vk (c :: r)) (hkl : r.length ≤ 65535) :
    Ret P n_put_putter_below [putV x o mt, (T.node a ow part val ks kids).v, vk] w fun r' w' => ∃ t' n', r' = t'.v ∧ PutR w w' o (.node a ow part val ks kids) t' mt n n' (part ++ c :: r) x := by
  refine W_put_putter_below ?_
  refine xnew fun pb w1 hpb hblk hz he => ?_
  have hblk : Blk w1 pb (putC x o mt) T_put_putter := hblk
  have hk1 := hk.extN he
  refine hk1.rd 0 (by simp) rfl ?_
  refine (c_Kid (ht.extN he)).mono ?_
  rintro _ w2 ⟨rfl, he2⟩
  have hE2 : Ext No w w2.drew := (he.transN he2).drew
  have hblk2 : Blk w2.drew pb (putC x o mt) T_put_putter := (hblk.ext he2 fun h => h).drew
  have ht2 := ht.extN hE2
  have hm2 := hm.extN hE2
  have hk2 := hk.extN hE2
  refine hblk2.ldA rfl ?_
  refine (hk.extN (he.transN he2)).drop 1 rfl (by simp) fun vr hvr => ?_
  have hvr : Bs w2.drew vr r := hvr.extN (Ext.refl No w2).drew
  refine (ih (ht2.2 c) (hs.1 c) (hf.2 c) (hl.2 c) hm2 hvr hkl).mono ?_
  rintro _ w3 ⟨t2, n2, rfl, hP⟩
  have hH := ResH.kid ht2 hs hm2 hP.res
  obtain ⟨a2, ow2, part2, val2, ks2, kids2, ht2e⟩ := T.node_of_er (t := t2) (by rw [hP.er]; exact putE_some)
  have hp2 : t2.ptr = some ⟨a2, 0, none⟩ := by rw [ht2e]; rfl
  have hgetk : (T.node a ow part val ks kids).get (part ++ c :: r) = (kids c).get r := get_cons
  have hstep : (T.node a ow part val ks kids).steps (part ++ c :: r) = (kids c).steps r + 1 := by
    rw [T.steps_node, if_pos (List.prefix_append _ _), List.drop_left]
  have her : ∀ u uks, (T.node u o part val uks (updT kids c t2)).er = putE (T.node a ow part val ks kids).er (part ++ c :: r) x := fun u uks => by
    show E.node part val (fun d => (updT kids c t2 d).er) = putE (.node part val fun d => (kids d).er) (part ++ c :: r) x
    rw [putE_app, updT_er, hP.er]
  have hle := hP.le
  have hx1 : ∀ b, (MX mt b ∨ (T.node a ow part val ks kids).Foot o b) → b ≠ pb := fun b hb e => by
    subst e
    rcases hb with hb | hb
    · exact hm2.ne hblk2 (by decide) hb
    · exact ht2.not hblk2 oth_put hb.all
  have hblk3 : Blk w3 pb (putC x o mt) T_put_putter := hblk2.ext hH.ext fun h => hx1 _ h rfl
  have hk3 : Bs w3 vk (c :: r) := hk2.ext hH.ext (hm2.nb.or (Foot.nb ht2))
  obtain ⟨pv0, hba, -⟩ := hH.na.blk
  have hleafy : ∀ u uks, uks ≠ [] → (T.node a ow part val ks kids).Leafy → (T.node u o part val uks (updT kids c t2)).Leafy := fun u uks hu hlf => by
    refine ⟨iff_of_false hu ?_, fun d => ?_⟩
    · rw [show (fun d => (updT kids c t2 d).ptr) = ptrs (updT kids c t2) from rfl, updT_ptr, hp2]
      exact fun h0 => by
        have h1 := (dom_mem (m := upd (ptrs kids) c (some ⟨a2, 0, none⟩)) (c := c)).2 (by rw [upd_same]; rfl)
        unfold cnt at h0
        rw [List.length_eq_zero_iff.1 h0] at h1
        cases h1
    · unfold updT; split
      · exact hP.leafy (hlf.2 c)
      · exact hlf.2 d
  have howq : ∀ q : Nat → Prop, q o → (∀ d, (kids d).OwQ q) → ∀ d, (updT kids c t2 d).OwQ q := fun q hq h d => by
    unfold updT; split
    · exact hP.own q hq (h c)
    · exact h d
  have hroot : ∀ w', Blk w' a [.int .u64 ow, pv0, .int .u64 (val.getD 0 : Nat), .bool val.isSome, kptr ks] T_node_Node → ∀ a', (T.node a ow part val ks kids).ptr = some ⟨a', 0, none⟩ → ∃ cs T, Blk w' a' cs T := fun w' h a' ha' => by
    obtain rfl : a = a' := by simpa [T.ptr] using ha'
    exact ⟨_, _, h⟩
  have eqCase : t2.ptr = (kids c).ptr → PutR w w3 o (.node a ow part val ks kids) (.node a ow part val ks (updT kids c t2)) mt n n2 (part ++ c :: r) x := fun e => by
    have hmm : ptrs kids = ptrs (updT kids c t2) := by rw [updT_ptr, e]; exact (upd_id _ _).symm
    refine PutR.from' hE2 ⟨hH.res hmm, ?_, fun hlf => ?_, by rw [hstep]; omega, fun q hq h => ⟨h.1, howq q hq h.2⟩, fun h => ?_, hroot w3 hba, .inl rfl, ?_, fun hg => ?_, fun hw hg => ?_, fun hne hu => ?_, T.Sh.ofUpd hP.sh⟩
    · show E.node part val (fun d => (updT kids c t2 d).er) = _
      exact her a ks
    · refine ⟨by rw [show (fun d => (updT kids c t2 d).ptr) = ptrs (updT kids c t2) from rfl, ← hmm]; exact hlf.1, fun d => ?_⟩
      unfold updT; split
      · exact hP.leafy (hlf.2 c)
      · exact hlf.2 d
    · obtain ⟨h1, h2⟩ := hP.mine (h.2 c)
      refine ⟨h1, fun hg => ⟨rfl, ?_⟩⟩
      rw [hgetk] at hg
      exact (h2 hg).2
    · have h1 := hP.pot
      have h2 := pots_upd o kids c t2
      rw [pot_node, pot_node]
      omega
    · rw [hgetk] at hg
      have h1 := hP.pot0 hg
      have h2 := pots_upd o kids c t2
      rw [pot_node, pot_node]
      omega
    · rw [hgetk] at hg
      exact ⟨rfl, (hP.still (hw.2 c r rfl) hg).2⟩
    · rw [hgetk] at hne
      obtain ⟨u1, u2⟩ := hP.up hne (hu.2 c)
      have how : ow = o := hu.1.elim id fun hf => (same_top (ht2.2 c) hP.res.tree hm2 hP.res.ext (hf c) e (by
        rw [ht2e] at u2 ⊢
        exact u2.1)).elim
      refine ⟨⟨.inl how, fun d => ?_⟩, how, fun c' r' e' => ?_⟩
      · unfold updT; split
        · exact u1
        · exact hu.2 d
      · obtain ⟨rfl, rfl⟩ := key_cons e'
        rw [updT_same]; exact u2
  have neCase : t2.ptr ≠ (kids c).ptr → XLd w3 ⟨pb, 2, none⟩ fun v1012 => XLd w3 ⟨pb, 1, none⟩ fun v1013 => Ret P n_node_Node_Own [(T.node a ow part val ks kids).v, v1012, v1013] w3 fun v1014 w1015 => XLd w1015.drew ⟨pb, 1, none⟩ fun v1016 => xIxS vk (.int .i64 0) 1 fun v1017 => xAt v1017 fun a1018 => XLd w1015.drew a1018 fun v1019 => Ret P n_node_Node_SetKid [v1014, v1016, v1019, t2.v] w1015.drew fun v1020 w' => ∃ t' n', v1014 = t'.v ∧ PutR w w' o (.node a ow part val ks kids) t' mt n n' (part ++ c :: r) x := fun e => by
    refine hblk3.ld (v := mv mt) rfl ?_
    refine hblk3.ld (v := .int .u64 o) rfl ?_
    refine (c_HOwn hH ho).mono ?_
    rintro _ w4 ⟨u, uks, n3, rfl, hH4, hiff, he4, hle4, hmine⟩
    have hblk4 : Blk w4.drew pb (putC x o mt) T_put_putter := (hblk3.ext he4 (hH.cnt.ne hblk3 (by decide))).drew
    have hba4 := (hba.ext he4 (hH.cnt.ne hba (by decide))).drew
    have hk4 : Bs w4.drew vk (c :: r) := (hk3.mt he4 hH.cnt).extN (Ext.refl No w4).drew
    have hH4' := hH4.extN (Ext.refl No w4).drew
    have hu : uks ≠ [] := fun h => hne (hiff.1 h)
    refine hblk4.ld (v := .int .u64 o) rfl ?_
    refine hk4.rd 0 (by simp) rfl ?_
    have hv2 : t2.v = rp a2 := by show Value.pointer t2.ptr = _; rw [hp2]
    rw [hv2]
    refine (c_HSet hH4' ho hu (c0 := c) (by rw [updT_same]; exact hp2) fun d hd => by rw [updT_other _ _ hd]).mono ?_
    rintro _ w5 ⟨uks', hR5, hne5, he5⟩
    have hnu : a ≠ u → ¬ a ∈ uks := fun _ hx => by
      obtain ⟨cs', T', h1, h2⟩ := hH4'.na.kd.ty a hx
      exact h2.ne.2.1 (h1.inj hba4).2
    refine ⟨.node u o part val uks' (updT kids c t2), n3, rfl, PutR.from' hE2 ⟨hR5, her u uks', hleafy u uks' hne5, by rw [hstep]; omega, fun q hq h => ⟨hq, howq q hq h.2⟩, fun h => ?_, fun a' ha' => ?_, .inr rfl, ?_, fun hg => ?_, fun hw hg => ?_, fun hne hu => ?_, T.Sh.ofUpd hP.sh⟩⟩
    · obtain ⟨h1, h2⟩ := hP.mine (h.2 c)
      obtain ⟨h3, -, h4⟩ := hmine h.1.symm
      refine ⟨by omega, fun hg => ?_⟩
      rw [hgetk] at hg
      exact absurd (h2 hg).1 e
    · obtain rfl : a = a' := by simpa [T.ptr] using ha'
      by_cases hau : a = u
      · subst hau
        obtain ⟨pvu, hbu, -⟩ := hR5.tree.1.blk
        exact ⟨_, _, hbu⟩
      · exact ⟨_, _, hba4.ext he5 (hnu hau)⟩
    · have h1 := hP.pot
      have h2 := pots_upd o kids c t2
      rw [pot_node, pot_node, if_pos rfl]
      split
      · rename_i how
        have := (hmine how.symm).2.2
        omega
      · omega
    · rw [hgetk] at hg
      have h1 := hP.pot0 hg
      have h2 := pots_upd o kids c t2
      rw [pot_node, pot_node, if_pos rfl]
      split
      · rename_i how
        have := (hmine how.symm).2.2
        omega
      · omega
    · rw [hgetk] at hg
      exact absurd (hP.still (hw.2 c r rfl) hg).1 e
    · rw [hgetk] at hne
      obtain ⟨u1, u2⟩ := hP.up hne (hu.2 c)
      refine ⟨⟨.inl rfl, fun d => ?_⟩, rfl, fun c' r' e' => ?_⟩
      · unfold updT; split
        · exact u1
        · exact hu.2 d
      · obtain ⟨rfl, rfl⟩ := key_cons e'
        rw [updT_same]; exact u2
  show xPtrs P w3 (.pointer t2.ptr) (.pointer (kids c).ptr) _
  rw [hp2]
  cases hkc : kids c with
  | nil =>
    refine xifF rfl ?_
    exact neCase (by rw [hp2, hkc]; simp [T.ptr])
  | node a1 ow1 part1 val1 ks1 kids1 =>
    have hkp : (kids c).ptr = some ⟨a1, 0, none⟩ := by rw [hkc]; rfl
    obtain ⟨cs1, T1, hb1⟩ := hP.root a1 hkp
    have hb2 : ∃ cs T, Blk w3 a2 cs T := by
      have := hP.res.tree
      rw [ht2e] at this
      obtain ⟨pv, hb, -⟩ := this.1.blk
      exact ⟨_, _, hb⟩
    obtain ⟨cs2, T2, hb2⟩ := hb2
    show XSame P w3 ⟨a2, 0, none⟩ ⟨a1, 0, none⟩ _
    by_cases e : a2 = a1
    · subst e
      refine xsame (run_sameAddr_same _ _) ?_
      exact xifT rfl ⟨.node a ow part val ks (updT kids c t2), n2, rfl, eqCase (by rw [hp2, hkp])⟩
    · refine xsame (run_sameAddr_other _ (by simp [e]) hb2.h hb1.h) ?_
      refine xifF rfl ?_
      exact neCase (by rw [hp2, hkp]; simp [e])
end
theorem root_of {w w' : World} {a ow o : Nat} {part : Key} {val : Option Nat} {ks : List Nat} {kids : UInt8 → T} {mt : Option Mtr} {n n' : Nat} {t' : T} (hR : Res w w' o (.node a ow part val ks kids) t' mt n') (ht : Tree w (.node a ow part val ks kids)) (hs : (T.node a ow part val ks kids).Sep o) (hm : Mt w mt n) (h : o = ow → t'.All a) :
    ∀ a', (T.node a ow part val ks kids).ptr = some ⟨a', 0, none⟩ → ∃ cs T, Blk w' a' cs T := fun a' ha' => by
  obtain rfl : a = a' := by simpa [T.ptr] using ha'
  obtain ⟨pv, hb, -⟩ := ht.1.blk
  by_cases e : o = ow
  · obtain ⟨cs, T', h1, -⟩ := hR.tree.ty (h e)
    exact ⟨_, _, h1⟩
  · refine ⟨_, _, hb.ext hR.ext fun hx => ?_⟩
    rcases hx with hx | hx
    · exact hm.ne hb (by decide) hx
    · rcases hx with ⟨h1, -⟩ | ⟨c, h1⟩
      · exact e h1.symm
      · exact hs.2.2.2 c a h1 (.inl rfl)
theorem updT_cnt {kids : UInt8 → T} {c : UInt8} {t2 : T} (h : t2.ptr.isSome = true) : cnt (fun d => (updT kids c t2 d).ptr) ≠ 0 := fun h0 => by
  have h1 := (dom_mem (m := fun d => (updT kids c t2 d).ptr) (c := c)).2 (by rw [updT_same]; exact h)
  unfold cnt at h0
  rw [List.length_eq_zero_iff.1 h0] at h1
  cases h1
theorem steps_pos {a ow : Nat} {part : Key} {val : Option Nat} {ks : List Nat} {kids : UInt8 → T} {k : Key} : 1 ≤ (T.node a ow part val ks kids).steps k := by
  rw [T.steps_node]
  split
  · split
    · exact Nat.le_refl _
    · exact Nat.succ_le_succ (Nat.zero_le _)
  · exact Nat.le_refl _
theorem Res.extM' {w w1 w2 : World} {o n n2 : Nat} {t t' : T} {mt : Option Mtr} (h : Res w w1 o t t' mt n) (e : Ext (MX mt) w1 w2) (hm : Mt w2 mt n2) : Res w w2 o t t' mt n2 :=
  ⟨h.tree.extM h.cnt e, h.ext.transS (e.mono fun b _ hb => .inl hb), hm, h.all, h.foot, h.sep⟩
section
variable {w w1 : World} {o x up pb n1 : Nat} {t : T} {p r : Key} {val0 : Option Nat} {uks : List Nat} {kids0 : UInt8 → T} {mt : Option Mtr} {vk : Value} {K : Value → World → Prop}
theorem c_PSplit2 (hR : Res w w1 o t (.node up o p val0 uks kids0) mt n1) (hu : uks ≠ []) (hb : Blk w1 pb (putC x o mt) T_put_putter) (hk : Bs w1 vk (p ++ r)) (hkl : (p ++ r).length ≤ 65535) (hnil : ∀ y r', r = y :: r' → kids0 y = .nil) (ho : o ≠ 0) (hx : x < 18446744073709551616)
    (K1 : r = [] → ∀ w', Res w w' o t (.node up o p (some x) uks kids0) mt n1 → K (rp up) w')
    (K2 : ∀ y r', r = y :: r' → ∀ w' lf uks', Res w w' o t (.node up o p val0 uks' (updT kids0 y (.node lf o r' (some x) [] fun _ => .nil))) mt (n1 + 1) → uks' ≠ [] → Ext (fun b => MX mt b ∨ b ∈ uks) w1 w' → K (rp up) w') :
    XJ (fun J1035 =>
xLen vk fun v1039 =>
xEq (.int .i64 (p.length : Nat)) v1039 fun v1040 =>
xIf v1040 (XLd w1 ((⟨pb, 0, none⟩ : Addr).add 1) fun v1041 =>
XLd w1 ((⟨pb, 0, none⟩ : Addr).add 0) fun v1042 =>
Ret P n_node_Node_SetVal [rp up, v1041, v1042] w1 fun v1043 w1044 =>
J1035 [] w1044) (XLd w1.drew ((⟨pb, 0, none⟩ : Addr).add 1) fun v1045 =>
xIxS vk (.int .i64 (p.length : Nat)) 1 fun v1046 =>
xAt v1046 fun a1047 =>
XLd w1.drew a1047 fun v1048 =>
XLd w1.drew ((⟨pb, 0, none⟩ : Addr).add 2) fun v1049 =>
XLd w1.drew ((⟨pb, 0, none⟩ : Addr).add 1) fun v1050 =>
xAdd (.int .i64 (p.length : Nat)) (.int .i64 1) fun v1051 =>
xCutS 1 vk (some v1051) none none fun v1052 =>
XLd w1.drew ((⟨pb, 0, none⟩ : Addr).add 0) fun v1053 =>
Ret P n_node_Leaf [v1049, v1050, v1052, v1053] w1.drew fun v1054 w1055 =>
xKeep1 w1055 v1046 v1048 ∧ (xKeep1 w1055 (.pointer (some ((⟨pb, 0, none⟩ : Addr).add 1))) v1045 ∧ (Ret P n_node_Node_SetKid [rp up, v1045, v1048, v1054] w1055 fun v1056 w1057 =>
J1035 [] w1057)))) fun vs1036 g1037 w1038 => K (rp up) w1038 := by
  refine xj (fun vs w' => K (rp up) w') ?_ (fun vs g w' h => h)
  refine hk.len ?_
  cases r with
  | nil =>
    refine xifT (by simp) ?_
    refine hb.ld (v := .int .u64 o) rfl ?_
    refine hb.ld (v := .int .u64 x) rfl ?_
    refine (c_RVal hR ho hx).mono ?_
    rintro _ w2 ⟨hR2, -⟩
    exact K1 rfl _ hR2
  | cons y r' =>
    have hpl : p.length + (r'.length + 1) ≤ 65535 := by simpa using hkl
    refine xifF (by simp; omega) ?_
    have hd := Ext.drew (Ext.refl No w1)
    have hbd := hb.drew
    refine hbd.ld (v := .int .u64 o) rfl ?_
    refine (hk.extN hd).rdK p.length (by simp) rfl fun p0 hkeep => ?_
    have hy : (p ++ y :: r')[p.length]'(by simp) = y := by simp
    rw [hy] at hkeep ⊢
    refine hbd.ld (v := mv mt) rfl ?_
    refine hbd.ld (v := .int .u64 o) rfl ?_
    refine xi (r := ((p.length + 1 : Nat) : Int)) (by rw [wrapI (by omega)]; omega) ?_
    refine (hk.extN hd).drop (p.length + 1) rfl (by simp) fun v' hv' => ?_
    have hv' : Bs w1.drew v' r' := by
      have e : (p ++ y :: r').drop (p.length + 1) = r' := by
        rw [show p ++ y :: r' = (p ++ [y]) ++ r' by simp, List.drop_left' (by simp)]
      rw [e] at hv'; exact hv'
    refine hbd.ld (v := .int .u64 x) rfl ?_
    have hR1 := hR.extN hd
    refine (c_PLeaf hR1.cnt hv' (by omega) hx).mono ?_
    rintro _ w2 ⟨lf, rfl, htl, hlf, hm2, he2⟩
    have hlf : w1.heap.size ≤ lf := hlf
    have hR2 := hR1.extM' he2 hm2
    have hz := hR.ext.size
    refine ⟨hkeep _ ((hk.extN hd).mt he2 hR1.cnt), ?_, ?_⟩
    · have hb2 := hbd.ext he2 (hR1.cnt.ne hbd (by decide))
      show w2.cell? ⟨pb, 1, none⟩ = _
      rw [hb2.cell]; rfl
    refine (c_RKid hR2 ho hu (c0 := y) rfl htl Sep.leaf (fun b hb => .inr (by rw [leaf_all hb]; omega)) (fun b hb => .inr (by rw [leaf_all hb.all]; omega)) (fun b hb hn => ?_) (fun c hc b hb hn => ?_) (fun c hc b hb hn => ?_)).mono ?_
    · have := hR.lt hn; rw [leaf_all hb] at this; omega
    · have := (hR.tree.2 c).lt hn; rw [leaf_all hb.all] at this; omega
    · have := (hR.tree.2 c).lt hb.all; rw [leaf_all hn] at this; omega
    · rintro _ w3 ⟨uks', hR3, hne3, he3, -⟩
      exact K2 y r' rfl _ _ _ hR3 hne3 (((hd.mono fun _ _ h => h.elim).transS (he2.mono fun b _ h => .inl h)).transS (he3.mono fun b _ h => .inr h))
end
section
variable {w : World} {a ow o x : Nat} {part k : Key} {val : Option Nat} {ks : List Nat} {kids : UInt8 → T} {mt : Option Mtr} {n : Nat} {vp vk : Value}
theorem Tree.kids_nil (hl : (T.node a ow part val ks kids).Leafy) (hk : ks = []) : kids = fun _ => .nil := by
  funext c
  have h := hl.1.1 hk
  cases e : kids c with
  | nil => rfl
  | node a1 ow1 p1 v1 ks1 kids1 =>
    exfalso
    have h1 := (dom_mem (m := fun c => (kids c).ptr) (c := c)).2 (by simp only [e]; rfl)
    unfold cnt at h
    rw [List.length_eq_zero_iff.1 h] at h1
    cases h1
theorem c_PSplit (ht : Tree w (.node a ow part val ks kids)) (hs : (T.node a ow part val ks kids).Sep o) (hf : (T.node a ow part val ks kids).er.Fine) (hlf : (T.node a ow part val ks kids).Leafy) (hm : Mt w mt n) (ho : o ≠ 0) (hx : x < 18446744073709551616) (hvp : Bs w vp part) (hk : Bs w vk k) (hkl : k.length ≤ 65535)
    (hc : common part k < part.length ∨ (common part k = part.length ∧ ks = [] ∧ part.length < k.length)) :
    Ret P n_put_putter_split [putV x o mt, (T.node a ow part val ks kids).v, vp, vk, .int .i64 (common part k : Nat)] w fun r' w' => ∃ t' n', r' = t'.v ∧ PutR w w' o (.node a ow part val ks kids) t' mt n n' k x := by
  obtain ⟨p, q, r, hpart, hkk, hlen, hdiff⟩ := common_split part k
  rw [← hlen] at hc ⊢
  have hshort := ht.1.short
  subst hkk
  have hpl : p.length + r.length ≤ 65535 := by simpa using hkl
  have hql : part.length = p.length + q.length := by rw [hpart]; simp
  refine W_put_putter_split ?_
  refine xnew fun pb w1 hpb hblk hz he => ?_
  have hblk : Blk w1 pb (putC x o mt) T_put_putter := hblk
  have hblk1 := hblk.drew
  have hE1 := he.drew
  refine hblk1.ld (v := mv mt) rfl ?_
  refine hblk1.ld (v := .int .u64 o) rfl ?_
  refine (hvp.extN hE1).take p.length rfl (by omega) fun v' hv' => ?_
  have hv' : Bs w1.drew v' p := by
    have e : part.take p.length = p := by rw [hpart, List.take_left]
    rw [e] at hv'; exact hv'
  have hm1 := hm.extN hE1
  refine (c_Inner (ow := o) hm1 hv' (by omega)).mono ?_
  rintro _ w2 ⟨up, uks0, rfl, hna, hu0, hfr, hm2, he2⟩
  have hz1 : w.heap.size ≤ w1.heap.size := he.size
  have hfr : ∀ b, NX up uks0 b → w1.heap.size ≤ b := hfr
  have hE2 : Ext (MX mt) w w2 := (hE1.mono fun _ _ h => h.elim).transS he2
  have ht2 := ht.extM hm hE2
  have hvp2 := hvp.mt hE2 hm
  have hk2 := hk.mt hE2 hm
  have hblk2 := hblk1.ext he2 (hm1.ne hblk1 (by decide))
  have hz2 : w1.heap.size ≤ w2.heap.size := he2.size
  have htup : Tree w2 (.node up o p none uks0 fun _ => .nil) := ⟨hna, fun _ => trivial⟩
  have hfall : ∀ b, (T.node up o p none uks0 fun _ => .nil).All b → w1.heap.size ≤ b := fun b hb => by
    rcases hb with hb | ⟨c, hb⟩
    · exact hfr b hb
    · exact hb.elim
  have hsepU : (T.node up o p none uks0 fun _ => .nil).Sep o := ⟨fun _ => trivial, fun _ _ _ _ h => h.elim, fun _ _ _ _ h => h.elim, fun _ _ h => h.elim⟩
  cases q with
  | nil =>
    have hpe : part = p := by rw [hpart]; simp
    subst hpe
    rcases hc with hc | ⟨-, hks, hrl⟩
    · simp at hql; omega
    have hkids := Tree.kids_nil hlf hks
    subst hkids
    obtain ⟨v0, rfl⟩ : ∃ v0, val = some v0 := by
      have h := hf.1
      rw [if_pos (by show cnt _ = 0; simp [cnt, dom_none, T.er, E.opt])] at h
      exact Option.isSome_iff_exists.1 h
    have hv0 := ht.1.v64 v0 rfl
    obtain ⟨pva, hba2, -⟩ := ht2.1.blk
    have hR0 : Res w w2 o (.node a ow part (some v0) ks fun _ => .nil) (.node up o part none uks0 fun _ => .nil) mt (n + 1) :=
      ⟨htup, hE2.mono fun b _ h => .inl h, hm2, fun b hb => .inr (by have := hfall b hb; omega), fun b hb => .inr (by have := hfall b hb.all; omega), hsepU⟩
    refine xj (fun vs w' => Res w w' o (.node a ow part (some v0) ks fun _ => .nil) (.node up o part (some v0) uks0 fun _ => .nil) mt (n + 1) ∧ Blk w' pb (putC x o mt) T_put_putter ∧ Bs w' vk (part ++ r) ∧ ∃ cs, Blk w' a cs T_node_Node) ?_ ?_
    · refine hvp2.len ?_
      refine xifT (by simp) ?_
      refine (c_Val ht2).mono ?_
      rintro _ w3 ⟨rfl, rfl⟩
      refine hblk2.ld (v := .int .u64 o) rfl ?_
      refine (c_RVal hR0 ho hv0).mono ?_
      rintro _ w4 ⟨hR1, he4⟩
      obtain ⟨pvu, hbu, -⟩ := hna.blk
      exact ⟨hR1, hblk2.ext he4 fun e => htup.not hblk2 oth_put (.inl (.inl e)), hk2.ext he4 (htup.nbX fun b hb => .inl (.inl hb)), _, hba2.ext he4 fun e => by have := hfr up (.inl rfl); have := ht.lt (b := a) (.inl (.inl rfl)); omega⟩
    · rintro vs g w3 ⟨hR1, hb3, hk3, csa, hba3⟩
      refine c_PSplit2 (K := fun r' w' => ∃ t' n', r' = t'.v ∧ PutR w w' o (.node a ow part (some v0) ks fun _ => .nil) t' mt n n' (part ++ r) x) hR1 hu0 hb3 hk3 hkl (fun _ _ _ => rfl) ho hx (fun e => by rw [e] at hrl; simp at hrl) fun y r' hr w' lf uks' hR hne hE' => ?_
      subst hr
      refine ⟨_, n + 2, rfl, hR, ?_, fun _ => ⟨iff_of_false hne ?_, fun d => ?_⟩, by have := steps_pos (a := a) (ow := ow) (part := part) (val := some v0) (ks := ks) (kids := fun _ => .nil) (k := part ++ y :: r'); omega, fun q hq h => ⟨hq, fun d => ?_⟩, fun h => ⟨by omega, fun hg => ?_⟩, ?_, .inr rfl, ?_, fun hg => ?_, fun hw hg => ?_, fun _ hu => ⟨⟨.inl rfl, fun d => ?_⟩, rfl, fun c' r'' e' => ?_⟩, T.Sh.ofUpd trivial⟩
      · show E.node part (some v0) (fun d => (updT (fun _ => .nil) y (.node lf o r' (some x) [] fun _ => .nil) d).er) = putE (.node part (some v0) fun _ => .nil) (part ++ y :: r') x
        rw [putE_app, updT_er]
        rfl
      · rw [show (fun d => (updT (fun _ => T.nil) y (.node lf o r' (some x) [] fun _ => .nil) d).ptr) = ptrs (updT (fun _ => .nil) y (.node lf o r' (some x) [] fun _ => .nil)) from rfl, updT_ptr]
        intro h0
        have h1 := (dom_mem (m := upd (ptrs fun _ => .nil) y (T.node lf o r' (some x) [] fun _ => .nil).ptr) (c := y)).2 (by rw [upd_same]; rfl)
        unfold cnt at h0
        rw [List.length_eq_zero_iff.1 h0] at h1
        cases h1
      · unfold updT; split
        · exact leaf_leafy
        · trivial
      · unfold updT; split
        · exact ⟨hq, fun _ => trivial⟩
        · trivial
      · exfalso
        have e : (T.node a ow part (some v0) ks fun _ => .nil).get (part ++ y :: r') = none := get_cons
        rw [e] at hg
        cases hg
      · refine fun a' ha' => ?_
        obtain rfl : a = a' := by simpa [T.ptr] using ha'
        refine ⟨_, _, hba3.ext hE' fun hx => ?_⟩
        rcases hx with hx | hx
        · exact hR1.cnt.ne hba3 (by decide) hx
        · have := hfr a (.inr hx); have := ht.lt (b := a) (.inl (.inl rfl)); omega
      · have h1 := pots_upd o (fun _ => T.nil) y (.node lf o r' (some x) [] fun _ => .nil)
        have h2 : (T.nil).pot o = 0 := rfl
        rw [leaf_pot, pots_no, h2] at h1
        rw [pot_node, if_pos rfl]
        omega
      · exfalso
        have e : (T.node a ow part (some v0) ks fun _ => .nil).get (part ++ y :: r') = none := get_cons
        rw [e] at hg
        cases hg
      · exfalso
        have e : (T.node a ow part (some v0) ks fun _ => .nil).get (part ++ y :: r') = none := get_cons
        rw [e] at hg
        cases hg
      · unfold updT; split
        · exact leaf_up
        · trivial
      · obtain ⟨rfl, rfl⟩ := key_cons e'
        rw [updT_same]; exact leaf_way
  | cons x0 q' =>
    subst hpart
    have hql' : p.length + (q'.length + 1) ≤ 65535 := by simpa using hshort
    have hx0 : (p ++ x0 :: q')[p.length]'(by simp) = x0 := by simp
    refine xj (fun vs w' => ∃ u uksu uks1 n3, Res w w' o (.node a ow (p ++ x0 :: q') val ks kids) (.node up o p none uks1 (updT (fun _ => .nil) x0 (.node u o q' val uksu kids))) mt n3 ∧ uks1 ≠ [] ∧ Blk w' pb (putC x o mt) T_put_putter ∧ Bs w' vk (p ++ r) ∧ n3 ≤ n + 2 ∧ (o = ow → u = a ∧ n3 = n + 1) ∧ (uksu = [] ↔ ks = [])) ?_ ?_
    · refine hvp2.len ?_
      refine xifF (by simp; omega) ?_
      refine hblk2.ld (v := mv mt) rfl ?_
      refine hblk2.ld (v := .int .u64 o) rfl ?_
      refine (c_HOwn (Res.start ht2 hs hm2).h ho).mono ?_
      rintro _ w3 ⟨u, uksu, n3, rfl, hH3, hiff, he3, hle3, hmine⟩
      have hd3 := Ext.drew (Ext.refl No w3)
      have hblk3 := (hblk2.ext he3 (hm2.ne hblk2 (by decide))).drew
      have hR3 := (hH3.extN hd3).res rfl
      have hvp3 := (hvp2.mt he3 hm2).extN hd3
      have hk3 := (hk2.mt he3 hm2).extN hd3
      refine hblk3.ld (v := .int .u64 o) rfl ?_
      refine xi (r := ((p.length + 1 : Nat) : Int)) (by rw [wrapI (by omega)]; omega) ?_
      refine hvp3.drop (p.length + 1) rfl (by simp) fun vq hvq => ?_
      have hvq : Bs w3.drew vq q' := by
        have e : (p ++ x0 :: q').drop (p.length + 1) = q' := by
          rw [show p ++ x0 :: q' = (p ++ [x0]) ++ q' by simp, List.drop_left' (by simp)]
        rw [e] at hvq; exact hvq
      refine (c_RPart hR3 ho hvq (by omega)).mono ?_
      rintro _ w4 ⟨hR4, he4⟩
      have hd4 := Ext.drew (Ext.refl No w4)
      have hblk4 := (hblk3.ext he4 (fun e => hR3.tree.not hblk3 oth_put (.inl (.inl e)))).drew
      have hnb3 : NB w3.drew (· = u) := hR3.tree.nbX fun b hb => .inl (.inl hb)
      have hvp4 := (hvp3.ext he4 hnb3).extN hd4
      have hk4 := (hk3.ext he4 hnb3).extN hd4
      have hR4d := hR4.extN hd4
      refine hblk4.ld (v := .int .u64 o) rfl ?_
      refine hvp4.rd p.length (by simp) rfl ?_
      rw [hx0]
      have hF : ∀ b, (T.node up o p none uks0 fun _ => .nil).All b → ¬ (MX mt b ∨ (T.node a ow (p ++ x0 :: q') val ks kids).Foot o b) := fun b hb hx => by
        rcases hx with hx | hx
        · exact mt_all htup hm2 hb hx
        · have := hfall b hb; have := ht.lt hx.all; omega
      have hRup : Res w w4.drew o (.node a ow (p ++ x0 :: q') val ks kids) (.node up o p none uks0 fun _ => .nil) mt n3 :=
        ⟨htup.ext hR4d.ext (hm2.nb.or (Foot.nb ht2)) hF, (hE2.mono fun b _ h => .inl h).transS hR4d.ext, hR4d.cnt, fun b hb => .inr (by have := hfall b hb; omega), fun b hb => .inr (by have := hfall b hb.all; omega), hsepU⟩
      refine (c_RKid hRup ho hu0 (c0 := x0) (t2 := .node u o q' val uksu kids) rfl hR4d.tree hR4d.sep (fun b hb => (hR4d.all b hb).imp id fun h => by omega) (fun b hb => (hR4d.foot b hb).imp id fun h => by omega) (fun b hb hn => ?_) (fun c _ b _ h => h.elim) (fun c _ b h _ => h.elim)).mono ?_
      · have h1 := hfr b hn
        have h2 := htup.lt (b := b) (.inl hn)
        rcases hR4d.all b hb with h3 | h3
        · have := ht.lt h3; omega
        · omega
      · rintro _ w5 ⟨uks1, hR5, hne5, he5, -⟩
        exact ⟨u, uksu, uks1, n3, hR5, hne5, hblk4.ext he5 fun hx => hRup.tree.not hblk4 oth_put (.inl (.inr hx)), hk4.ext he5 (hRup.tree.nbX fun b hb => .inl (.inr hb)), by omega, fun e => by obtain ⟨h1, -, h3⟩ := hmine e; exact ⟨h1, h3⟩, hiff⟩
    · rintro vs g w6 ⟨u, uksu, uks1, n3, hR5, hne5, hb5, hk5, hn3, hmine, hiff⟩
      have hlf2 : (T.node u o q' val uksu kids).Leafy := ⟨by rw [hiff]; exact hlf.1, hlf.2⟩
      have hsp := steps_pos (a := a) (ow := ow) (part := p ++ x0 :: q') (val := val) (ks := ks) (kids := kids) (k := p ++ r)
      have hdf : ∀ y r', r = y :: r' → x0 ≠ y := fun y r' e => hdiff x0 y q' r' rfl e
      have hget : (T.node a ow (p ++ x0 :: q') val ks kids).get (p ++ r) = none := by
        cases r with
        | nil => rw [List.append_nil]; exact get_nil'
        | cons y r' => exact get_other (hdf y r' rfl).symm
      refine c_PSplit2 (K := fun r' w' => ∃ t' n', r' = t'.v ∧ PutR w w' o (.node a ow (p ++ x0 :: q') val ks kids) t' mt n n' (p ++ r) x) hR5 hne5 hb5 hk5 hkl (fun y r' e => by rw [updT_other _ _ (hdf y r' e).symm]) ho hx (fun e w' hR => ?_) fun y r' e w' lf uks' hR hne hE' => ?_
      · subst e
        refine ⟨_, n3, rfl, hR, ?_, fun _ => ⟨iff_of_false hne5 (updT_cnt rfl), fun d => ?_⟩, by omega, fun q hq h => ⟨hq, fun d => ?_⟩, fun h => ⟨?_, fun hg => ?_⟩, root_of hR ht hs hm fun e => ?_, .inr rfl, ?_, fun hg => ?_, fun hw hg => ?_, fun _ hu => ⟨⟨.inl rfl, fun d => ?_⟩, rfl, fun c' r'' e' => ?_⟩, T.Sh.ofPart (fun e => key_here e)⟩
        · show E.node p (some x) (fun d => (updT (fun _ => .nil) x0 (.node u o q' val uksu kids) d).er) = putE (.node (p ++ x0 :: q') val fun d => (kids d).er) (p ++ []) x
          rw [putE_split (fun _ _ h => by cases h), updT_er]
          rfl
        · unfold updT; split
          · exact hlf2
          · trivial
        · unfold updT; split
          · exact ⟨hq, h.2⟩
          · trivial
        · have := (hmine h.1.symm).2; omega
        · rw [hget] at hg; cases hg
        · exact .inr ⟨x0, by rw [updT_same]; exact .inl (.inl (hmine e).1.symm)⟩
        · have h1 := pots_upd o (fun _ => T.nil) x0 (.node u o q' val uksu kids)
          have h2 : (T.nil).pot o = 0 := rfl
          rw [pots_no, h2, pot_node, if_pos rfl] at h1
          rw [pot_node, pot_node, if_pos rfl]
          omega
        · rw [hget] at hg; cases hg
        · rw [hget] at hg; cases hg
        · unfold updT; split
          · exact ⟨.inl rfl, hu.2⟩
          · trivial
        · rw [List.append_nil] at e'
          exact (key_here e').elim
      · subst e
        have hxy := hdf y r' rfl
        refine ⟨_, n3 + 1, rfl, hR, ?_, fun _ => ⟨iff_of_false hne (updT_cnt rfl), fun d => ?_⟩, by omega, fun q hq h => ⟨hq, fun d => ?_⟩, fun h => ⟨?_, fun hg => ?_⟩, root_of hR ht hs hm fun e => ?_, .inr rfl, ?_, fun hg => ?_, fun hw hg => ?_, fun _ hu => ⟨⟨.inl rfl, fun d => ?_⟩, rfl, fun c' r'' e' => ?_⟩, T.Sh.ofPart (fun e => key_here e)⟩
        · show E.node p none (fun d => (updT (updT (fun _ => .nil) x0 (.node u o q' val uksu kids)) y (.node lf o r' (some x) [] fun _ => .nil) d).er) = putE (.node (p ++ x0 :: q') val fun d => (kids d).er) (p ++ y :: r') x
          rw [putE_split (fun y' r'' h => by cases h; exact hxy), updT_er, updT_er]
          rfl
        · unfold updT; split
          · exact leaf_leafy
          · split
            · exact hlf2
            · trivial
        · unfold updT; split
          · exact ⟨hq, fun _ => trivial⟩
          · split
            · exact ⟨hq, h.2⟩
            · trivial
        · have := (hmine h.1.symm).2; omega
        · rw [hget] at hg; cases hg
        · exact .inr ⟨x0, by rw [updT_other _ _ hxy, updT_same]; exact .inl (.inl (hmine e).1.symm)⟩
        · have h1 := pots_upd o (fun _ => T.nil) x0 (.node u o q' val uksu kids)
          have h2 : (T.nil).pot o = 0 := rfl
          rw [pots_no, h2, pot_node, if_pos rfl] at h1
          have h3 := pots_upd o (updT (fun _ => T.nil) x0 (.node u o q' val uksu kids)) y (.node lf o r' (some x) [] fun _ => .nil)
          rw [updT_other _ _ hxy.symm, h2, leaf_pot] at h3
          rw [pot_node, pot_node, if_pos rfl]
          split
          · rename_i how
            have := (hmine how.symm).2
            omega
          · omega
        · rw [hget] at hg; cases hg
        · rw [hget] at hg; cases hg
        · unfold updT; split
          · exact leaf_up
          · split
            · exact ⟨.inl rfl, hu.2⟩
            · trivial
        · obtain ⟨rfl, rfl⟩ := key_cons e'
          rw [updT_same]; exact leaf_way
end
theorem common_same {a b : Key} (h1 : common a b = a.length) (h2 : common a b = b.length) : a = b := by
  obtain ⟨p, q, r, rfl, rfl, h3, -⟩ := common_split a b
  have hq : q = [] := List.length_eq_zero_iff.1 (by simp at h1; omega)
  have hr : r = [] := List.length_eq_zero_iff.1 (by simp at h2; omega)
  rw [hq, hr]
theorem common_cut {a b : Key} (h1 : common a b = a.length) : b = a ++ b.drop a.length := by
  obtain ⟨p, q, r, rfl, rfl, h3, -⟩ := common_split a b
  have hq : q = [] := List.length_eq_zero_iff.1 (by simp at h1; omega)
  subst hq
  simp
theorem c_PInto {o x : Nat} {mt : Option Mtr} (ho : o ≠ 0) (hx : x < 18446744073709551616) : ∀ t, IntoS o x mt t := by
  intro t
  induction t with
  | nil => intro w vk k n _ _ _ _ hm hk hkl; exact (c_PNil hm hk hkl hx).mono fun _ _ ⟨t', h1, h2⟩ => ⟨t', _, h1, h2⟩
  | node a ow part val ks kids ih =>
    intro w vk k n ht hs hf hl hm hk hkl
    have hshort := ht.1.short
    refine W_put_putter_into ?_
    refine xnew fun pb w1 hpb hblk hz he => ?_
    have hblk : Blk w1 pb (putC x o mt) T_put_putter := hblk
    refine xifF rfl ?_
    refine (c_Part (ht.extN he)).mono ?_
    rintro vp w2 ⟨hvp, he2⟩
    have hvp : Bs w2 vp part := hvp
    have hE2 := he.transN he2
    refine (c_Common hvp (hk.extN hE2) (by omega) (by omega)).mono ?_
    rintro _ w3 ⟨rfl, he3⟩
    have hE3 := hE2.transN he3
    have ht3 := ht.extN hE3
    have hm3 := hm.extN hE3
    have hk3 := hk.extN hE3
    have hvp3 := hvp.extN he3
    have hblk3 : Blk w3 pb (putC x o mt) T_put_putter := hblk.ext (he2.transN he3) fun h => h
    refine (c_Kind ht3).mono ?_
    rintro _ w4 ⟨rfl, rfl⟩
    have hkind : (T.node a ow part val ks kids).kind = 1 ↔ ks = [] := by
      show kindV ks (ptrs kids) = 1 ↔ _
      unfold kindV
      split
      · exact iff_of_true rfl (by assumption)
      · refine iff_of_false (fun h => ?_) (by assumption)
        have := kindN_mem (cnt_le (ptrs kids))
        rw [h] at this
        revert this; decide
    have hcl := common_le part k
    refine xj (fun vs w' => w4 = w' ∧ (common part k < part.length ∨ (common part k = part.length ∧ ks = [] ∧ part.length < k.length))) ?_ ?_
    · refine xj (fun vs w' => ∃ b, vs = [.bool b] ∧ w4 = w' ∧ (b = true ↔ common part k = part.length ∧ common part k = k.length)) ?_ ?_
      · refine hvp.len ?_
        refine xifE (fun e => ?_) fun e => ⟨false, rfl, rfl, by simp; omega⟩
        refine hk.len ?_
        exact ⟨_, rfl, rfl, by simp; omega⟩
      · rintro vs g w5 ⟨b, rfl, rfl, hb⟩
        cases b with
        | true =>
          obtain ⟨h1, h2⟩ := hb.1 rfl
          obtain rfl := common_same h1 h2
          refine xifT rfl ?_
          refine hblk3.ldA rfl ?_
          refine (c_PHere ht3 hs hm3 ho hx).mono ?_
          rintro _ w6 ⟨t', n', rfl, hP⟩
          exact ⟨t', n', rfl, hP.from' hE3⟩
        | false =>
          refine xifF rfl ?_
          refine hvp.len ?_
          refine xifD (fun h => ⟨rfl, .inl (by omega)⟩) fun h => ?_
          have e1 : common part k = part.length := by omega
          have e2 : common part k ≠ k.length := fun h => by have := hb.2 ⟨e1, h⟩; cases this
          refine xifE (fun h1 => ⟨rfl, .inr ⟨e1, hkind.1 (by omega), by omega⟩⟩) fun h1 => ?_
          have hd := Ext.drew (Ext.refl No w4)
          refine hblk3.drew.ldA rfl ?_
          refine hk3.drop (common part k) rfl (by omega) fun v' hv' => ?_
          rw [e1] at hv'
          obtain ⟨c, r, hcr⟩ : ∃ c r, k.drop part.length = c :: r := by
            cases e : k.drop part.length with
            | nil => have := congrArg List.length e; simp at this; omega
            | cons c r => exact ⟨c, r, rfl⟩
          have hke := common_cut e1
          rw [hcr] at hv' hke
          have hkl' : r.length ≤ 65535 := by rw [hke] at hkl; simp at hkl; omega
          refine (c_PBelow (ih c) (ht3.extN hd) hs hf hl (fun e => h1 (by rw [hkind.2 e]; rfl)) (hm3.extN hd) ho (hv'.extN hd) hkl').mono ?_
          rintro _ w6 ⟨t', n', rfl, hP⟩
          rw [← hke] at hP
          exact ⟨t', n', rfl, hP.from' (hE3.transN hd)⟩
    · rintro vs g w5 ⟨rfl, hc⟩
      refine hblk3.ldA rfl ?_
      refine (c_PSplit ht3 hs hf hl hm3 ho hx hvp3 hk3 hkl hc).mono ?_
      rintro _ w6 ⟨t', n', rfl, hP⟩
      exact ⟨t', n', rfl, hP.from' hE3⟩
/-- Put: what is put is there, and nothing else has changed -/
theorem c_Put {w : World} {t : T} {o x n : Nat} {mt : Option Mtr} {vk : Value} {k : Key} (ht : Tree w t) (hs : t.Sep o) (hf : t.er.Fine) (hl : t.Leafy) (hm : Mt w mt n) (ho : o ≠ 0) (hx : x < 18446744073709551616) (hk : Bs w vk k) (hkl : k.length ≤ 65535) :
    Ret P n_put_Put [t.v, vk, .int .u64 x, .int .u64 o, mv mt] w fun r w' => ∃ t' n', r = .tuple #[t'.v, .int .i64 0] ∧ PutR w w' o t t' mt n n' k x ∧ (t.get k = some x → t' = t ∧ n' = n) := by
  refine W_put_Put ?_
  refine xifF (by simp; omega) ?_
  refine (c_May hk).mono ?_
  rintro _ w1 ⟨rfl, rfl⟩
  rw [if_pos hkl]
  refine xifF rfl ?_
  refine (c_Get hm.fl ht hk (by omega)).mono ?_
  rintro _ w2 ⟨rfl, he2⟩
  refine xj (fun vs w' => vs = [.bool (decide (t.get k = some x))] ∧ w2 = w') ?_ ?_
  · cases hg : t.get k with
    | none => exact xifF rfl ⟨by simp, rfl⟩
    | some v =>
      refine xifT rfl ⟨?_, rfl⟩
      show [Value.bool (((v : Nat) : Int) == ((x : Nat) : Int))] = _
      congr 2
      by_cases e : v = x
      · subst e; simp
      · rw [decide_eq_false (by simpa using e)]; exact beq_eq_false_iff_ne.2 (by omega)
  · rintro vs g w3 ⟨rfl, rfl⟩
    refine xifD (fun h => ?_) fun h => ?_
    · refine ⟨t, n, rfl, ⟨(Res.start (ht.extN he2) hs (hm.extN he2)).from' he2, ?_, id, by omega, fun q _ h => h, fun _ => ⟨by omega, fun _ => ⟨rfl, rfl⟩⟩, fun a ha => ?_, .inl rfl, by omega, fun _ => Nat.le_refl _, fun _ _ => ⟨rfl, rfl⟩, fun hne => absurd h hne, T.Sh.refl⟩, fun _ => ⟨rfl, rfl⟩⟩
      · exact E.unique hf (putE_fine hf) fun k' => by
          rw [putE_get]
          split
          · rename_i e; subst e; exact h
          · rfl
      · cases t with
        | nil => cases ha
        | node a1 ow1 p1 v1 ks1 kids1 =>
          obtain ⟨pv, hb, -⟩ := (ht.extN he2).1.blk
          obtain rfl : a1 = a := by simpa [T.ptr] using ha
          exact ⟨_, _, hb⟩
    · refine (c_PInto (mt := mt) ho hx t (ht.extN he2) hs hf hl (hm.extN he2) (hk.extN he2) hkl).mono ?_
      rintro _ w3 ⟨t', n', rfl, hP⟩
      exact ⟨t', n', rfl, hP.from' he2, fun e => absurd e h⟩
/-- what is put into nothing is one node -/
theorem c_PutNil {w : World} {o x n : Nat} {mt : Option Mtr} {vk : Value} {k : Key} (hm : Mt w mt n) (ho : o ≠ 0) (hx : x < 18446744073709551616) (hk : Bs w vk k) (hkl : k.length ≤ 65535) :
    Ret P n_put_Put [T.nil.v, vk, .int .u64 x, .int .u64 o, mv mt] w fun r w' => ∃ t', r = .tuple #[t'.v, .int .i64 0] ∧ PutR w w' o .nil t' mt n (n + 1) k x := by
  refine W_put_Put ?_
  refine xifF (by simp; omega) ?_
  refine (c_May hk).mono ?_
  rintro _ w1 ⟨rfl, rfl⟩
  rw [if_pos hkl]
  refine xifF rfl ?_
  refine (c_Get (t := .nil) hm.fl trivial hk (by omega)).mono ?_
  rintro _ w2 ⟨rfl, he2⟩
  refine xj (fun vs w' => vs = [.bool false] ∧ w2 = w') ?_ ?_
  · exact xifF rfl ⟨rfl, rfl⟩
  · rintro vs g w3 ⟨rfl, rfl⟩
    refine xifF rfl ?_
    refine (c_PNil (hm.extN he2) (hk.extN he2) hkl hx).mono ?_
    rintro _ w3 ⟨t', rfl, hP⟩
    exact ⟨t', rfl, hP.from' he2⟩
theorem c_Put0 {w : World} {x y z u : Value} : Ret P n_put_Put [x, y, z, .int .u64 0, u] w fun r w' => r = .tuple #[.pointer none, .int .i64 1] ∧ w' = w := by
  refine W_put_Put ?_
  exact xifT rfl ⟨rfl, rfl⟩
theorem c_PutBig {w : World} {x z u vk : Value} {k : Key} {o : Nat} (ho : o ≠ 0) (hk : Bs w vk k) (hkl : 65535 < k.length) : Ret P n_put_Put [x, vk, z, .int .u64 o, u] w fun r w' => r = .tuple #[.pointer none, .int .i64 8] ∧ w' = w := by
  refine W_put_Put ?_
  refine xifF (by simp; omega) ?_
  refine (c_May hk).mono ?_
  rintro _ w1 ⟨rfl, rfl⟩
  rw [if_neg (by omega)]
  exact xifT rfl ⟨rfl, rfl⟩
end Go.Proofs.YtidkkkdlaclolaaGreat
