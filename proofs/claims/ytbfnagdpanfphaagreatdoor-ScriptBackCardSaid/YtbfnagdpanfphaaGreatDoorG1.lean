/-  for the laws: meters and pairs of their own, puts and dels as to what trees hold, depths.  -/
import Derived.Test.YtbfnagdpanfphaaGreatDoorBase
import Derived.Test.YtbfnagdpanfphaaGreatDoorPut
import Derived.Test.YtbfnagdpanfphaaGreatDoorConcat
import Derived.Test.YtbfnagdpanfphaaGreatDoorEach
import Derived.Test.YtbfnagdpanfphaaGreatDoorRefK
namespace Go.Proofs.YtbfnagdpanfphaaGreatDoor
open Go Go.RowKit X
set_option linter.unusedSimpArgs false
set_option linter.unusedVariables false
set_option linter.unusedSectionVars false
section
theorem xpeq_self {w : World} {K : Value → Prop} (t : T) (k : K (.bool true)) : xPEq P w t.v t.v K := by
  show xPtrs P w (.pointer t.ptr) (.pointer t.ptr) _
  cases t.ptr with
  | none => exact k
  | some a => exact xsame (t := true) (run_sameAddr_same _ _) k
theorem xpne_self {w : World} {K : Value → Prop} (t : T) (k : K (.bool false)) : xPNe P w t.v t.v K := by
  show xPtrs P w (.pointer t.ptr) (.pointer t.ptr) _
  cases t.ptr with
  | none => exact k
  | some a => exact xsame (t := true) (run_sameAddr_same _ _) k
theorem oth_pair : Oth T_ref01_Pair := by unfold Oth; decide
theorem T.v_of_ptr {t t' : T} (h : t'.ptr = t.ptr) : t'.v = t.v := by show Value.pointer _ = Value.pointer _; rw [h]
variable [Floor]
theorem Bs.new {w : World} {b : Nat} {k : Key} (h : Blk w b (k.map bv) T_uint8) : Bs w (.slice (some ⟨b, 0, none⟩) k.length k.length) k := by
  have := h.sl (o := 0) (n := k.length) (cap := k.length) (by simp) (Nat.le_refl _)
  rw [List.drop_zero, List.take_of_length_le (by simp)] at this
  exact Bs.of this
theorem Pr.ins {l : Kv} {k : Key} {x : Nat} (h : Pr l) (hk : k.length ≤ 65535) (hm : l.length < 100000) : Pr (insK l k x) :=
  ⟨insK_rises h.rises k x, fun p hp => by rcases insK_mem hp with rfl | hp; exact hk; exact h.keys p hp, by have := insK_length l k x; omega⟩
theorem Pr.sort {l : Kv} (hl : l.length ≤ 100000) (hk : ∀ p ∈ l, p.1.length ≤ 65535) : Pr (sortK l) := ⟨sortK_rises l, fun p h => hk p (sortK_mem h), Nat.le_trans (sortK_length l) hl⟩
/-- a meter of the law's own -/
theorem Lw.mtNew {w w' : World} {b : Nat} (hw : Lw w) (hb : b = w.heap.size) (h : Blk w' b [.int .i64 0] T_meter_Meter) (he : Ext No w w') : Mt w' (some b) 0 :=
  ⟨(hw.extN he).fl, fun b' hb' => by obtain rfl := Option.some.inj hb'; exact ⟨by show _ ≤ b; rw [hb]; exact hw.fl, .inl rfl, h⟩⟩
theorem Ct.put {w w' : World} {t t' : T} {l : Kv} {o n n' x : Nat} {mt : Option Mtr} {k : Key} (h : Ct w t l) (hp : Rises l) (hP : PutR w w' o t t' mt n n' k x) : Ct w' t' (insK l k x) :=
  ⟨hP.res.tree, by rw [hP.er]; exact (h.can.put k x).congr fun k' => (insK_look hp k x k').symm, hP.leafy h.leafy⟩
theorem Tree.nbpX {w : World} {t : T} {X : Nat → Prop} (h : Tree w t) (hx : ∀ b, X b → t.All b) : NBP w X := by
  refine ⟨h.nbX hx, fun b hb _ => ?_, fun b hb _ => ?_⟩
  · obtain ⟨cs, T', h1, h2⟩ := h.ty (hx b hb)
    refine ⟨h.fl (hx b hb), cs, T', h1, fun e => ?_⟩
    subst e; rcases h2 with h2 | h2
    · exact absurd h2 (by decide)
    · rcases h2 with h2 | h2 | h2 | h2 | h2 <;> exact absurd h2 (by decide)
  · obtain ⟨cs, T', h1, h2⟩ := h.ty (hx b hb)
    exact ⟨h.fl (hx b hb), cs, T', h1, oth_pair.nt h2⟩
theorem NBP.or {w : World} {X Y : Nat → Prop} (h : NBP w X) (h' : NBP w Y) : NBP w (fun b => X b ∨ Y b) :=
  ⟨h.b.or h'.b, fun b hb hs => hb.elim (fun hb => h.2 b hb hs) fun hb => h'.2 b hb hs, fun b hb hs => hb.elim (fun hb => h.3 b hb hs) fun hb => h'.3 b hb hs⟩
section
variable {w : World} {v vk : Value} {l : Kv} {k : Key} {x : Nat}
end
end
section
theorem wrapU64m {n : Nat} : IntKind.u64.wrap (n : Int) = ((n % 18446744073709551616 : Nat) : Int) := by
  simp [IntKind.wrap, IntKind.bits, IntKind.signed]
variable [Floor]
/-- what an owner writes, and its meter -/
abbrev FX (o : Nat) (mt : Option Mtr) (t : T) : Nat → Prop := fun b => MX mt b ∨ t.Foot o b
theorem FX.nbp {w : World} {t : T} {o n : Nat} {mt : Option Mtr} (ht : Tree w t) (hm : Mt w mt n) : NBP w (FX o mt t) := hm.nbp.or (ht.nbpX fun b hb => hb.all)
theorem FX.not {w : World} {t : T} {o n b : Nat} {mt : Option Mtr} {cs : List Value} {T : TypeId} (ht : Tree w t) (hm : Mt w mt n) (hb : Blk w b cs T) (ho : Oth T) (hT : NoM T) : ¬ FX o mt t b := fun h => h.elim (hm.ne hb hT) fun h => ht.not hb ho h.all
theorem Lw.fx {w w' : World} {t : T} {o n : Nat} {mt : Option Mtr} (h : Lw w) (ht : Tree w t) (hm : Mt w mt n) (e : Ext (FX o mt t) w w') : Lw w' := h.ext e fun b hb => hb.elim (fun h => hm.flX h) fun h => ht.fl h.all
theorem Ext.fx {w w1 w2 : World} {t : T} {o b : Nat} (h : Ext No w w1) (e : Ext (FX o (some b) t) w1 w2) (hb : w.heap.size ≤ b) (ht : ∀ c, t.All c → w.heap.size ≤ c) : Ext No w w2 :=
  h.trans e fun c hc hx => by
    rcases hx with hx | hx
    · obtain rfl : b = c := hx
      omega
    · have := ht c hx.all; omega
end
section
theorem E.deep_node {part : Key} {val : Option Nat} {kids : UInt8 → E} : (E.node part val kids).deep = maxL ((dom fun c => (kids c).opt).map fun c => (kids c).deep) + 1 := by
  rw [E.deep]
  congr 1
  refine Nat.le_antisymm (maxL_le' fun n hn => ?_) (maxL_le' fun n hn => ?_)
  · obtain ⟨c, hc, rfl⟩ := List.mem_map.1 hn
    by_cases h : c ∈ dom fun c => (kids c).opt
    · exact maxL_le (List.mem_map.2 ⟨c, h, rfl⟩)
    · have : kids c = .nil := E.opt_none (by
        cases h' : (kids c).opt with
        | none => rfl
        | some => exact absurd (dom_mem.2 (by rw [h']; rfl)) h)
      rw [this]; exact Nat.zero_le _
  · obtain ⟨c, hc, rfl⟩ := List.mem_map.1 hn
    exact maxL_le (List.mem_map.2 ⟨c, byt_mem c, rfl⟩)
theorem E.deep_long : ∀ (e : E), e.deep ≤ e.long + 1 := by
  intro e
  induction e with
  | nil => simp [E.deep]
  | node part val kids ih =>
    rw [E.deep_node, E.long_node]
    have : maxL ((dom fun c => (kids c).opt).map fun c => (kids c).deep) ≤ maxL ((dom fun c => (kids c).opt).map fun c => (kids c).long + 1) := maxL_le' fun n hn => by
      obtain ⟨c, hc, rfl⟩ := List.mem_map.1 hn
      exact Nat.le_trans (ih c) (maxL_le (List.mem_map.2 ⟨c, hc, rfl⟩))
    omega
theorem E.steps_deep : ∀ (e : E) (k : Key), e.steps k ≤ e.deep := by
  intro e
  induction e with
  | nil => intro k; simp [E.steps, E.deep]
  | node part val kids ih =>
    intro k
    rw [E.steps]
    split
    · split
      · have := E.deep_kid (part := part) (val := val) (kids := kids) 0
        omega
      · rename_i c r hcr
        have := ih c r
        have := E.deep_kid (part := part) (val := val) (kids := kids) c
        omega
    · have := E.deep_kid (part := part) (val := val) (kids := kids) 0
      omega
variable [Floor]
theorem Ext.mx' {w w1 w2 : World} {b : Nat} (h : Ext No w w1) (e : Ext (MX (some b)) w1 w2) (hb : w.heap.size ≤ b) : Ext No w w2 :=
  h.trans e fun x hx hm => by
    obtain rfl : b = x := hm
    omega
end
section
variable [Floor]
theorem Ct.keep {w w' : World} {t : T} {l : Kv} {X : Nat → Prop} (h : Ct w t l) (e : Ext X w w') (nb : NB w X) (hx : ∀ b, t.All b → ¬ X b) : Ct w' t l := ⟨h.tree.ext e nb hx, h.can, h.leafy⟩
theorem sortK_takeI {l : Kv} {i : Nat} (h : i < l.length) : sortK (l.take (i + 1)) = insK (sortK (l.take i)) l[i].1 l[i].2 := by
  rw [← List.take_append_getElem h, sortK_snoc]
theorem far_take {l : Kv} {i : Nat} (h6 : l.length ≤ 60) (h3 : ∀ x ∈ l, x.1.length ≤ 300) : Pr (sortK (l.take i)) :=
  Pr.sort (by rw [List.length_take]; omega) fun p hp => by have := h3 p (List.mem_of_mem_take hp); omega
end
section
/-- pairs without a key -/
def dropK (k : Key) (l : Kv) : Kv := l.filter fun p => !decide (p.1 = k)
theorem look_drop (k : Key) (l : Kv) (k' : Key) : look (dropK k l) k' = if k' = k then none else look l k' := by
  unfold dropK
  induction l with
  | nil => rw [List.filter_nil]; split <;> rfl
  | cons p r ih =>
    rw [List.filter_cons]
    by_cases h : p.1 = k
    · rw [if_neg (by simp [h]), ih]
      split
      · rfl
      · rename_i hk
        show look r k' = if p.1 = k' then some p.2 else look r k'
        rw [if_neg fun e => hk (by rw [← e, h])]
    · rw [if_pos (by simp [h])]
      show (if p.1 = k' then some p.2 else look (r.filter fun p => !decide (p.1 = k)) k') = _
      rw [ih]
      by_cases e : p.1 = k'
      · rw [if_pos e, if_neg fun e' => h (e.trans e')]
        show _ = if p.1 = k' then some p.2 else look r k'
        rw [if_pos e]
      · rw [if_neg e]
        split
        · rfl
        · show _ = if p.1 = k' then some p.2 else look r k'
          rw [if_neg e]
theorem dropK_take {k : Key} {l : Kv} {i : Nat} (h : i < l.length) : dropK k (l.take (i + 1)) = dropK k (l.take i) ++ (if l[i].1 = k then [] else [l[i]]) := by
  rw [← List.take_append_getElem h]
  unfold dropK
  rw [List.filter_append]
  congr 1
  by_cases e : l[i].1 = k
  · rw [if_pos e]; simp [e]
  · rw [if_neg e]; simp [e]
theorem dropK_length (k : Key) (l : Kv) : (dropK k l).length ≤ l.length := List.length_filter_le _ _
/-- a key is among the pairs -/
def hasK (k : Key) (l : Kv) : Bool := l.any fun p => decide (p.1 = k)
theorem hasK_take {k : Key} {l : Kv} {i : Nat} (h : i < l.length) : hasK k (l.take (i + 1)) = (hasK k (l.take i) || decide (l[i].1 = k)) := by
  unfold hasK
  rw [← List.take_append_getElem h, List.any_append]
  simp only [List.any_cons, List.any_nil, Bool.or_false]
theorem hasK_look {k : Key} {l : Kv} : hasK k l = (look l k).isSome := by
  rw [Bool.eq_iff_iff]
  constructor
  · intro h
    obtain ⟨p, hp, e⟩ := List.any_eq_true.1 h
    cases hl : look l k with
    | none => exact absurd (of_decide_eq_true e) (look_none.1 hl p hp)
    | some v => rfl
  · intro h
    obtain ⟨v, hv⟩ := Option.isSome_iff_exists.1 h
    exact List.any_eq_true.2 ⟨_, look_mem hv, decide_eq_true rfl⟩
variable [Floor]
theorem Pr.drop {l : Kv} (h : Pr l) (k : Key) : Pr (dropK k l) := ⟨List.Pairwise.filter _ h.rises, fun p hp => h.keys p (List.mem_filter.1 hp).1, Nat.le_trans (dropK_length k l) h.many⟩
theorem Ct.del {w w' : World} {t t' : T} {l : Kv} {o n n' : Nat} {mt : Option Mtr} {k : Key} (h : Ct w t l) (hP : DelR w w' o t t' mt n n' (delE t.er k)) : Ct w' t' (dropK k l) :=
  ⟨hP.res.tree, by rw [hP.er]; exact (h.can.del k).congr fun k' => (look_drop k l k').symm, hP.leafy h.leafy⟩
theorem Ps.new16 {w : World} {b : Nat} {l : Kv} {cells : List Value} (h : Blk w b cells T_ref01_Pair) (hp : PC w l cells) : Ps w (.slice (some ⟨b, 0, none⟩) l.length l.length) l :=
  ⟨T_ref01_Pair, cells, .inr rfl, (h.sln hp.len).weak fun _ _ h => .inl h, hp⟩
section
variable {w : World} {v vk : Value} {l : Kv} {k : Key}
end
end
section
variable [Floor]
theorem Tree.get64 {w : World} : ∀ {t : T}, Tree w t → ∀ {k : Key} {y : Nat}, t.get k = some y → y < 18446744073709551616 := by
  intro t
  induction t with
  | nil => intro _ k y h; cases h
  | node a ow part val ks kids ih =>
    rintro ⟨h1, h2⟩ k y h
    have h : (E.node part val fun c => (kids c).er).get k = some y := h
    rw [E.get] at h
    split at h
    · split at h
      · exact h1.v64 y h
      · rename_i c r _
        exact ih c (h2 c) h
    · cases h
end
section
variable [Floor]
theorem dropK_lt {m : Kv} {j : Nat} (hj : j < m.length) : (dropK m[j].1 m).length < m.length := by
  unfold dropK
  refine Nat.lt_of_le_of_ne (List.length_filter_le _ _) fun e => ?_
  have := List.length_filter_eq_length_iff.1 e m[j] (List.getElem_mem hj)
  simp at this
theorem look_at {m : Kv} {j : Nat} (hj : j < m.length) : (look m m[j].1).isSome = true := by
  rw [← hasK_look]
  exact List.any_eq_true.2 ⟨m[j], List.getElem_mem hj, by simp⟩
theorem Ct.nilT {w : World} {t : T} (h : Ct w t []) : t = .nil := by
  have := h.can.none fun k => rfl
  cases t with
  | nil => rfl
  | node => cases this
end
/-- v is a slice of these keys, and was there before -/
def Bss [Floor] (w : World) (v : Value) (ks : List Key) : Prop := ∃ cells : List Value, Sl w (fun b _ => b < Floor.n) v 1 ks.length cells ∧ ∀ (i : Nat) (k : Key), ks[i]? = some k → ∃ kv, cells[i]? = some kv ∧ Bs w kv k
section
variable [Floor] {w w' : World} {v : Value} {ks : List Key}
theorem Bss.ext {X : Nat → Prop} (h : Bss w v ks) (e : Ext X w w') (hx : NB w X) : Bss w' v ks := by
  obtain ⟨cells, h1, h2⟩ := h
  exact ⟨cells, Sl.ext h1 e fun b _ _ _ hb hh hX => by have := (hx b hX (lt_of_get hh)).1; omega, fun i k hk => let ⟨kv, h3, h4⟩ := h2 i k hk; ⟨kv, h3, h4.ext e hx⟩⟩
theorem Bss.extN (h : Bss w v ks) (e : Ext No w w') : Bss w' v ks := h.ext e (NB.no w)
theorem Bss.len {K : Value → Prop} (h : Bss w v ks) (k : K (.int .i64 ks.length)) : xLen v K := let ⟨_, h1, _⟩ := h; xLen_sl h1 k
theorem Bss.rd {K : Value → Prop} {ki : IntKind} {i : Int} (h : Bss w v ks) (m : Nat) (hi : i = (m : Int)) (hm : m < ks.length) (k : ∀ kv, Bs w kv ks[m] → K kv) : xIxS v (.int ki i) 1 fun u => xAt u fun a => XLd w a K := by
  obtain ⟨cells, h1, h2⟩ := h
  obtain ⟨kv, h3, h4⟩ := h2 m ks[m] (List.getElem?_eq_getElem hm)
  exact Sl.rd1 h1 m hi hm h3 (k kv h4)
theorem Bss.one1 (h : Bss w v ks) : v.oneCell' = true := by
  obtain ⟨cells, ⟨a, cap, rfl, -⟩, -⟩ := h
  rfl
end
end Go.Proofs.YtbfnagdpanfphaaGreatDoor
