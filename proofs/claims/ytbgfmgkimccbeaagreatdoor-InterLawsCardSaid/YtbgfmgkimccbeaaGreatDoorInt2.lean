/-  inter: leaves, levels.  -/
import Derived.Test.YtbgfmgkimccbeaaGreatDoorInt
import Derived.Test.YtbgfmgkimccbeaaGreatDoorList
namespace Go.Proofs.YtbgfmgkimccbeaaGreatDoor
open Go Go.RowKit X
set_option linter.unusedSimpArgs false
set_option linter.unusedVariables false
set_option linter.unusedSectionVars false
variable [Floor]
theorem ei_kid : EI P T_s_del_Kid T_del_Kid 2 16 (.agg #[.int .u8 0, .pointer none]) := ⟨by kernel_rfl, by kernel_rfl, by rfl, by omega⟩
section
variable {w w' : World} {v : Value} {l : List (UInt8 × T)} {mt : Option Mtr} {n n' o p x B nn : Nat} {t t' : T} {xs : List Value} {e : E}
theorem LeftR.from' {w0 : World} (h : LeftR w w' t l e o t' mt n n') (he : Ext No w0 w) : LeftR w0 w' t l e o t' mt n n' :=
  ⟨h.tree, h.er, h.leafy, h.own, fun b hb => (h.all b hb).imp id fun h => h.imp id fun h => by have := he.size; omega, h.cnt, h.le, (he.mono fun _ _ h => h.elim).transS h.ext⟩
theorem Own.kidNe (h : Own w B T_del_Kid 2 v nn xs) {b : Nat} {cs : List Value} {T : TypeId} (hb : Blk w b cs T) (ht : T ≠ T_del_Kid) : v.ownBlock ≠ some b := fun hv => Own.neK h hb (fun e => ht e.symm) hv
theorem Own.kidM (h : Own w B T_del_Kid 2 v nn xs) (hm : Mt w mt n) (e : Ext (MX mt) w w') : Own w' B T_del_Kid 2 v nn xs := h.ext e fun b hv hb => by
  obtain ⟨-, cs, T', h1, h2⟩ := hm.nbt (T := T_del_Kid) (by decide) b hb (h.ge hv).2
  exact Own.kidNe h h1 h2 hv
theorem Tree.kidO (ht : Tree w t) (h : Own w B T_del_Kid 2 v nn xs) (hf : Floor.n ≤ B) (e : Ext (fun b => v.ownBlock = some b) w w') : Tree w' t := Tree.ext e (Own.nb1 h hf (by decide)) ht fun b hb hv => by
  obtain ⟨cs, T', h1, h2⟩ := ht.ty hb
  exact Own.kidNe h h1 ((show Oth T_del_Kid by unfold Oth; decide).nt h2) hv
theorem Mt.kidO (hm : Mt w mt n) (h : Own w B T_del_Kid 2 v nn xs) (e : Ext (fun b => v.ownBlock = some b) w w') : Mt w' mt n := hm.ext e fun b hb hv => by
  obtain ⟨-, cs, T', h1, h2⟩ := hm.nbt (T := T_del_Kid) (by decide) b hb (h.ge hv).2
  exact Own.kidNe h h1 h2 hv
section
variable {a ow : Nat} {part : Key} {v0 val : Option Nat} {ks : List Nat} {kids : UInt8 → T}
theorem c_sKeep (ht : Tree w (.node a ow part v0 ks kids)) (hne : ks ≠ []) (hf : (T.node a ow part v0 ks kids).er.Fine) (hl : (T.node a ow part v0 ks kids).Leafy) (hL : LK w v l) (hlf : ∀ p ∈ l, p.2.Leafy) (hx : ∀ y, val = some y → y = x) (hx64 : x < 18446744073709551616) (ho : o ≠ 0) (hm : Mt w mt n)
    (hlen : ∀ p ∈ l, part.length + 1 + p.2.part.length ≤ 65535) :
    Ret P n_inter_sieve_keep [sivV p o mt, (T.node a ow part v0 ks kids).v, .bool val.isSome, .int .u64 x, v] w fun r w' => ∃ t' n', r = t'.v ∧ LeftR w w' (.node a ow part v0 ks kids) l (normE part val fun c => (setK l c).er) o t' mt n n' ∧
      ((v0 = val ∧ cnt (ptrs kids) = l.length ∧ ∀ p ∈ l, (kids p.1).ptr = p.2.ptr) → t' = .node a ow part v0 ks kids ∧ n' = n) := by
  refine W_inter_sieve_keep ?_
  refine xnew fun sb w1 hsb hS hz he => ?_
  have hS : Blk w1 sb (sivC p o mt) T_inter_sieve := hS
  refine hS.ld (o := 1) (v := .int .u64 o) rfl ?_
  refine hS.ld (o := 2) (v := mv mt) rfl ?_
  refine (c_Left (ht.extN he) hne hf hl (hL.extN he) hlf hx hx64 ho (hm.extN he) hlen).mono ?_
  rintro _ w2 ⟨t', n', rfl, hR, hidle⟩
  exact ⟨t', n', rfl, hR.from' he, hidle⟩
theorem c_sLeaf (ht : Tree w (.node a ow part v0 ks kids)) (hl : (T.node a ow part v0 ks kids).Leafy) (hf : (T.node a ow part v0 ks kids).er.Fine) (hk0 : ks = []) (hx : ∀ y, val = some y → y = x) (hx64 : x < 18446744073709551616) (ho : o ≠ 0) (hm : Mt w mt n) :
    Ret P n_inter_sieve_leaf [sivV p o mt, (T.node a ow part v0 ks kids).v, .bool val.isSome, .int .u64 x] w fun r w' => ∃ t' n', r = t'.v ∧ Tree w' t' ∧ t'.er = normE part val noE ∧ t'.Leafy ∧ (∀ c, t'.All c → (T.node a ow part v0 ks kids).All c ∨ w.heap.size ≤ c) ∧ Mt w' mt n' ∧ Ext (MX mt) w w' ∧ (v0 = val → t' = .node a ow part v0 ks kids ∧ n' = n) := by
  have hc0 : cnt (ptrs kids) = 0 := hl.1.1 hk0
  have e0 : cnt (fun c => ((kids c).er).opt) = cnt (ptrs kids) := X.cnt_congr' fun c => T.er_opt (kids c)
  have hkn : (fun c => (kids c).er) = noE := cntE_zero (by show cnt (fun c => ((kids c).er).opt) = 0; rw [e0, hc0])
  have hv0 : v0.isSome = true := by
    have h1 : if cnt (fun c => ((kids c).er).opt) = 0 then v0.isSome = true else 2 ≤ cnt (fun c => ((kids c).er).opt) + one v0 := hf.1
    rw [e0, if_pos hc0] at h1
    exact h1
  obtain ⟨z, rfl⟩ := Option.isSome_iff_exists.1 hv0
  refine W_inter_sieve_leaf ?_
  refine xnew fun sb w1 hsb hS hz he => ?_
  have hS : Blk w1 sb (sivC p o mt) T_inter_sieve := hS
  have ht1 := ht.extN he
  have hm1 := hm.extN he
  refine (c_Val ht1).mono ?_
  rintro _ w2 ⟨rfl, rfl⟩
  cases val with
  | none =>
    refine xifT rfl ?_
    refine ⟨.nil, n, rfl, trivial, ?_, trivial, fun c hc => hc.elim, hm1, he.mono fun _ _ h => h.elim, fun h => by cases h⟩
    show E.nil = normE part none noE
    unfold normE
    rw [if_pos cntE_no]
  | some y =>
    obtain rfl := hx y rfl
    refine xifF rfl ?_
    refine xifE (fun h => ?_) fun h => ?_
    · have h : ((z : Nat) : Int) = (y : Nat) := h
      obtain rfl : z = y := by omega
      refine ⟨_, n, rfl, ht1, ?_, hl, fun c h => .inl h, hm1, he.mono fun _ _ h => h.elim, fun _ => ⟨rfl, rfl⟩⟩
      show E.node part (some z) (fun c => (kids c).er) = _
      rw [hkn]; rfl
    · have hd := Ext.drew (Ext.refl No w2)
      refine hS.drew.ld (o := 2) (v := mv mt) rfl ?_
      refine hS.drew.ld (o := 1) (v := .int .u64 o) rfl ?_
      refine (c_Part (ht1.extN hd)).mono ?_
      rintro pv w3 ⟨hpv, he3⟩
      have hpv : Bs w3 pv part := hpv
      have hS3 := hS.drew.ext he3 fun h => h
      refine ⟨?_, ?_, ?_⟩
      · show w3.cell? ((⟨sb, 0, none⟩ : Addr).add 1) = _
        rw [Addr.add_lit, hS3.cell]; rfl
      · show w3.cell? ((⟨sb, 0, none⟩ : Addr).add 2) = _
        rw [Addr.add_lit, hS3.cell]; rfl
      have hE3 := (he.transN hd).transN he3
      have hz3 := hE3.size
      refine (c_Leaf (ow := o) (hm.extN hE3) hpv ht.1.short hx64).mono ?_
      rintro _ w4 ⟨u, rfl, hna, hfr, hm4, he4⟩
      refine ⟨.node u o part (some y) [] (fun _ => .nil), n + 1, rfl, ⟨hna, fun _ => trivial⟩, rfl, ⟨⟨fun _ => (by show cnt (fun _ => none : UInt8 → Option Addr) = 0; simp [cnt, dom_none]), fun _ => rfl⟩, fun _ => trivial⟩, fun b hb => ?_, hm4, (hE3.mono fun _ _ h => h.elim).transS he4, fun hq => absurd (by show ((z : Nat) : Int) = (y : Nat); rw [Option.some.inj hq]) h⟩
      rcases hb with (hb | hb) | ⟨c, hb⟩
      · exact .inr (by rw [hb]; omega)
      · cases hb
      · exact hb.elim
end
end
/-- what is known of smaller trees -/
def OfI (p o : Nat) (mt : Option Mtr) (M : Nat) : Prop := ∀ {w : World} {a b : T} {oa ob n : Nat}, (a.er.long + 1 - oa) + (b.er.long + 1 - ob) < M → a.er.long ≤ 65535 → Go1 w a oa → Go1 w b ob → Mt w mt n →
  Ret P n_inter_sieve_of [sivV p o mt, restV a oa, restV b ob] w fun r w' => ∃ t' n', r = t'.v ∧ IR w w' p a b oa ob t' mt n n'
/-- a row of kids that is being made -/
structure LO (w : World) (B : Nat) (v : Value) (l : List (UInt8 × T)) : Prop where
  row : ∃ cells, Own w B T_del_Kid 2 v l.length cells ∧ ∀ (i : Nat) (p : UInt8 × T), l[i]? = some p → cells[i * 2]? = some (bv p.1) ∧ cells[i * 2 + 1]? = some p.2.v
  tree : ∀ p ∈ l, Tree w p.2
section
variable {w w' : World} {v : Value} {l : List (UInt8 × T)} {mt : Option Mtr} {n B : Nat}
theorem LO.extM (h : LO w B v l) (hm : Mt w mt n) (e : Ext (MX mt) w w') : LO w' B v l := by
  obtain ⟨cells, h1, h2⟩ := h.row
  exact ⟨⟨cells, Own.kidM h1 hm e, h2⟩, fun p hp => (h.tree p hp).extM hm e⟩
theorem LO.extN (h : LO w B v l) (e : Ext No w w') : LO w' B v l := by
  obtain ⟨cells, h1, h2⟩ := h.row
  exact ⟨⟨cells, h1.extN e, h2⟩, fun p hp => (h.tree p hp).extN e⟩
theorem LO.lk (h : LO w B v l) (hs : ∀ p ∈ l, p.2 ≠ .nil) (hu : UpK l) (hl : l.length ≤ 256) : LK w v l := by
  obtain ⟨cells, h1, h2⟩ := h.row
  exact ⟨⟨cells, h1.sl, h2⟩, h.tree, hs, hu, hl⟩
/-- a kid more -/
theorem LO.push (h : LO w B v l) (hf : Floor.n ≤ B) (hB : B ≤ w.heap.size) (hm : Mt w mt n) {c : UInt8} {t : T} (ht : Tree w t) (hl : l.length ≤ 256) {K : Value → World → Prop}
    (k : ∀ v' w', LO w' B v' (l ++ [(c, t)]) → Mt w' mt n → (∀ u : T, Tree w u → Tree w' u) → (∀ w0 : World, ∀ X, Ext X w0 w → w0.heap.size ≤ B → Ext X w0 w') → (∀ b cs T, Blk w b cs T → T ≠ T_del_Kid → Blk w' b cs T) → K v' w') :
    XNew w [bv c, t.v] T_del_Kid fun a w1 => XRun P (Builtin.append_ #[T_s_del_Kid, T_s_del_Kid] T_s_del_Kid #[v, .slice (some a) 1 1]) w1 K := by
  obtain ⟨cells, h1, h2⟩ := h.row
  refine xnew fun b w1 hb hblk hz he1 => ?_
  have hsl : Sl w1 (tyQ T_del_Kid) (.slice (some ⟨b, 0, none⟩) 1 1) 2 1 [bv c, t.v] := hblk.sln rfl
  have h11 := h1.extN he1
  refine app_own ei_kid h11 (Nat.le_trans hB he1.size) hsl (fun u hu => ?_) (by omega) (by omega) fun v' w2 ho2 he2 _ _ => ?_
  · simp only [List.mem_cons, List.mem_nil_iff, or_false] at hu
    rcases hu with rfl | rfl <;> rfl
  have htr : ∀ u : T, Tree w u → Tree w2 u := fun u hu => Tree.kidO (hu.extN he1) h11 hf he2
  refine k v' w2 ⟨⟨_, by rw [List.length_append]; exact ho2, fun i p hp => ?_⟩, fun p hp => ?_⟩ (Mt.kidO (hm.extN he1) h11 he2) htr (fun w0 X e0 h0 => Ext.own (e0.transN he1) h11 h0 he2) fun b' cs T hb' hT => (hb'.ext he1 fun h => h).ext he2 fun hv => Own.kidNe h11 (hb'.ext he1 fun h => h) hT hv
  · have hcl : cells.length = l.length * 2 := h1.len
    rcases Nat.lt_trichotomy i l.length with hlt | heq | hgt
    · rw [List.getElem?_append_left hlt] at hp
      obtain ⟨g1, g2⟩ := h2 i p hp
      exact ⟨by rw [List.getElem?_append_left (by omega)]; exact g1, by rw [List.getElem?_append_left (by omega)]; exact g2⟩
    · subst heq
      rw [List.getElem?_append_right (by omega)] at hp
      simp at hp
      subst hp
      exact ⟨by rw [List.getElem?_append_right (by omega), hcl]; simp, by rw [List.getElem?_append_right (by omega), hcl, show l.length * 2 + 1 - l.length * 2 = 1 by omega]; rfl⟩
    · rw [List.getElem?_eq_none (by simp; omega)] at hp; cases hp
  · rcases List.mem_append.1 hp with hp | hp
    · exact htr _ (h.tree p hp)
    · rw [List.mem_singleton.1 hp]; exact htr _ ht
end
theorem part_long {e : E} {g : Key → Option Nat} {t : T} (hg : Can t.er g) (hle : ∀ k v, g k = some v → ∃ y, e.get k = some y) (hn : t ≠ .nil) : t.part.length ≤ e.long := by
  cases t with
  | nil => exact absurd rfl hn
  | node a ow part val ks kids =>
    obtain ⟨k, v, hk⟩ := E.fine_some hg.fine (by simp [T.er])
    have h1 : part <+: k := E.get_pre hk
    rw [hg.get k] at hk
    obtain ⟨y, hy⟩ := hle k v hk
    have := E.long_le hy
    have := h1.length_le
    show part.length ≤ _
    omega
theorem gI_some {p : Nat} {a b : E} {oa ob : Nat} {k : Key} {v : Nat} (h : gI p a b oa ob k = some v) : ∃ y, a.get k = some y := by
  unfold gI at h
  cases hk : a.get k with
  | none => rw [hk] at h; cases h
  | some y => exact ⟨y, rfl⟩
end Go.Proofs.YtbgfmgkimccbeaaGreatDoor
