/-  canon.each: all nodes of a tree, from the top, with the bytes on the way to them.  -/
import Derived.Test.YtidkkkdlaclolaaCanon
import Derived.Test.YtidkkkdlaclolaaStr
import Derived.Test.YtidkkkdlaclolaaSub
namespace Go.Proofs.Ytidkkkdlaclolaa
open Go Go.RowKit X
set_option linter.unusedSimpArgs false
set_option linter.unusedVariables false
set_option linter.unusedSectionVars false
/-- the nodes of a tree, as they are come to -/
def T.nodes : T → Key → List (Key × T)
  | .nil, _ => []
  | .node a ow part val ks kids, way => (way ++ part, .node a ow part val ks kids) :: byt.flatMap fun c => (kids c).nodes (way ++ part ++ [c])
theorem flatMap_filter {α β : Type} {p : α → Bool} {f : α → List β} : ∀ {l : List α}, (∀ c, p c = false → f c = []) → (l.filter p).flatMap f = l.flatMap f := by
  intro l h
  induction l with
  | nil => rfl
  | cons a l ih =>
    rw [List.filter_cons]
    cases hp : p a with
    | true => rw [if_pos rfl, List.flatMap_cons, List.flatMap_cons, ih]
    | false => rw [if_neg (by simp), List.flatMap_cons, ih, h a hp]; rfl
theorem T.nodes_node {a ow : Nat} {part : Key} {val : Option Nat} {ks : List Nat} {kids : UInt8 → T} {way : Key} : (T.node a ow part val ks kids).nodes way = (way ++ part, .node a ow part val ks kids) :: (dom (ptrs kids)).flatMap fun c => (kids c).nodes (way ++ part ++ [c]) := by
  rw [T.nodes]
  unfold dom
  rw [flatMap_filter]
  intro c hc
  cases h : kids c with
  | nil => rfl
  | node => simp [ptrs, h, T.ptr] at hc
variable [Floor]
theorem Bs.new' {w : World} {b : Nat} {k : Key} (h : Blk w b (k.map bv) T_uint8) : Bs w (.slice (some ⟨b, 0, none⟩) k.length k.length) k := by
  have := h.sl (o := 0) (n := k.length) (cap := k.length) (by simp) (Nat.le_refl _)
  rw [List.drop_zero, List.take_of_length_le (by simp)] at this
  exact Bs.of this
/-- what holds of a world, of the nodes come to so far, and of the blocks it hangs on -/
abbrev EachI := World → List (Key × T) → (Nat → Prop) → Prop
/-- what is asked of the one who is told of the nodes -/
structure EachF (w0 : World) (fid : Nat) (cap : Array Value) (I : EachI) (good : Key → T → Prop) (N : List (Key × T)) : Prop where
  bod : bodied P fid = true
  ext : ∀ {w w' : World} {s : List (Key × T)} {D X : Nat → Prop}, I w s D → Ext X w w' → (∀ b, D b → ¬ X b) → I w' s D
  lt : ∀ {w : World} {s : List (Key × T)} {D : Nat → Prop}, I w s D → ∀ b, D b → w0.heap.size ≤ b ∧ b < w.heap.size
  call : ∀ {w : World} {s : List (Key × T)} {D : Nat → Prop} {key : Key} {vk : Value} {t : T}, I w s D → Ext No w0 w → Tree w t → good key t → (∃ r, s ++ (key, t) :: r = N) → Bs w vk key →
    Ret P fid ([vk, t.v] ++ cap.toList) w fun v w' => ∃ D', I w' (s ++ [(key, t)]) D' ∧ (∀ b, D' b → D b ∨ w.heap.size ≤ b) ∧ Ext D w w'
theorem Own.back {w w' : World} {B : Nat} {v v1 : Value} {xs ys : List Value} {n m : Nat} {X : Nat → Prop} (h : Own w B T_uint8 1 v n xs) (h1 : Own w B T_uint8 1 v1 (n + m) (xs ++ ys)) (h' : Own w' B T_uint8 1 v1 (n + m) (xs ++ ys)) (e : Ext X w w') (hx : ∀ b, v.ownBlock = some b → v1.ownBlock ≠ some b → ¬ X b) : Own w' B T_uint8 1 v n xs := by
  obtain ⟨hl, hh⟩ := h
  refine ⟨hl, ?_⟩
  rcases hh with hn | ⟨g, cap, cur, rfl, hb, hg, hnc, hm, hs, ht⟩
  · exact .inl hn
  · by_cases hv : v1.ownBlock = some g
    · rcases h1.2 with ⟨rfl, -⟩ | ⟨g1, cap1, cur1, rfl, hb1, hg1, hnc1, hm1, hs1, ht1⟩
      · cases hv
      · simp only [Value.ownBlock, Option.some.injEq] at hv
        subst hv
        rcases h'.2 with ⟨h2, -⟩ | ⟨g2, cap2, cur2, hv2, hb2, hg2, hnc2, hm2, hs2, ht2⟩
        · cases h2
        · simp only [Value.slice.injEq, Option.some.injEq, Addr.mk.injEq] at hv2
          obtain ⟨⟨rfl, -⟩, -, rfl⟩ := hv2
          have hcc : cur = cur1 := by
            have := hg.symm.trans hg1
            simpa using this
          subst hcc
          have hcap : cap = cap1 := by
            have := hs.symm.trans hs1
            omega
          subst hcap
          refine .inr ⟨g1, cap, cur2, rfl, hb, hg2, hnc, hm, hs2, ?_⟩
          have h3 := congrArg (List.take (n * 1)) ht2
          rw [List.take_take, Nat.min_eq_left (by omega), List.take_left' hl] at h3
          exact h3
    · have := hx g rfl hv
      exact .inr ⟨g, cap, cur, rfl, hb, by rw [e.same g (lt_of_get hg) this]; exact hg, hnc, hm, hs, ht⟩
section
variable {w0 : World} {fid : Nat} {cap : Array Value} {I : EachI} {good : Key → T → Prop} {N : List (Key × T)} {fb db : Nat} {Tf : TypeId} {B : Nat}
set_option maxRecDepth 100000 in
theorem c_down (hF : EachF w0 fid cap I good N) (hTf : T_uint8 ≠ Tf) (hB : w0.heap.size ≤ B) : ∀ (t : T) {w : World} {s : List (Key × T)} {D : Nat → Prop} {way : Key} {v : Value},
    Tree w0 t → (∀ x ∈ t.nodes way, good x.1 x.2) → (∃ r, s ++ t.nodes way ++ r = N) → Ext No w0 w → B ≤ w.heap.size → Own w B T_uint8 1 v way.length (way.map bv) → I w s D → (∀ b, v.ownBlock = some b → ¬ D b) → Blk w fb [.func (.func fid) #[] cap] Tf → Blk w db [.func (.func n_canon_each_1) #[] #[.pointer (some ⟨fb, 0, none⟩), .pointer (some ⟨db, 0, none⟩)]] Tf → ¬ D fb → ¬ D db →
    way.length + t.er.long ≤ 1099511627776 →
    Ret P n_canon_each_1 [v, t.v, .pointer (some ⟨fb, 0, none⟩), .pointer (some ⟨db, 0, none⟩)] w fun r w' => ∃ D', I w' (s ++ t.nodes way) D' ∧ (∀ b, D' b → D b ∨ w.heap.size ≤ b) ∧ Ext (fun b => v.ownBlock = some b ∨ D b) w w' ∧ Own w' B T_uint8 1 v way.length (way.map bv) := by
  intro t
  induction t with
  | nil =>
    intro w s D way v _ _ _ _ _ hv hI _ _ _ _ _ _
    refine W_canon_each_1 ?_
    refine xifT rfl ⟨D, ?_, fun b h => .inl h, Ext.refl _ _, hv⟩
    rw [T.nodes, List.append_nil]; exact hI
  | node a ow part val ks kids ih =>
    intro w s D way v ht hg hN hE hBw hv hI hvD hfb hdb hfD hdD hlen
    have hlong : (T.node a ow part val ks kids).er.long = maxL ((dom (ptrs kids)).map fun c => (kids c).er.long + 1) + part.length := by
      show (E.node part val fun c => (kids c).er).long = _
      rw [E.long_node, dom_er]
    rw [hlong] at hlen
    rw [T.nodes_node] at hg
    have htw := ht.extN hE
    refine W_canon_each_1 ?_
    refine xifF rfl ?_
    refine (c_Part htw).mono ?_
    rintro pv w1 ⟨hpv, he1⟩
    have hpv : Bs w1 pv part := hpv
    have hz1 := he1.size
    refine app_own ei_u8 (hv.extN he1) (by omega) hpv (by simp only [List.mem_map]; rintro u ⟨c, -, rfl⟩; rfl) (by omega) (by omega) fun v1 w2 hv1 he2 hback hnew => ?_
    have hz2 := he2.size
    have hv1' : Own w2 B T_uint8 1 v1 (way ++ part).length ((way ++ part).map bv) := by rw [List.length_append, List.map_append]; exact hv1
    have hvo := hback w2 (Ext.refl _ _) hv1
    have hE2 : Ext No w0 w2 := (hE.transN he1).trans he2 fun b hb h => by have := (hv.ge h).1; omega
    have hI2 : I w2 s D := hF.ext (hF.ext hI he1 fun _ _ h => h) he2 fun b hb h => hvD b h hb
    have hfb2 : Blk w2 fb [.func (.func fid) #[] cap] Tf := (hfb.ext he1 fun h => h).ext he2 fun h => (hv.extN he1).ne (hfb.ext he1 fun h => h) hTf.symm h
    have hdb2 := (hdb.ext he1 fun h => h).ext he2 fun h => (hv.extN he1).ne (hdb.ext he1 fun h => h) hTf.symm h
    have hv1D : ∀ b, v1.ownBlock = some b → ¬ D b := fun b hb hd => by
      rcases hnew b hb with h | h
      · exact hvD b h hd
      · have := (hF.lt hI b hd).2; omega
    refine hfb2.ld (v := .func (.func fid) #[] cap) rfl ?_
    have hbs : Bs w2 v1 (way ++ part) := Bs.of hv1'.sl
    refine xfunc ?_
    refine xcall_ret hF.bod ?_
    refine Ret.mono (show Ret P fid ([v1, (T.node a ow part val ks kids).v] ++ cap.toList) w2 _ from hF.call hI2 hE2 (ht.extN hE2) (hg _ (List.mem_cons_self ..)) (by obtain ⟨r, hr⟩ := hN; rw [T.nodes_node] at hr; exact ⟨_, by simpa using hr⟩) hbs) ?_
    rintro _ w3 ⟨D1, hI3, hD1, he3⟩
    have hz3 := he3.size
    have hltD := hF.lt hI
    have hE3 : Ext No w0 w3 := hE2.trans he3 fun b hb h => by have := (hltD b h).1; omega
    have hv13 := hv1'.ext he3 hv1D
    have hfbl := hfb.lt
    have hdbl := hdb.lt
    refine (c_Next (ht.extN hE3) (i := 0) (by omega)).mono ?_
    rintro _ w4 ⟨rfl, he4⟩
    have hz4 := he4.size
    have hnx0 : next2 (ptrs (T.node a ow part val ks kids).kid) 0 = .tuple #[nxB (dom (ptrs kids)), nxP (ptrs kids) (dom (ptrs kids))] := next2_of (nextB_zero _)
    rw [hnx0]
    refine xloop (fun nn vs w' => ∃ (d rest : List UInt8) (D' : Nat → Prop), vs = [nxP (ptrs kids) rest, nxB rest] ∧ nn = rest.length ∧ dom (ptrs kids) = d ++ rest ∧
        I w' (s ++ (way ++ part, .node a ow part val ks kids) :: d.flatMap fun c => (kids c).nodes (way ++ part ++ [c])) D' ∧ (∀ b, D' b → D b ∨ w2.heap.size ≤ b) ∧ Ext No w0 w' ∧ Ext (fun b => v1.ownBlock = some b ∨ D b) w2 w' ∧ Own w' B T_uint8 1 v1 (way ++ part).length ((way ++ part).map bv)) (dom (ptrs kids)).length
      ⟨[], _, D1, rfl, rfl, rfl, hF.ext hI3 he4 fun _ _ h => h, hD1, hE3.transN he4, (he3.mono fun b _ h => .inr h).transN he4, hv13.extN he4⟩ ?_
    rintro nn vs g w5 ⟨d, rest, D5, rfl, rfl, hdr, hI5, hD5, hE5, hEx5, hv15⟩
    have hz5 := hEx5.size
    unfold S_canon_each_1_l1
    cases rest with
    | nil =>
      rw [List.append_nil] at hdr
      have hn0 : ∀ K : Value → Prop, K (.bool false) → xPNe P w5 (nxP (ptrs kids) []) (.pointer none) K := fun K k => k
      refine hn0 _ ?_
      refine xifF rfl ?_
      refine ⟨D5, ?_, fun b h => (hD5 b h).imp id fun h => by omega, ?_, ?_⟩
      · rw [T.nodes_node, hdr]; exact hI5
      · refine ((he1.mono fun _ _ h => h.elim).transS (he2.mono fun b _ h => .inl h)).trans hEx5 fun b hb h => h.imp (fun h => ?_) id
        rcases hnew b h with h | h
        · exact h
        · omega
      · have hv15' : Own w5 B T_uint8 1 v1 (way.length + part.length) (way.map bv ++ part.map bv) := by rw [← List.length_append, ← List.map_append]; exact hv15
        exact Own.back hvo hv1 hv15' hEx5 fun b hb hne h => h.elim hne (hvD b hb)
    | cons c rest =>
      have hcd : c ∈ dom (ptrs kids) := by rw [hdr]; simp
      obtain ⟨ka, hka⟩ := Option.isSome_iff_exists.1 (dom_mem.1 hcd)
      have hka : (kids c).ptr = some ka := hka
      have hne : ∀ K : Value → Prop, K (.bool true) → xPNe P w5 (nxP (ptrs kids) (c :: rest)) (.pointer none) K := fun K k => by
        show xPNe P w5 (.pointer (kids c).ptr) (.pointer none) K
        rw [hka]; exact k
      refine hne _ ?_
      refine xifT rfl ?_
      have hcl := maxL_le (l := (dom (ptrs kids)).map fun c => (kids c).er.long + 1) (List.mem_map.2 ⟨c, hcd, rfl⟩)
      have hfb5 := hfb2.ext hEx5 fun h => h.elim (fun h => hv1'.ne hfb2 hTf.symm h) hfD
      have hdb5 := hdb2.ext hEx5 fun h => h.elim (fun h => hv1'.ne hdb2 hTf.symm h) hdD
      refine hdb5.drew.ld (v := .func (.func n_canon_each_1) #[] #[.pointer (some ⟨fb, 0, none⟩), .pointer (some ⟨db, 0, none⟩)]) rfl ?_
      show XNew w5.drew ([c].map bv) T_uint8 _
      refine xnew fun nb w6 hnb hnblk hz6 he6 => ?_
      have he56 : Ext No w5 w6 := (Ext.refl No w5).drew.transN he6
      have hdb6 := hdb5.ext he56 fun h => h
      have hfb6 := hfb5.ext he56 fun h => h
      refine ⟨by show w6.cell? ⟨db, 0, none⟩ = _; rw [hdb6.cell]; rfl, ?_⟩
      have hsl : Bs w6 (.slice (some ⟨nb, 0, none⟩) 1 1) [c] := Bs.new' (k := [c]) hnblk
      have hv16 := hv15.extN he56
      have hlw : (way ++ part).length = way.length + part.length := List.length_append
      refine app_own ei_u8 hv16 (by have := he56.size; omega) hsl (by intro u hu; simp at hu; rw [hu]; rfl) (by simp; omega) (by simp; omega) fun v2 w7 hv2 he7 hback2 hnew2 => ?_
      have hz7 := he7.size
      have hz6' := he56.size
      have hv1o := hback2 w7 (Ext.refl _ _) hv2
      have hdb7 := hdb6.ext he7 fun h => hv16.ne hdb6 hTf.symm h
      have hfb7 := hfb6.ext he7 fun h => hv16.ne hfb6 hTf.symm h
      refine ⟨by show w7.cell? ⟨db, 0, none⟩ = _; rw [hdb7.cell]; rfl, ?_⟩
      refine xfunc ?_
      refine xcall_ret (by kernel_rfl) ?_
      have hv2' : Own w7 B T_uint8 1 v2 (way ++ part ++ [c]).length ((way ++ part ++ [c]).map bv) := by rw [List.length_append, List.map_append]; exact hv2
      have hv1D5 : ∀ b, v1.ownBlock = some b → ¬ D5 b := fun b hb hd => by
        rcases hD5 b hd with h | h
        · exact hv1D b hb h
        · have := (hv1'.ge hb).2; omega
      have hlt5 := hF.lt hI5
      have hv2D5 : ∀ b, v2.ownBlock = some b → ¬ D5 b := fun b hb hd => by
        rcases hnew2 b hb with h | h
        · exact hv1D5 b h hd
        · have := (hlt5 b hd).2; omega
      have hE7 : Ext No w0 w7 := (hE5.transN he56).trans he7 fun b hb h => by have := (hv16.ge h).1; omega
      have hI7 := hF.ext (hF.ext hI5 he56 fun _ _ h => h) he7 fun b hb h => hv1D5 b h hb
      refine Ret.mono (show Ret P n_canon_each_1 [v2, (kids c).v, .pointer (some ⟨fb, 0, none⟩), .pointer (some ⟨db, 0, none⟩)] w7 _ from ih c (ht.2 c) (fun x hx => hg x (List.mem_cons_of_mem _ (List.mem_flatMap.2 ⟨c, hcd, hx⟩))) (by obtain ⟨r, hr⟩ := hN; rw [T.nodes_node, hdr] at hr; exact ⟨(rest.flatMap fun c => (kids c).nodes (way ++ part ++ [c])) ++ r, by simpa [List.append_assoc] using hr⟩) hE7 (by omega) hv2' hI7 hv2D5 hfb7 hdb7
        (fun h => by rcases hD5 _ h with h | h; exact hfD h; omega) (fun h => by rcases hD5 _ h with h | h; exact hdD h; omega) (by simp; omega)) ?_
      rintro _ w8 ⟨D8, hI8, hD8, he8, hv28⟩
      have hz8 := he8.size
      have hE8 : Ext No w0 w8 := hE7.trans he8 fun b hb h => by
        rcases h with h | h
        · have := (hv2'.ge h).1; omega
        · have := (hlt5 b h).1; omega
      have hv28' : Own w8 B T_uint8 1 v2 ((way ++ part).length + [c].length) ((way ++ part).map bv ++ [c].map bv) := by rw [← List.length_append, ← List.map_append]; exact hv28
      have hv18 := Own.back hv1o hv2 hv28' he8 fun b hb hne h => h.elim hne (hv1D5 b hb)
      have hEx8 : Ext (fun b => v1.ownBlock = some b ∨ D b) w2 w8 := ((hEx5.transN he56).transS (he7.mono fun b _ h => .inl h)).trans he8 fun b hb h => by
        rcases h with h | h
        · rcases hnew2 b h with h | h
          · exact .inl h
          · omega
        · rcases hD5 b h with h | h
          · exact .inr h
          · omega
      have hcb := u8_lt c
      refine xi (r := (c.toNat : Int)) (wrapI (by omega)) ?_
      refine xi (r := ((c.toNat + 1 : Nat) : Int)) (by rw [wrapI (by omega)]; omega) ?_
      refine (c_Next (ht.extN hE8) (i := c.toNat + 1) (by omega)).mono ?_
      rintro r w9 ⟨rfl, he9⟩
      have hnx : next2 (ptrs (T.node a ow part val ks kids).kid) (c.toNat + 1) = .tuple #[nxB rest, nxP (ptrs kids) rest] := next2_of (nextB_succ hdr)
      rw [hnx]
      refine xnext rest.length (by simp) ⟨d ++ [c], rest, D8, rfl, rfl, by rw [hdr]; simp, ?_, fun b h => ?_, hE8.transN he9, hEx8.transN he9, hv18.extN he9⟩
      · have h9 := hF.ext hI8 he9 fun _ _ h => h
        simpa [List.append_assoc] using h9
      · rcases hD8 b h with h | h
        · exact hD5 b h
        · exact .inr (by omega)
end
section
variable {w0 : World} {fid : Nat} {cap : Array Value} {I : EachI} {good : Key → T → Prop}
set_option maxRecDepth 100000 in
theorem c_each {t : T} (hF : EachF w0 fid cap I good (t.nodes [])) {w : World} {D : Nat → Prop} (hE : Ext No w0 w) (ht : Tree w0 t) (hg : ∀ x ∈ t.nodes [], good x.1 x.2) (hI : I w [] D) (hlen : t.er.long ≤ 1000000000) :
    Ret P n_canon_each [t.v, .func (.func fid) #[] cap] w fun r w' => ∃ D', I w' (t.nodes []) D' ∧ (∀ b, D' b → D b ∨ w.heap.size ≤ b) ∧ Ext D w w' := by
  refine W_canon_each ?_
  refine xnew fun fb w1 hfb hfblk hz1 he1 => ?_
  refine xnew fun db w2 hdb hdblk hz2 he2 => ?_
  refine hdblk.st (o := 0) (by simp) rfl fun w3 hdblk3 hz3 he3 => ?_
  have hs2 := he2.size
  have he13 : Ext No w w3 := (he1.transN he2).trans1 he3 (by omega)
  have hfblk3 := (hfblk.ext he2 fun h => h).ext he3 (by show ¬ fb = db; omega)
  have hI3 : I w3 [] D := hF.ext hI he13 fun _ _ h => h
  have hlt := hF.lt hI
  refine hdblk3.ld rfl ?_
  refine xfunc ?_
  refine xcall_ret (by kernel_rfl) ?_
  refine Ret.mono (show Ret P n_canon_each_1 [.slice none 0 0, t.v, .pointer (some ⟨fb, 0, none⟩), .pointer (some ⟨db, 0, none⟩)] w3 _ from
    c_down hF (B := w3.heap.size) (by decide) (by have := hE.size; have := he13.size; omega) t ht hg ⟨[], by simp⟩ (hE.transN he13) (Nat.le_refl _) (Own.nil w3 _ T_uint8 1) hI3 (fun b h => by cases h) hfblk3 hdblk3 (fun h => by have := (hlt _ h).2; omega) (fun h => by have := (hlt _ h).2; have := he1.size; omega) (by simp; omega)) ?_
  rintro _ w4 ⟨D', hI4, hD4, he4, -⟩
  refine ⟨D', hI4, fun b h => (hD4 b h).imp id fun h => by have := he13.size; omega, ?_⟩
  exact (he13.mono fun _ _ h => h.elim).transS (he4.mono fun b _ h => h.elim (fun h => by cases h) id)
end
/-- the nodes that are come to: their way, their shape -/
theorem T.nodes_good : ∀ {t : T} {way : Key}, t.er.Fine → t.Leafy → ∀ x ∈ t.nodes way, x.1.length ≤ way.length + t.er.long ∧ x.2.er.Fine ∧ x.2.Leafy ∧ x.2 ≠ .nil := by
  intro t
  induction t with
  | nil => intro way _ _ x hx; cases hx
  | node a ow part val ks kids ih =>
    intro way hf hl x hx
    rw [T.nodes_node] at hx
    have hlong : (T.node a ow part val ks kids).er.long = maxL ((dom (ptrs kids)).map fun c => (kids c).er.long + 1) + part.length := by
      show (E.node part val fun c => (kids c).er).long = _
      rw [E.long_node, dom_er]
    rw [hlong]
    rcases List.mem_cons.1 hx with rfl | hx
    · exact ⟨by simp, hf, hl, by simp⟩
    · obtain ⟨c, hc, hx⟩ := List.mem_flatMap.1 hx
      have hcl := maxL_le (l := (dom (ptrs kids)).map fun c => (kids c).er.long + 1) (List.mem_map.2 ⟨c, hc, rfl⟩)
      obtain ⟨h1, h2⟩ := ih c (hf.2 c) (hl.2 c) x hx
      exact ⟨by simp at h1; omega, h2⟩
end Go.Proofs.Ytidkkkdlaclolaa
