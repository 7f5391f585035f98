/-  law20: TransPlays: the rows of a world of versions and transients.  -/
import Derived.Test.YtlhjfenpmnejoaaGreatDoorTr3
import Derived.Test.YtlhjfenpmnejoaaGreatDoorL20
import Derived.Test.YtlhjfenpmnejoaaGreatDoorRows2
import Derived.Test.YtlhjfenpmnejoaaGreatDoorG1
import Derived.Test.YtlhjfenpmnejoaaGreatDoorRefV
namespace Go.Proofs.YtlhjfenpmnejoaaGreatDoor
open Go Go.RowKit X
set_option linter.unusedSimpArgs false
set_option linter.unusedVariables false
set_option linter.unusedSectionVars false
variable [Floor]
namespace law20
/-- what is written is one block, of a type, from B on -/
def OW (B : Nat) (Ty : TypeId) (w w' : World) : Prop := Ext No w w' ∨ ∃ g cs, B ≤ g ∧ Blk w g cs Ty ∧ Ext (· = g) w w'
section
variable {B B' Bx n sz b : Nat} {Ty e T' : TypeId} {w w' : World} {v : Value} {xs cs : List Value} {l : Kv} {k : Key}
theorem OW.of (h : Own w B e sz v n xs) (he : Ext (fun b => v.ownBlock = some b) w w') : OW B e w w' := by
  rcases h.2 with ⟨rfl, -⟩ | ⟨g, cap, cur, rfl, hg, hc, -⟩
  · exact .inl (he.mono fun b _ h => by cases h)
  · exact .inr ⟨g, cur.toList, hg, ⟨hc⟩, he.mono fun b _ h => by
      simp only [Value.ownBlock, Option.some.injEq] at h
      exact h.symm⟩
theorem OW.blk (h : OW B Ty w w') (hb : Blk w b cs T') (hT : T' ≠ Ty) : Blk w' b cs T' := by
  rcases h with he | ⟨g, cs', hg, hgb, he⟩
  · exact hb.ext he fun h => h
  · exact hb.ext he fun e => hT (by have e : b = g := e; subst e; exact (hb.inj hgb).2)
theorem OW.own (h : OW B Ty w w') (ho : Own w B' e sz v n xs) (hT : e ≠ Ty) : Own w' B' e sz v n xs := by
  rcases h with he | ⟨g, cs', hg, hgb, he⟩
  · exact ho.extN he
  · exact ho.ext he fun b hb e => by have e : b = g := e; subst e; exact Own.neK ho hgb hT hb
theorem OW.ps (h : OW B Ty w w') (hfl : Floor.n ≤ B) (h1 : Ty ≠ T_uint8) (h2 : Ty ≠ T_api_Pair) (h3 : Ty ≠ T_ref01_Pair) (hp : Ps w v l) : Ps w' v l := by
  rcases h with he | ⟨g, cs', hg, hgb, he⟩
  · exact hp.extN he
  · exact hp.ext he (nbp_one hgb (Nat.le_trans hfl hg) h1 h2 h3)
theorem OW.bs (h : OW B Ty w w') (hfl : Floor.n ≤ B) (h1 : Ty ≠ T_uint8) (hp : Bs w v k) : Bs w' v k := by
  rcases h with he | ⟨g, cs', hg, hgb, he⟩
  · exact hp.extN he
  · exact hp.ext he (nb_one hgb (Nat.le_trans hfl hg) h1)
theorem OW.ti {wb n j : Nat} {V : Nat → Option (T × Kv)} {M : Nat → Option TrR} {F : Nat → Prop} (h : OW B Ty w w') (hfl : Floor.n ≤ B) (h1 : Ty ≠ T_uint8) (hT0 : T_trans_Trans ≠ Ty) (hT1 : T_tree_World ≠ Ty) (hT2 : T_tree_Version ≠ Ty) (ho : Oth Ty) (hi : TI Bx w wb n j V M F) : TI Bx w' wb n j V M F := by
  rcases h with he | ⟨g, cs', hg, hgb, he⟩
  · exact hi.extN he
  · exact hi.other hgb hT0 ho (nb_one hgb (Nat.le_trans hfl hg) h1) he (hi.vi.one hgb (Nat.le_trans hfl hg) h1 hT1 hT2 ho he) (Nat.le_refl _)
theorem OW.st (h : OW B Ty w w') (w0 : World) (e : Ext No w0 w) (hB : w0.heap.size ≤ B) : Ext No w0 w' := by
  rcases h with he | ⟨g, cs', hg, hgb, he⟩
  · exact e.transN he
  · exact e.trans1 he (by omega)
theorem VE.own0 (h : VE Bx w w') (ho : Own w B e sz v n xs) (hT : ¬ VTy e) : Own w' B e sz v n xs := by
  obtain ⟨Y, he, hN, -⟩ := h.out
  refine ho.ext he fun b hb hy => ?_
  rcases ho.2 with ⟨rfl, -⟩ | ⟨g, cap, cur, rfl, hg, hc, -⟩
  · cases hb
  · simp only [Value.ownBlock, Option.some.injEq] at hb
    subst hb
    have hblk : Blk w g cur.toList e := ⟨hc⟩
    obtain ⟨-, cs', T', h1, h2⟩ := hN g hy hblk.lt
    exact hT ((hblk.inj h1).2 ▸ h2)
end
/-- rows of pairs; rows of the document's transients -/
def PR (w : World) (B : Nat) (v : Value) (ls : List Kv) : Prop := ∃ cells, Own w B T_s_ref01_Pair 1 v ls.length cells ∧ ∀ (m : Nat) (l : Kv), ls[m]? = some l → ∃ x, cells[m]? = some x ∧ Ps w x l
abbrev RT := Kv × Bool
def QR (w : World) (B : Nat) (v : Value) (ms : List RT) : Prop := ∃ cells, Own w B T_ref20_Trans 2 v ms.length cells ∧ ∀ (m : Nat) (y : RT), ms[m]? = some y → ∃ x, cells[m * 2]? = some x ∧ Ps w x y.1 ∧ cells[m * 2 + 1]? = some (.bool y.2)
theorem ei_tr : EI P T_s_p_trans_Trans T_p_trans_Trans 1 8 (.pointer none) := ⟨by kernel_rfl, by kernel_rfl, by rfl, by omega⟩
theorem ei_rt : EI P T_s_ref20_Trans T_ref20_Trans 2 32 (.agg #[.slice none 0 0, .bool false]) := ⟨by kernel_rfl, by kernel_rfl, by rfl, by omega⟩
section
variable {B n : Nat} {w w' : World} {v : Value} {ls : List Kv} {ms : List RT} {l : Kv} {f : Bool}
theorem PR.nil (w : World) (B : Nat) : PR w B (.slice none 0 0) [] := ⟨[], Own.nil w B _ 1, fun m l h => by simp at h⟩
theorem QR.nil (w : World) (B : Nat) : QR w B (.slice none 0 0) [] := ⟨[], Own.nil w B _ 2, fun m l h => by simp at h⟩
theorem PR.fr (h : PR w B v ls) (ho : ∀ {n xs}, Own w B T_s_ref01_Pair 1 v n xs → Own w' B T_s_ref01_Pair 1 v n xs) (hp : ∀ x l, Ps w x l → Ps w' x l) : PR w' B v ls :=
  let ⟨cells, h1, h2⟩ := h; ⟨cells, ho h1, fun m l hm => let ⟨x, h3, h4⟩ := h2 m l hm; ⟨x, h3, hp x l h4⟩⟩
theorem QR.fr (h : QR w B v ms) (ho : ∀ {n xs}, Own w B T_ref20_Trans 2 v n xs → Own w' B T_ref20_Trans 2 v n xs) (hp : ∀ x l, Ps w x l → Ps w' x l) : QR w' B v ms :=
  let ⟨cells, h1, h2⟩ := h; ⟨cells, ho h1, fun m l hm => let ⟨x, h3, h4, h5⟩ := h2 m l hm; ⟨x, h3, hp x _ h4, h5⟩⟩
theorem PR.rdK {K : Value → Value → Prop} {kd : IntKind} {i : Int} (h : PR w B v ls) (m : Nat) (hi : i = (m : Int)) (hm : m < ls.length)
    (k : ∀ p x, Ps w x ls[m] → (∀ w', (∀ {n xs}, Own w B T_s_ref01_Pair 1 v n xs → Own w' B T_s_ref01_Pair 1 v n xs) → xKeep1 w' p x) → K p x) : xIxS v (.int kd i) 1 fun u => xAt u fun a => XLd w a fun y => K u y := by
  obtain ⟨cells, h1, h2⟩ := h
  obtain ⟨x, h3, h4⟩ := h2 m _ (List.getElem?_eq_getElem hm)
  exact h1.sl.rd1K m hi hm h3 fun p hp => k p x h4 fun w' ho => hp w' (ho h1).sl
theorem QR.rdK {K : Value → Value → Prop} {kd : IntKind} {i : Int} (h : QR w B v ms) (m : Nat) (hi : i = (m : Int)) (hm : m < ms.length)
    (k : ∀ p x, Ps w x ms[m].1 → (∀ w', Ext No w w' → xKeepN w' p (.agg #[x, .bool ms[m].2])) → K p (.agg #[x, .bool ms[m].2])) : xIxS v (.int kd i) 2 fun u => xAt u fun a => XLdN w a 2 fun y => K u y := by
  obtain ⟨cells, h1, h2⟩ := h
  obtain ⟨x, h3, h4, h5⟩ := h2 m _ (List.getElem?_eq_getElem hm)
  have e : (cells.drop (m * 2)).take 2 = [x, .bool ms[m].2] := by
    apply List.ext_getElem?
    intro j
    rw [List.getElem?_take]
    match j with
    | 0 => rw [if_pos (by omega), List.getElem?_drop, Nat.add_zero, h3]; rfl
    | 1 => rw [if_pos (by omega), List.getElem?_drop, h5]; rfl
    | j + 2 => rw [if_neg (by omega)]; rfl
  refine h1.sl.rdNK m hi hm fun p hp => ?_
  rw [e] at hp ⊢
  exact k p x h4 fun w' he => hp w' (h1.extN he).sl
theorem QR.set {K : World → Prop} {kd : IntKind} {i : Int} {x : Value} (h : QR w B v ms) (hfl : Floor.n ≤ B) (m : Nat) (hi : i = (m : Int)) (hm : m < ms.length) (hx : Ps w x l)
    (k : ∀ w1, QR w1 B v (ms.set m (l, f)) → OW B T_ref20_Trans w w1 → K w1) : xIxS v (.int kd i) 2 fun u => xAt u fun a => XDo P (storeVar T_ref20_Trans a (.agg #[x, .bool f])) w K := by
  obtain ⟨cells, h1, h2⟩ := h
  have hcl := h1.len
  refine Own.stN h1 (vs := [x, .bool f]) m hi hm rfl (by kernel_rfl) (fun u hu => by simp only [List.mem_cons, List.mem_nil_iff, or_false] at hu; exact hu.elim (fun e => e ▸ hx.one1) fun e => e ▸ rfl) fun w1 ho hz he => ?_
  have hO := OW.of h1 he
  have hps : ∀ {x l}, Ps w x l → Ps w1 x l := fun hp => hO.ps hfl (by decide) (by decide) (by decide) hp
  rw [set_two (by omega)] at ho
  refine k w1 ⟨_, by rw [List.length_set]; exact ho, fun q y hy => ?_⟩ hO
  rw [List.getElem?_set] at hy
  split at hy
  · rename_i e
    subst e
    cases hy
    refine ⟨x, ?_, hps hx, ?_⟩
    · rw [List.getElem?_set_ne (by omega), List.getElem?_set_self (by omega)]
    · rw [List.getElem?_set_self (by simp; omega)]
  · obtain ⟨x', h3, h4, h5⟩ := h2 q y hy
    refine ⟨x', ?_, hps h4, ?_⟩
    · rw [List.getElem?_set_ne (by omega), List.getElem?_set_ne (by omega)]; exact h3
    · rw [List.getElem?_set_ne (by omega), List.getElem?_set_ne (by omega)]; exact h5
end
/-- the world of the law: its own block, and the four rows -/
structure MW (w : World) (B xb : Nat) (c0 c1 c2 c3 vv vp vt vw : Value) (vbs : List Nat) (ls : List Kv) (tbs : List Nat) (ms : List RT) : Prop where
  fl : Floor.n ≤ B
  gx : B ≤ xb
  blk : Blk w xb [c0, c1, c2, c3] T_law20_world
  v : Own w B T_p_tree_Version 1 vv vbs.length (vbs.map rp)
  p : PR w B vp ls
  t : Own w B T_p_trans_Trans 1 vt tbs.length (tbs.map rp)
  q : QR w B vw ms
section
variable {w w' : World} {B Bx xb a b : Nat} {c0 c1 c2 c3 d0 d1 d2 d3 vv vp vt vw x : Value} {vbs : List Nat} {ls : List Kv} {tbs : List Nat} {ms : List RT} {l : Kv} {f : Bool}
theorem MW.size (h : MW w B xb c0 c1 c2 c3 vv vp vt vw vbs ls tbs ms) : B ≤ w.heap.size := Nat.le_of_lt (Nat.lt_of_le_of_lt h.gx h.blk.lt)
theorem MW.ve (h : MW w B xb c0 c1 c2 c3 vv vp vt vw vbs ls tbs ms) (e : VE Bx w w') : MW w' B xb c0 c1 c2 c3 vv vp vt vw vbs ls tbs ms :=
  ⟨h.fl, h.gx, e.blk h.blk (by unfold VTy KT; decide), VE.own0 e h.v (by unfold VTy KT; decide), h.p.fr (fun ho => VE.own0 e ho (by unfold VTy KT; decide)) fun _ _ => e.ps, VE.own0 e h.t (by unfold VTy KT; decide), h.q.fr (fun ho => VE.own0 e ho (by unfold VTy KT; decide)) fun _ _ => e.ps⟩
theorem MW.extN (h : MW w B xb c0 c1 c2 c3 vv vp vt vw vbs ls tbs ms) (e : Ext No w w') : MW w' B xb c0 c1 c2 c3 vv vp vt vw vbs ls tbs ms := h.ve (VE.no (B := 0) e)
theorem MW.wr (h : MW w B xb c0 c1 c2 c3 vv vp vt vw vbs ls tbs ms) (hb : Blk w' xb [d0, d1, d2, d3] T_law20_world) (he : Ext (· = xb) w w') : MW w' B xb d0 d1 d2 d3 vv vp vt vw vbs ls tbs ms ∧ OW B T_law20_world w w' := by
  have hO : OW B T_law20_world w w' := .inr ⟨xb, _, h.gx, h.blk, he⟩
  have hps : ∀ x l, Ps w x l → Ps w' x l := fun _ _ hp => hO.ps h.fl (by decide) (by decide) (by decide) hp
  exact ⟨⟨h.fl, h.gx, hb, hO.own h.v (by decide), h.p.fr (fun ho => hO.own ho (by decide)) hps, hO.own h.t (by decide), h.q.fr (fun ho => hO.own ho (by decide)) hps⟩, hO⟩
theorem MW.appV {K : Value → World → Prop} (h : MW w B xb c0 c1 c2 c3 vv vp vt vw vbs ls tbs ms) (hb : Blk w a [rp b] T_p_tree_Version) (hn : vbs.length ≤ 1000) (k : ∀ vv' w', MW w' B xb c0 c1 c2 c3 vv' vp vt vw (vbs ++ [b]) ls tbs ms → OW B T_p_tree_Version w w' → K vv' w') :
    XRun P (Builtin.append_ #[T_s_p_tree_Version, T_s_p_tree_Version] T_s_p_tree_Version #[vv, .slice (some ⟨a, 0, none⟩) 1 1]) w K := by
  have hsl : Sl w (tyQ T_p_tree_Version) (.slice (some ⟨a, 0, none⟩) 1 1) 1 1 [rp b] := hb.sln rfl
  refine app_own ei_ver h.v h.size hsl (fun u hu => by rw [List.mem_singleton.1 hu]; rfl) (by omega) (by omega) fun v' w' ho hE _ _ => ?_
  have hO := OW.of h.v hE
  have hps : ∀ x l, Ps w x l → Ps w' x l := fun _ _ hp => hO.ps h.fl (by decide) (by decide) (by decide) hp
  exact k v' w' ⟨h.fl, h.gx, hO.blk h.blk (by decide), by rw [List.length_append, List.map_append]; exact ho, h.p.fr (fun ho => hO.own ho (by decide)) hps, hO.own h.t (by decide), h.q.fr (fun ho => hO.own ho (by decide)) hps⟩ hO
theorem MW.appT {K : Value → World → Prop} (h : MW w B xb c0 c1 c2 c3 vv vp vt vw vbs ls tbs ms) (hb : Blk w a [rp b] T_p_trans_Trans) (hn : tbs.length ≤ 1000) (k : ∀ vt' w', MW w' B xb c0 c1 c2 c3 vv vp vt' vw vbs ls (tbs ++ [b]) ms → OW B T_p_trans_Trans w w' → K vt' w') :
    XRun P (Builtin.append_ #[T_s_p_trans_Trans, T_s_p_trans_Trans] T_s_p_trans_Trans #[vt, .slice (some ⟨a, 0, none⟩) 1 1]) w K := by
  have hsl : Sl w (tyQ T_p_trans_Trans) (.slice (some ⟨a, 0, none⟩) 1 1) 1 1 [rp b] := hb.sln rfl
  refine app_own ei_tr h.t h.size hsl (fun u hu => by rw [List.mem_singleton.1 hu]; rfl) (by omega) (by omega) fun v' w' ho hE _ _ => ?_
  have hO := OW.of h.t hE
  have hps : ∀ x l, Ps w x l → Ps w' x l := fun _ _ hp => hO.ps h.fl (by decide) (by decide) (by decide) hp
  exact k v' w' ⟨h.fl, h.gx, hO.blk h.blk (by decide), hO.own h.v (by decide), h.p.fr (fun ho => hO.own ho (by decide)) hps, by rw [List.length_append, List.map_append]; exact ho, h.q.fr (fun ho => hO.own ho (by decide)) hps⟩ hO
theorem at_end {α : Type} {L : List α} {x y : α} {m : Nat} (h : (L ++ [x])[m]? = some y) : (m < L.length ∧ L[m]? = some y) ∨ (m = L.length ∧ y = x) := by
  rcases Nat.lt_trichotomy m L.length with hlt | heq | hgt
  · rw [List.getElem?_append_left hlt] at h; exact .inl ⟨hlt, h⟩
  · subst heq
    rw [List.getElem?_append_right (Nat.le_refl _), Nat.sub_self] at h
    exact .inr ⟨rfl, (Option.some.inj h).symm⟩
  · rw [List.getElem?_eq_none (by simp; omega)] at h; cases h
theorem MW.appP {K : Value → World → Prop} (h : MW w B xb c0 c1 c2 c3 vv vp vt vw vbs ls tbs ms) (hb : Blk w a [x] T_s_ref01_Pair) (hx : Ps w x l) (hn : ls.length ≤ 1000) (k : ∀ vp' w', MW w' B xb c0 c1 c2 c3 vv vp' vt vw vbs (ls ++ [l]) tbs ms → OW B T_s_ref01_Pair w w' → K vp' w') :
    XRun P (Builtin.append_ #[T_s_s_ref01_Pair, T_s_s_ref01_Pair] T_s_s_ref01_Pair #[vp, .slice (some ⟨a, 0, none⟩) 1 1]) w K := by
  obtain ⟨cells, ho, hc⟩ := h.p
  have hsl : Sl w (tyQ T_s_ref01_Pair) (.slice (some ⟨a, 0, none⟩) 1 1) 1 1 [x] := hb.sln rfl
  have hcl := ho.len
  refine app_own ei_sps ho h.size hsl (fun u hu => by rw [List.mem_singleton.1 hu]; exact hx.one1) (by omega) (by omega) fun v' w' ho' hE _ _ => ?_
  have hO := OW.of ho hE
  have hps : ∀ x l, Ps w x l → Ps w' x l := fun _ _ hp => hO.ps h.fl (by decide) (by decide) (by decide) hp
  refine k v' w' ⟨h.fl, h.gx, hO.blk h.blk (by decide), hO.own h.v (by decide), ⟨_, by rw [List.length_append]; exact ho', fun m y hy => ?_⟩, hO.own h.t (by decide), h.q.fr (fun ho => hO.own ho (by decide)) hps⟩ hO
  rcases at_end hy with ⟨hlt, hy⟩ | ⟨rfl, rfl⟩
  · obtain ⟨x', h1, h2⟩ := hc m y hy
    exact ⟨x', by rw [List.getElem?_append_left (by omega)]; exact h1, hps _ _ h2⟩
  · exact ⟨x, by rw [List.getElem?_append_right (by omega), show ls.length - cells.length = 0 by omega]; rfl, hps _ _ hx⟩
theorem MW.appQ {K : Value → World → Prop} (h : MW w B xb c0 c1 c2 c3 vv vp vt vw vbs ls tbs ms) (hb : Blk w a [x, .bool f] T_ref20_Trans) (hx : Ps w x l) (hn : ms.length ≤ 1000) (k : ∀ vw' w', MW w' B xb c0 c1 c2 c3 vv vp vt vw' vbs ls tbs (ms ++ [(l, f)]) → OW B T_ref20_Trans w w' → K vw' w') :
    XRun P (Builtin.append_ #[T_s_ref20_Trans, T_s_ref20_Trans] T_s_ref20_Trans #[vw, .slice (some ⟨a, 0, none⟩) 1 1]) w K := by
  obtain ⟨cells, ho, hc⟩ := h.q
  have hsl : Sl w (tyQ T_ref20_Trans) (.slice (some ⟨a, 0, none⟩) 1 1) 2 1 [x, .bool f] := hb.sln rfl
  have hcl := ho.len
  refine app_own ei_rt ho h.size hsl (fun u hu => by simp only [List.mem_cons, List.mem_nil_iff, or_false] at hu; exact hu.elim (fun e => e ▸ hx.one1) fun e => e ▸ rfl) (by omega) (by omega) fun v' w' ho' hE _ _ => ?_
  have hO := OW.of ho hE
  have hps : ∀ x l, Ps w x l → Ps w' x l := fun _ _ hp => hO.ps h.fl (by decide) (by decide) (by decide) hp
  refine k v' w' ⟨h.fl, h.gx, hO.blk h.blk (by decide), hO.own h.v (by decide), h.p.fr (fun ho => hO.own ho (by decide)) hps, hO.own h.t (by decide), ⟨_, by rw [List.length_append]; exact ho', fun m y hy => ?_⟩⟩ hO
  rcases at_end hy with ⟨hlt, hy⟩ | ⟨rfl, rfl⟩
  · obtain ⟨x', h1, h2, h3⟩ := hc m y hy
    exact ⟨x', by rw [List.getElem?_append_left (by omega)]; exact h1, hps _ _ h2, by rw [List.getElem?_append_left (by omega)]; exact h3⟩
  · exact ⟨x, by rw [List.getElem?_append_right (by omega), show ms.length * 2 - cells.length = 0 by omega]; rfl, hps _ _ hx, by rw [List.getElem?_append_right (by omega), show ms.length * 2 + 1 - cells.length = 1 by omega]; rfl⟩
theorem MW.setQ {K : World → Prop} {kd : IntKind} {i : Int} (h : MW w B xb c0 c1 c2 c3 vv vp vt vw vbs ls tbs ms) (m : Nat) (hi : i = (m : Int)) (hm : m < ms.length) (hx : Ps w x l)
    (k : ∀ w1, MW w1 B xb c0 c1 c2 c3 vv vp vt vw vbs ls tbs (ms.set m (l, f)) → OW B T_ref20_Trans w w1 → K w1) : xIxS vw (.int kd i) 2 fun u => xAt u fun a => XDo P (storeVar T_ref20_Trans a (.agg #[x, .bool f])) w K := by
  refine h.q.set h.fl m hi hm hx fun w1 hq hO => ?_
  have hps : ∀ x l, Ps w x l → Ps w1 x l := fun _ _ hp => hO.ps h.fl (by decide) (by decide) (by decide) hp
  exact k w1 ⟨h.fl, h.gx, hO.blk h.blk (by decide), hO.own h.v (by decide), h.p.fr (fun ho => hO.own ho (by decide)) hps, hO.own h.t (by decide), hq⟩ hO
end
section
variable {w : World} {x vk : Value} {l : Kv} {k : Key} {n : Nat} {f : Bool}
/-- two blocks of the call's own: the argument's copy and the answer's -/
theorem two_rt (h : Ps w x l) {K : Addr → Addr → World → Prop} (k : ∀ a a2 w2, Blk w2 a [x, .bool f] T_ref20_Trans → Blk w2 a2 [.slice none 0 0, .bool false] T_ref20_Trans → a ≠ a2 → w.heap.size ≤ a → w.heap.size ≤ a2 → Ext No w w2 → K ⟨a, 0, none⟩ ⟨a2, 0, none⟩ w2) :
    XNew w [x, .bool f] T_ref20_Trans fun a w1 => XNew w1 [.slice none 0 0, .bool false] T_ref20_Trans fun a2 w2 => K a a2 w2 := by
  refine xnew fun a w1 ha hb1 hz1 he1 => ?_
  refine xnew fun a2 w2 ha2 hb2 hz2 he2 => ?_
  have := hb1.lt
  exact k a a2 w2 (hb1.ext he2 fun h => h) hb2 (by omega) (by omega) (by omega) (he1.transN he2)
/-- the answer is written, and read -/
theorem fin_rt {w0 w3 w4 : World} {a a2 : Nat} {x' : Value} {l' : Kv} {cs ds : List Value} {K : Value → World → Prop} (hfl : Floor.n ≤ w0.heap.size) (ha2 : w0.heap.size ≤ a2) (hb : Blk w3 a2 ds T_ref20_Trans) (hd : ds.length = 2) (hx : Ps w3 x' l') (he : Ext No w0 w3)
    (k : ∀ w', Ps w' x' l' → Ext No w0 w' → (∀ b cs T, b ≠ a2 → Blk w3 b cs T → Blk w' b cs T) → K (.agg #[x', .bool f]) w') :
    XDo P (storeVar T_ref20_Trans ⟨a2, 0, none⟩ (.agg #[x', .bool f])) w3 fun w' => XLdN w' ⟨a2, 0, none⟩ 2 fun v => K v w' := by
  refine xstoreVar (vs := [x', .bool f]) hb (by kernel_rfl) (by simp [hd]) (fun u hu => by simp only [List.mem_cons, List.mem_nil_iff, or_false] at hu; exact hu.elim (fun e => e ▸ hx.one1) fun e => e ▸ rfl) fun w5 hb5 hz5 he5 => ?_
  have hb5 : Blk w5 a2 [x', .bool f] T_ref20_Trans := by
    match ds, hd with
    | [_, _], _ => simpa using hb5
  refine hb5.ldA rfl ?_
  have hO : OW w0.heap.size T_ref20_Trans w3 w5 := .inr ⟨a2, _, ha2, hb, he5⟩
  exact k w5 (hO.ps hfl (by decide) (by decide) (by decide) hx) (he.trans1 he5 ha2) fun b cs T hne hbl => hbl.ext he5 hne
theorem c_r20Put (h : Ps w x l) (hr : f = false → Rises l) (hk : Bs w vk k) (hn : n < 18446744073709551616) (hl : l.length ≤ 100000) (hks : ∀ p ∈ l, p.1.length ≤ 65535) (hkl : k.length ≤ 65535) (hfl : Floor.n ≤ w.heap.size) :
    Ret P n_ref20_Put [.agg #[x, .bool f], vk, .int .u64 n] w fun r w' => ∃ x', r = .tuple #[.agg #[x', .bool f], .int .i64 (if f then 11 else 0)] ∧ Ps w' x' (if f then l else insK l k n) ∧ Ext No w w' := by
  refine W_ref20_Put ?_
  refine two_rt h fun a a2 w2 hb1 hb2 hne ha ha2 hE2 => ?_
  have hx2 := h.extN hE2
  refine hb1.ld (o := 1) rfl ?_
  cases f with
  | true =>
    refine xifT rfl ?_
    refine hb1.ldA rfl ?_
    exact fin_rt (w4 := w2) (a := a) (cs := []) hfl ha2 hb2 rfl hx2 hE2 fun w' hx' he' _ => ⟨x, rfl, hx', he'⟩
  | false =>
    refine xifF rfl ?_
    refine hb1.ld (o := 0) rfl ?_
    refine (c_r15Put hx2 (hk.extN hE2) hn hl hks hkl).mono ?_
    rintro x' w3 ⟨hx3, he3⟩
    rw [← insK_sort l (hr rfl)] at hx3
    have hb13 := hb1.ext he3 fun h => h
    refine hb13.st (o := 0) (by simp) hx3.one1 fun w4 hb4 hz4 he4 => ?_
    have hb4 : Blk w4 a [x', .bool false] T_ref20_Trans := hb4
    have hb24 := (hb2.ext he3 fun h => h).ext he4 (Ne.symm hne)
    have hO : OW w.heap.size T_ref20_Trans w3 w4 := .inr ⟨a, _, ha, hb13, he4⟩
    refine hb4.ldA rfl ?_
    exact fin_rt (w4 := w2) (a := a) (cs := []) hfl ha2 hb24 rfl (hO.ps hfl (by decide) (by decide) (by decide) hx3) ((hE2.transN he3).trans1 he4 ha) fun w' hx' he' _ => ⟨x', rfl, hx', he'⟩
theorem c_r20Del (h : Ps w x l) (hk : Bs w vk k) (hl : l.length ≤ 100000) (hks : ∀ p ∈ l, p.1.length ≤ 65535) (hfl : Floor.n ≤ w.heap.size) :
    Ret P n_ref20_Del [.agg #[x, .bool f], vk] w fun r w' => ∃ x', r = .tuple #[.agg #[x', .bool f], .bool (if f then false else (look l k).isSome), .int .i64 (if f then 11 else 0)] ∧ Ps w' x' (if f then l else dropK k l) ∧ Ext No w w' := by
  refine W_ref20_Del ?_
  refine two_rt h fun a a2 w2 hb1 hb2 hne ha ha2 hE2 => ?_
  have hx2 := h.extN hE2
  refine hb1.ld (o := 1) rfl ?_
  cases f with
  | true =>
    refine xifT rfl ?_
    refine hb1.ldA rfl ?_
    exact fin_rt (w4 := w2) (a := a) (cs := []) hfl ha2 hb2 rfl hx2 hE2 fun w' hx' he' _ => ⟨x, rfl, hx', he'⟩
  | false =>
    refine xifF rfl ?_
    refine hb1.ld (o := 0) rfl ?_
    refine (c_r16Del hx2 (hk.extN hE2) hl hks).mono ?_
    rintro _ w3 ⟨x', rfl, hso, he3⟩
    have hx3 := hso.ps he3 (.inr rfl)
    have hb13 := hb1.ext he3 fun h => h
    refine hb13.st (o := 0) (by simp) hx3.one1 fun w4 hb4 hz4 he4 => ?_
    have hb4 : Blk w4 a [x', .bool false] T_ref20_Trans := hb4
    have hb24 := (hb2.ext he3 fun h => h).ext he4 (Ne.symm hne)
    have hO : OW w.heap.size T_ref20_Trans w3 w4 := .inr ⟨a, _, ha, hb13, he4⟩
    refine hb4.ldA rfl ?_
    exact fin_rt (w4 := w2) (a := a) (cs := []) hfl ha2 hb24 rfl (hO.ps hfl (by decide) (by decide) (by decide) hx3) ((hE2.transN he3).trans1 he4 ha) fun w' hx' he' _ => ⟨x', by rw [hasK_look]; rfl, hx', he'⟩
theorem c_r20Freeze (h : Ps w x l) (hfl : Floor.n ≤ w.heap.size) :
    Ret P n_ref20_Freeze [.agg #[x, .bool f]] w fun r w' => r = .tuple #[.agg #[x, .bool true], if f then .slice none 0 0 else x, .int .i64 (if f then 11 else 0)] ∧ Ps w' x l ∧ Ext No w w' := by
  refine W_ref20_Freeze ?_
  refine two_rt h fun a a2 w2 hb1 hb2 hne ha ha2 hE2 => ?_
  have hx2 := h.extN hE2
  refine hb1.ld (o := 1) rfl ?_
  cases f with
  | true =>
    refine xifT rfl ?_
    refine hb1.ldA rfl ?_
    exact fin_rt (w4 := w2) (a := a) (cs := []) hfl ha2 hb2 rfl hx2 hE2 fun w' hx' he' _ => ⟨rfl, hx', he'⟩
  | false =>
    refine xifF rfl ?_
    refine hb1.st (o := 1) (by simp) rfl fun w4 hb4 hz4 he4 => ?_
    have hb4 : Blk w4 a [x, .bool true] T_ref20_Trans := hb4
    have hb24 := hb2.ext he4 (Ne.symm hne)
    have hO : OW w.heap.size T_ref20_Trans w2 w4 := .inr ⟨a, _, ha, hb1, he4⟩
    have hx4 := hO.ps hfl (by decide) (by decide) (by decide) hx2
    have hE4 : Ext No w w4 := hE2.trans1 he4 ha
    have hd := Ext.drew (Ext.refl No w4)
    refine hb4.drew.ldA rfl ?_
    refine hb4.drew.ld (o := 0) rfl ?_
    refine xstoreVar (vs := [x, .bool true]) hb24.drew (by kernel_rfl) (by simp) (fun u hu => by simp only [List.mem_cons, List.mem_nil_iff, or_false] at hu; exact hu.elim (fun e => e ▸ hx4.one1) fun e => e ▸ rfl) fun w5 hb5 hz5 he5 => ?_
    have hb5 : Blk w5 a2 [x, .bool true] T_ref20_Trans := by simpa using hb5
    refine ⟨xkeepV (hb4.drew.ext he5 hne) rfl, ?_⟩
    refine hb5.ldA rfl ?_
    have hO5 : OW w.heap.size T_ref20_Trans w4.drew w5 := .inr ⟨a2, _, ha2, hb24.drew, he5⟩
    exact ⟨rfl, hO5.ps hfl (by decide) (by decide) (by decide) (hx4.extN hd), hE4.drew.trans1 he5 ha2⟩
end
end law20
end Go.Proofs.YtlhjfenpmnejoaaGreatDoor
