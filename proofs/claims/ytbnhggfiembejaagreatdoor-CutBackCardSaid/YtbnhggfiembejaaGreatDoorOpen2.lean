import Derived.Test.YtbnhggfiembejaaGreatDoorOpen
import Derived.Test.YtbnhggfiembejaaGreatDoorG1
namespace Go.Proofs.YtbnhggfiembejaaGreatDoor
open Go Go.RowKit X Go.ChangeShapes Go.WideShapes Go.ChangeAt
set_option linter.unusedSimpArgs false
set_option linter.unusedVariables false
set_option linter.unusedSectionVars false
section
variable {H : Type} {enc : TypeId × Value → H} {W : World}
theorem QlE {sT eT : TypeId} {sz : Nat} (hs : P.underlying sT = some (.slice eT)) (hc : P.cellsOf eT = sz) (h0 : 0 < sz) {fuel : Nat} {cs : List Value} {x : DataW H × List MemPlace} (h : DataW.trod enc P W 0 (fun _ => true) true fuel sT cs = some x) :
  letI:=YK W; ∃ v n cells,cs = [v] ∧ Sl W (fun b _ => b < Floor.n) v sz n cells ∧ n ≤ maxLen ∧ ∀ i,i < n → ∃ fuel' x',DataW.trod enc P W 0 (fun _ => true) true fuel' eT ((cells.drop (i * sz)).take sz) = some x':=by
 letI:=YK W
 rcases Deep.open_slice hs h with ⟨rfl,-⟩ | ⟨a,len,cap,m,n,D,Pl,rfl,-,hl,hm,hme,-,hel⟩
 · exact ⟨_,0,[],rfl,Sl.nil,Nat.zero_le _,fun i hi => absurd hi (by omega)⟩
 · simp only [if_true] at hme
   subst hme
   rw [hc] at hel
   have hrd : ∀ j,j < m * sz → ∃ u,W.cell? (a.add j) = some u:=fun j hj => by
    obtain ⟨cs',h1,-⟩:=hel (j / sz) (Nat.div_lt_of_lt_mul (by rw [Nat.mul_comm]; exact hj))
    obtain ⟨-,hlen,hcell⟩:=World.cells?_some h1
    have h2:=hcell (j % sz) (Nat.mod_lt _ h0)
    rw [Go.Deep.add_add] at h2
    rw [show j / sz * sz + j % sz = j by rw [Nat.mul_comm]; exact Nat.div_add_mod j sz] at h2
    rw [h2]
    exact ⟨_,List.getElem?_eq_getElem (by rw [hlen]; exact Nat.mod_lt _ h0)⟩
   have each : ∀ j,∃ u,j < m * sz → W.cell? (a.add j) = some u:=fun j => by
    by_cases hj : j < m * sz
    · obtain ⟨u,hu⟩:=hrd j hj
      exact ⟨u,fun _ => hu⟩
    · exact ⟨.pointer none,fun h => absurd h hj⟩
   obtain ⟨q,hq⟩:=Classical.axiomOfChoice each
   have hle : len * sz ≤ m * sz:=Nat.mul_le_mul_right sz hl
   refine ⟨_,len,(List.range (len * sz)).map q,rfl,⟨some a,m,rfl,by simp,hl,?_⟩,by omega,fun i hi => ?_⟩
   · by_cases hc0 : m = 0
     · exact .inl hc0
     · obtain ⟨c,t,fz,ha,hh,hsz,hce⟩:=Qfw (w:=W) (a:=a) (n:=m * sz) (Nat.mul_pos (by omega) h0) hrd
       refine .inr ⟨a.block,a.off,c,t,fz,ha,lt_of_heap hh,hh,hsz,fun j hj => ?_⟩
       rw [hce j (by omega),hq j (by omega),List.getElem?_map,List.getElem?_range hj]
       rfl
   · obtain ⟨cs',h1,h2⟩:=hel i (by omega)
     obtain ⟨-,hlen,hcell⟩:=World.cells?_some h1
     have hle2 : (i + 1) * sz ≤ len * sz:=Nat.mul_le_mul_right sz hi
     rw [Nat.succ_mul] at hle2
     have e : (((List.range (len * sz)).map q).drop (i * sz)).take sz = cs':=by
      apply List.ext_getElem?
      intro j
      rw [List.getElem?_take]
      split
      · rename_i hj
        have h3:=hcell j hj
        rw [Go.Deep.add_add] at h3
        rw [List.getElem?_drop,List.getElem?_map,List.getElem?_range (by omega),← h3,hq _ (by omega)]
        rfl
      · rw [List.getElem?_eq_none (by omega)]
     rw [e]
     exact ⟨_,_,h2⟩
set_option maxRecDepth 100000 in
theorem QoQ {sT : TypeId} (hs : P.underlying sT = some (.slice Ji)) {fuel : Nat} {cs : List Value} {x : DataW H × List MemPlace} (h : DataW.trod enc P W 0 (fun _ => true) true fuel sT cs = some x) :
  letI:=YK W; ∃ v ks,cs = [v] ∧ Bss W v ks ∧ ks.length ≤ maxLen ∧ ∀ k ∈ ks,k.length ≤ maxLen:=by
 letI:=YK W
 obtain ⟨v,n,cells,rfl,hsl,hn,hel⟩:=QlE hs Qy7 (by omega) h
 have each : ∀ i,∃ k : Key,i < n → ∃ kv,cells[i]? = some kv ∧ Bs W kv k ∧ k.length ≤ maxLen:=fun i => by
  by_cases hi : i < n
  · obtain ⟨f,x',hx⟩:=hel i hi
    obtain ⟨kv,bs,hv,hb,hl⟩:=Q2H hx
    refine ⟨bs,fun _ => ⟨kv,?_,hb,hl⟩⟩
    have:=congrArg (·[0]?) hv
    simp only [List.getElem?_take,List.getElem?_drop,Nat.mul_one,Nat.add_zero] at this
    simpa using this
  · exact ⟨[],fun h => absurd h hi⟩
 obtain ⟨q,hq⟩:=Classical.axiomOfChoice each
 refine ⟨v,(List.range n).map q,rfl,⟨cells,by simpa using hsl,fun i k hk => ?_⟩,by simpa using hn,fun k hk => ?_⟩
 · rw [List.getElem?_map] at hk
   have hi : i < n:=by
    rcases Nat.lt_or_ge i n with h | h
    · exact h
    · rw [List.getElem?_eq_none (by simpa using h)] at hk; cases hk
   rw [List.getElem?_range hi] at hk
   obtain rfl : q i = k:=by simpa using hk
   obtain ⟨kv,h1,h2,-⟩:=hq i hi
   exact ⟨kv,h1,h2⟩
 · obtain ⟨i,hi,rfl⟩:=List.mem_map.1 hk
   obtain ⟨kv,-,-,h3⟩:=hq i (List.mem_range.1 hi)
   exact h3
theorem Qih {v a b c : Value} (h : v.cells.toList = [a,b,c]) : v = .agg #[a,b,c]:=by
 cases v with
 | agg cs =>
   have h3 : cs.toList = [a,b,c]:=h
   congr 1
   rw [← h3]
 | _ => exact absurd (congrArg List.length h) (by simp [Value.cells])
set_option maxRecDepth 100000 in
theorem Q44 {t : TypeId} {cs : List Value} {n : Nat} {xs : List (DataW H × List MemPlace)} {i o : Nat} (hi : i < xs.length) (hc : P.cellsOf t = 1) (ho : o < cs.length)
  (h : DataW.trod enc P W 0 (fun _ => true) true n t ((cs.drop o).take (P.cellsOf t)) = xs[i]?) : ∃ u,cs[o]? = some u ∧ ∃ y,DataW.trod enc P W 0 (fun _ => true) true n t [u] = some y:=by
 rw [hc] at h
 refine ⟨cs[o],List.getElem?_eq_getElem ho,xs[i],?_⟩
 rw [List.getElem?_eq_getElem hi] at h
 rw [← h]
 congr 1
 apply List.ext_getElem?
 intro j
 rw [List.getElem?_take]
 cases j with
 | zero => simp [ho]
 | succ j => simp
end
end Go.Proofs.YtbnhggfiembejaaGreatDoor
