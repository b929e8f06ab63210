/- The abstract machine, part H: append. -/
import Derived.Test.YtefhaojjohddaaaGreatDoorAmG
namespace Go.Proofs.YtefhaojjohddaaaGreatDoor.AM
open Go Go.RowKit
noncomputable section
section
variable {P : Program} {G : Nat} {w0 : Base} {w : World} {μ : Mu} {h : H Ent} {tm : H Value} {a : Act}

def appRun (P : Program) (i : TypeInfo) (e tx : TypeId) (s x : Value) (es : List (Option Ent)) (next : Nat) : Option (Res × Option (Nat × Option Ent) × Option Ent) := match s, es with
  | .slice none 0 0, es => match srcCells P i.size tx x es with
    | some (n, news) => if news.all Value.oneCell' = true ∧ n ≤ 1048576 then
        if n = 0 then some (.val (.slice none 0 0), none, none) else some (.val (.slice (some ⟨next, 0, none⟩) n n), none, some (.cells true true news e))
      else none
    | none => none
  | .slice (some ⟨b, o, none⟩) sl sc, some (.cells wr g c e') :: es => match srcCells P i.size tx x es with
    | some (n, news) => if news.all Value.oneCell' = true ∧ sl + n ≤ 1048576 ∧ e' = e then
        if sl + n ≤ sc then
          if wr = true ∧ o + sl * i.size + news.length ≤ c.length then some (.val (.slice (some ⟨b, o, none⟩) (sl + n) sc), some (b, some (.cells true g (c.take (o + sl * i.size) ++ news ++ c.drop (o + sl * i.size + news.length)) e)), none) else none
        else if g = true then
          if wr = true ∧ o = 0 ∧ sl * i.size = c.length then some (.val (.slice (some ⟨next, 0, none⟩) (sl + n) (sl + n)), some (b, none), some (.cells true true (c ++ news) e)) else none
        else if o + sl * i.size ≤ c.length then some (.val (.slice (some ⟨next, 0, none⟩) (sl + n) (sl + n)), none, some (.cells true true ((c.drop o).take (sl * i.size) ++ news) e)) else none
      else none
    | none => none
  | _, _ => none
def oAppend (P : Program) (G : Nat) (tm : H Value) (s x : Operand) (t tx : TypeId) : Option Step := match evalA G tm s, evalA G tm x, P.underlying t with
  | some u, some v, some (.slice e) => match P.info? e with
    | some i => match i.zero with
      | some z => if z.cells.size = i.size ∧ 0 < i.size ∧ i.bytes ≤ 1048576 then some ⟨srcIds u ++ srcIds v, fun es next => appRun P i e tx u v es next⟩ else none
      | none => none
    | none => none
  | _, _, _ => none
theorem grown_rel {i : TypeInfo} {e : TypeId} {z : Value} {olds news olds' news' : List Value} {need old : Nat} {next : Nat} (R : Rel P G w0 μ h w) (hn : μ next = none) (hi : P.info? e = some i) (hz : z.cells.size = i.size)
    (ho : LRel μ olds olds') (hw : LRel μ news news') (hlen : (olds' ++ news').length = need * i.size) :
    Rel P G w0 (μ.put next ⟨w.heap.size, true, i.size, grownCap w need old e * i.size⟩) (h.set next (some (.cells true true (olds ++ news) e))) (w.drew.alloc (.cells ((olds' ++ news').toArray ++ Builtin.zeroCells z.cells (grownCap w need old e - need)) e)) ∧
    VRel (μ.put next ⟨w.heap.size, true, i.size, grownCap w need old e * i.size⟩) (.slice (some ⟨next, 0, none⟩) need need) (.slice (some ⟨w.heap.size, 0, none⟩) need (grownCap w need old e)) := by
  have hge := grownCap_ge w need old e
  have hsz : ((olds' ++ news').toArray ++ Builtin.zeroCells z.cells (grownCap w need old e - need)).size = grownCap w need old e * i.size := by
    rw [Array.size_append, size_zeroCells, hz, List.size_toArray, hlen, ← Nat.add_mul]
    congr 1
    omega
  have hall := ho.append hw
  refine ⟨R.drew.new hn ⟨fun _ => rfl, rfl, fun q => (by cases q), fun _ => ⟨hsz, by rw [hi]; rfl⟩, fun _ => rfl, ?_, fun k v hk => ?_⟩, .slice 0 need (Mu.put_same μ next ⟨w.heap.size, true, i.size, grownCap w need old e * i.size⟩) hge (fun q => by cases q) (fun _ => ?_)⟩
  · rw [hsz, hall.1, hlen]
    exact Nat.mul_le_mul_right _ hge
  · obtain ⟨v', p, q⟩ := hall.get hk
    refine ⟨v', ?_, q.mono (Mu.le_put hn)⟩
    rw [Array.getElem?_append_left (by rw [List.size_toArray]; exact (List.getElem?_eq_some_iff.1 p).1)]
    simpa using p
  · simp
theorem LRel.len_eq {l l' : List Value} (hl : LRel μ l l') : l'.length = l.length := hl.1.symm
theorem right_append {o : Oper} {s x : Operand} {t tx : TypeId} (ho : o.op = .call { callee := .builtin .append, args := #[s, x], argTypes := #[t, tx] }) : Right P G w0 o tm (oAppend P G tm s x t tx) := by
  have go : ∀ (a : Act) (w w' : World) (v : Value), (Builtin.append_ #[t, tx] o.type #[a.eval s, a.eval x]).run P w = .ok v w' → (execOp a.eval o).run P w = .ok (.value v) w' := fun a w w' v hv => by
    rw [run_builtin ho]
    simp only [builtin, List.map_toArray, List.map_cons, List.map_nil]
    exact run_v hv
  unfold oAppend
  split
  · rename_i u v e hs hx hd
    split
    · rename_i i hi
      split
      · rename_i z hz
        split
        · rename_i hcond
          obtain ⟨hzs, hpos, hby⟩ := hcond
          intro stp hstp μ h w a next r upd new R T hr hn
          cases hstp
          simp only [List.map_append] at hr
          have ru := evalA_rel R T hs
          have rv := evalA_rel R T hx
          unfold appRun at hr
          split at hr
          · -- nothing there
            rename_i es1 hes
            simp only [srcIds, List.map_nil, List.nil_append] at hr
            split at hr
            · rename_i n news hsrc
              split at hr
              · rename_i hok
                obtain ⟨news', hnn, S⟩ := src_rel R hsrc rv hok.1
                generalize hu' : a.eval s = u' at ru
                cases ru
                split at hr
                · rename_i h0
                  simp only [Option.some.injEq, Prod.mk.injEq] at hr
                  obtain ⟨rfl, rfl, rfl⟩ := hr
                  subst h0
                  refine good_val R (.sliceN 0 0) (go a w w _ ?_)
                  rw [hu']
                  have hl0 := S.newsLen
                  simp only [Nat.zero_mul] at hl0
                  have hn0 := List.eq_nil_of_length_eq_zero hl0
                  have hc := S.cells
                  rw [hn0] at hc
                  rcases S.kind with ⟨e', hk⟩ | hk <;> simp [Builtin.append_, run_underlying hd, run_underlying hk, sizeOf, typeInfo, hi, S.len, hc]
                · rename_i h0
                  simp only [Option.some.injEq, Prod.mk.injEq] at hr
                  obtain ⟨rfl, rfl, rfl⟩ := hr
                  have hb : (0 + n) * i.bytes ≤ 140737488355328 := by
                    have : n * i.bytes ≤ 1048576 * 1048576 := Nat.mul_le_mul hok.2 hby
                    rw [Nat.zero_add]; omega
                  have hrun := run_append_grow_src w t tx o.type e i z hd hi hz none 0 0 [] (run_firstCells_none w.drew i.size 0 0 0) (a.eval x) n news' S (by omega) (by omega) (growslice_fits (by omega) hb)
                  obtain ⟨R1, V1⟩ := grown_rel (old := 0) (need := n) (z := z) R hn hi hzs (LRel.nil μ) hnn (by rw [List.nil_append]; exact S.newsLen)
                  simp only [Nat.zero_add] at hrun
                  simp only [List.nil_append] at R1 hrun
                  exact ⟨_, _, Mu.le_put hn, fun k hk => Mu.put_other _ _ hk, fun q => (by cases q), R1, _, V1, go a w _ _ (by rw [hu']; exact hrun)⟩
              · cases hr
            · cases hr
          · rename_i b off sl sc wr g c e' es1 hes
            simp only [srcIds, List.map_cons, List.map_nil, List.cons_append, List.nil_append, List.cons.injEq] at hes
            obtain ⟨he, rfl⟩ := hes
            split at hr
            · rename_i n news hsrc
              split at hr
              · rename_i hok
                obtain ⟨h1, hbound, rfl⟩ := hok
                obtain ⟨news', hnn, S⟩ := src_rel R hsrc rv h1
                obtain ⟨m, c', fr, ee, hm, hh, hty, hg, hex, hgr, hfr, hB, hle, hp⟩ := R.row he
                obtain ⟨m', cc, hm', hu', hcc, hgg, hnn2⟩ := ru.slice_inv
                rw [hm] at hm'; cases hm'
                have hp' : PW μ c c'.toList := fun i v hv => by obtain ⟨u, p, q⟩ := hp i v hv; exact ⟨u, by simpa using p, q⟩
                have hnl : news'.length = n * i.size := S.newsLen
                have hnl2 : news.length = n * i.size := by rw [← hnl]; exact hnn.1
                have hb : (sl + n) * i.bytes ≤ 140737488355328 := by
                  have : (sl + n) * i.bytes ≤ 1048576 * 1048576 := Nat.mul_le_mul hbound hby
                  omega
                split at hr
                · rename_i hroom
                  split at hr
                  · rename_i hw
                    obtain ⟨rfl, hfit⟩ := hw
                    simp only [Option.some.injEq, Prod.mk.injEq] at hr
                    obtain ⟨rfl, rfl, rfl⟩ := hr
                    obtain ⟨R1, hcell, hfroz⟩ := wrote R he hm hnn hfit
                    have hrun := run_append_room_src w t tx o.type e' i hd hi m.b off sl cc (a.eval x) n news' S (by omega) (by simpa using hcell) (by simpa using hfroz)
                    exact ⟨μ, _, Mu.le_refl μ, fun _ _ => rfl, fun _ => rfl, R1, _, .slice off (sl + n) hm hcc hgg hnn2, go a w _ _ (by rw [hu']; exact hrun)⟩
                  · cases hr
                · rename_i hroom
                  split at hr
                  · rename_i hgt
                    subst hgt
                    split at hr
                    · rename_i hw
                      obtain ⟨rfl, rfl, hwhole⟩ := hw
                      simp only [Option.some.injEq, Prod.mk.injEq] at hr
                      obtain ⟨rfl, rfl, rfl⟩ := hr
                      obtain ⟨hcn, hsz⟩ := hgr rfl
                      rw [hi] at hsz
                      simp only [Option.map_some, Option.some.injEq] at hsz
                      have hcap := hnn2 hg
                      rw [← hsz, Nat.zero_add] at hcap
                      have hf : fr = (0, 0) := hfr rfl
                      subst hf
                      have hte := (hty rfl).symm
                      subst hte
                      by_cases hin : sl + n ≤ cc
                      · -- there was room
                        have hfit : 0 + sl * i.size + news'.length ≤ c'.size := by
                          rw [hnl, hcn, Nat.zero_add, ← Nat.add_mul]
                          exact Nat.le_trans (Nat.mul_le_mul_right _ hin) hcap
                        obtain ⟨c1, B, e1⟩ := but_setCells news' (0 + sl * i.size) w c' hh hfit
                        have hrun := run_append_room_src w t tx o.type e' i hd hi m.b 0 sl cc (a.eval x) n news' S hin
                          (fun j hj => by
                            rw [cell_of_row w m.b _ c' e' _ hh]
                            have : 0 + sl * i.size + j < c'.size := by omega
                            simp only [Nat.zero_add] at this ⊢
                            simp [this]) (fun j hj => by simp [World.frozen?, hh])
                        have hcs : c1.size = c'.size := by
                          have : c1.toList.length = c'.size := by rw [e1]; simp; omega
                          simpa using this
                        have hlen1 : (c ++ news).length ≤ c1.size := by
                          rw [hcs, List.length_append, ← hwhole, hnl2]; omega
                        have hent : (∀ (k : Nat) (v : Value), (c ++ news)[k]? = some v → ∃ v', c1[k]? = some v' ∧ VRel (μ.put next m) v v') → entRel P (μ.put next m) m (.cells true true (c ++ news) e') (.cells c1 e' (0, 0)) := fun hall =>
                          ⟨fun _ => rfl, hg, fun q => (by cases q), fun _ => ⟨hcs.trans hcn, (by rw [hi, Option.map_some, hsz])⟩, fun _ => rfl, hlen1, hall⟩
                        have R1 := R.move (j := b) (j' := next) (x1 := .cells true true (c ++ news) e') he rfl hm hn B (hent ?_)
                        · exact ⟨_, _, Mu.le_put hn, fun k hk => Mu.put_other _ _ hk, fun q => (by cases q), R1, _, .slice 0 (sl + n) (Mu.put_same μ next m) hin (fun q => by rw [hg] at q; cases q) (fun _ => by rw [← hsz, Nat.zero_add]; exact hcap), go a w _ _ (by rw [hu']; exact hrun)⟩
                        · intro k v hk
                          have hall : PW μ (c ++ news) c1.toList := by
                            rw [e1]
                            intro q v hq
                            rw [Nat.zero_add, List.append_assoc]
                            by_cases hlt : q < c.length
                            · rw [List.getElem?_append_left hlt] at hq
                              obtain ⟨u, p1, p2⟩ := hp' _ _ hq
                              refine ⟨u, ?_, p2⟩
                              rw [List.getElem?_append_left (by simp; omega), List.getElem?_take, if_pos (by omega)]
                              exact p1
                            · rw [List.getElem?_append_right (by omega)] at hq
                              obtain ⟨u, p1, p2⟩ := hnn.get hq
                              refine ⟨u, ?_, p2⟩
                              have hq2 := (List.getElem?_eq_some_iff.1 p1).1
                              have e2 : (c'.toList.take (sl * i.size)).length = c.length := by simp; omega
                              rw [List.getElem?_append_right (by omega), e2, List.getElem?_append_left hq2]
                              exact p1
                          obtain ⟨u, p1, p2⟩ := hall k v hk
                          exact ⟨u, by simpa using p1, p2.mono (Mu.le_put hn)⟩
                      · -- a new row
                        have hseg := hp'.seg (o := 0) (n := sl * i.size) (by omega) (by simpa using hle)
                        have hce : (c.drop 0).take (sl * i.size) = c := by rw [List.drop_zero, hwhole, List.take_length]
                        rw [hce] at hseg
                        have hol : ((c'.toList.drop 0).take (sl * i.size)).length = sl * i.size := by simp; omega
                        have hfc := run_firstCells_some (P := P) w.drew i.size sl ⟨m.b, 0, none⟩ sl cc ((c'.toList.drop 0).take (sl * i.size)) hol (fun j q hq => by
                          rw [Addr.add_lit, World.cell?_drew, cell_of_row w m.b (0 + j) c' e' _ hh]
                          rw [List.getElem?_take] at hq
                          split at hq
                          · rw [List.getElem?_drop] at hq; simpa using hq
                          · cases hq)
                        have hrun := run_append_grow_src w t tx o.type e' i z hd hi hz (some ⟨m.b, 0, none⟩) sl cc _ hfc (a.eval x) n news' S (by omega) (by omega) (growslice_fits (by omega) hb)
                        obtain ⟨R1, V1⟩ := grown_rel (old := cc) (need := sl + n) (z := z) (R.gone b) hn hi hzs hseg hnn (by rw [List.length_append, hol, hnl, Nat.add_mul])
                        exact ⟨_, _, Mu.le_put hn, fun k hk => Mu.put_other _ _ hk, fun q => (by cases q), R1, _, V1, go a w _ _ (by rw [hu']; exact hrun)⟩
                    · cases hr
                  · rename_i hgt
                    split at hr
                    · rename_i hfit
                      simp only [Option.some.injEq, Prod.mk.injEq] at hr
                      obtain ⟨rfl, rfl, rfl⟩ := hr
                      have hgf : g = false := by cases g <;> simp_all
                      have ec := hgg (hg.trans hgf)
                      subst ec
                      have hseg := hp'.seg hfit (by simpa using hle)
                      have hol : ((c'.toList.drop off).take (sl * i.size)).length = sl * i.size := by simp; omega
                      have hfc := run_firstCells_some (P := P) w.drew i.size sl ⟨m.b, off, none⟩ sl cc ((c'.toList.drop off).take (sl * i.size)) hol (fun j q hq => by
                        rw [Addr.add_lit, World.cell?_drew, cell_of_row w m.b (off + j) c' ee _ hh]
                        rw [List.getElem?_take] at hq
                        split at hq
                        · rw [List.getElem?_drop] at hq; simpa using hq
                        · cases hq)
                      have hrun := run_append_grow_src w t tx o.type e' i z hd hi hz (some ⟨m.b, off, none⟩) sl cc _ hfc (a.eval x) n news' S (by omega) (by omega) (growslice_fits (by omega) hb)
                      obtain ⟨R1, V1⟩ := grown_rel (old := cc) (need := sl + n) (z := z) R hn hi hzs hseg hnn (by rw [List.length_append, hol, hnl, Nat.add_mul])
                      exact ⟨_, _, Mu.le_put hn, fun k hk => Mu.put_other _ _ hk, fun q => (by cases q), R1, _, V1, go a w _ _ (by rw [hu']; exact hrun)⟩
                    · cases hr
              · cases hr
            · cases hr
          · cases hr
        · exact right_none
      · exact right_none
    · exact right_none
  · exact right_none
end
end
end Go.Proofs.YtefhaojjohddaaaGreatDoor.AM
