/- Part 6 of the proof of TwiceMoved: what the functions compute as plain Lean functions, that the machine comes to just these answers, and that the answer is true; no conditions. -/
import Derived.Test.YtjjnfobeeflnhaaTwiceMovedZ0
import Derived.Test.YtjjnfobeeflnhaaTwiceMovedZ1
import Derived.Test.YtjjnfobeeflnhaaTwiceMovedZ2
import Derived.Test.YtjjnfobeeflnhaaTwiceMovedZ3
import Derived.Test.YtjjnfobeeflnhaaTwiceMovedZ4
import Derived.Test.YtjjnfobeeflnhaaTwiceMovedZ5
import Derived.Deep.Slices
import Derived.ChangeArms
import Derived.DataReads
import Derived.SizedLaws
import Derived.WideShapes
import Derived.OpenShut
import Derived.Test.YtjjnfobeeflnhaaRows
import Derived.JoinedOf
import Derived.KernelRfl
import Derived.WalkSmall
set_option maxRecDepth 100000
/- What comes in laid out as a type says is a value of a kind, within the bounds that its weights leave: once for every type. -/
namespace Go.Proofs.Ytjjnfobeeflnhaa.Op
open Go.RowKit Go.Proofs.YtjjnfobeeflnhaaW.PrintWords Go.Proofs.YtjjnfobeeflnhaaW.PrintLast Go.Proofs.YtjjnfobeeflnhaaW.PrintMore
def Opens {α : Type} (P : Program) (d : Kd α) (t : TypeId) (wf : α → Prop) : Prop :=
  ∀ (H : Type) (enc : TypeId × Value → H) (w : World) (base fuel : Nat) (spare : Nat → Bool) (held : Bool) (cs : List Value) (x : DataW H × List MemPlace), cs.length = d.sz →
    DataW.trod enc P w base spare held fuel t cs = some x → (x.1.weights P t).all (· ≤ reachBytes) = true → ∃ a, d.K w a cs ∧ wf a
theorem op_int {P : Program} {t : TypeId} {k : IntKind} (ht : P.underlying t = some (.int k)) : Opens P (Kd.int k) t (fun n => (Lit.int k n).wf = true) := by
  intro H enc w base fuel spare held cs x _ h _
  obtain ⟨n, rfl, _, hw⟩ := DataW.trod_int ht h
  exact ⟨n, rfl, hw⟩
theorem op_bool {P : Program} {t : TypeId} (ht : P.underlying t = some .bool) : Opens P Kd.bool t (fun _ => True) := by
  intro H enc w base fuel spare held cs x _ h _
  obtain ⟨n, rfl, _⟩ := DataW.trod_bool ht h
  exact ⟨n, rfl, trivial⟩
theorem all_weights {H : Type} {P : Program} {e : TypeId} {p : Nat → Bool} : ∀ (ds : List (DataW H)), (DataW.weightsAll P e ds).all p = true → ∀ d ∈ ds, (d.weights P e).all p = true
  | [], _, d, hd => by simp at hd
  | a :: r, h, d, hd => by
    unfold DataW.weightsAll at h
    rw [List.all_append, Bool.and_eq_true] at h
    rcases List.mem_cons.1 hd with rfl | hd
    · exact h.1
    · exact all_weights r h.2 d hd
theorem add_add_ (a : Addr) (i j : Nat) : a.add (i + j) = (a.add i).add j := by
  cases a
  unfold Addr.add
  rcases Nat.eq_zero_or_pos i with hi | hi <;> rcases Nat.eq_zero_or_pos j with hj | hj
  · simp [hi, hj]
  · simp [hi, show j ≠ 0 by omega]
  · simp [hj, show i ≠ 0 by omega]
  · simp [show i ≠ 0 by omega, show j ≠ 0 by omega, Nat.add_assoc]
theorem pick {β : Type} {p : Nat → β → Prop} : ∀ n, (∀ i : Nat, i < n → ∃ q, p i q) → ∃ l : List β, l.length = n ∧ ∀ (i : Nat) (q : β), l[i]? = some q → p i q
  | 0, _ => ⟨[], rfl, fun i q h => by simp at h⟩
  | n + 1, h => by
    obtain ⟨l, hl, hp⟩ := pick n (fun i hi => h i (by omega))
    obtain ⟨q, hq⟩ := h n (by omega)
    refine ⟨l ++ [q], by simp [hl], fun i r hr => ?_⟩
    rcases Nat.lt_or_ge i l.length with hi | hi
    · rw [List.getElem?_append_left hi] at hr
      exact hp i r hr
    · rw [List.getElem?_append_right hi] at hr
      have h0 : i - l.length = 0 := by
        rcases Nat.eq_zero_or_pos (i - l.length) with h' | h'
        · exact h'
        · rw [List.getElem?_eq_none (by simp; omega)] at hr; cases hr
      rw [h0] at hr
      obtain rfl : q = r := by simpa using hr
      have : i = n := by omega
      rw [this]; exact hq
theorem weights_at {H : Type} {P : Program} {p : Nat → Bool} : ∀ (ts : List TypeId) (ds : List (DataW H)) (j : Nat) {t : TypeId} {d : DataW H}, (DataW.weightsEach P ts ds).all p = true → ts[j]? = some t → ds[j]? = some d → (d.weights P t).all p = true
  | [], _, _, _, _, _, ht, _ => by simp at ht
  | _ :: _, [], _, _, _, _, _, hd => by simp at hd
  | t :: ts, d :: ds, j, t', d', h, ht, hd => by
    unfold DataW.weightsEach at h
    rw [List.all_append, Bool.and_eq_true] at h
    match j, ht, hd with
    | 0, ht, hd =>
      obtain rfl : t = t' := by simpa using ht
      obtain rfl : d = d' := by simpa using hd
      exact h.1
    | j + 1, ht, hd => exact weights_at ts ds j h.2 (by simpa using ht) (by simpa using hd)
theorem op_slice {α : Type} {P : Program} {d : Kd α} {t e : TypeId} {B : Nat} {wf : α → Prop} (ht : P.underlying t = some (.slice e)) (hB : P.bytesOf e = B) (hsz : P.cellsOf e = d.sz) (he : Opens P d e wf) :
    Opens P (Kd.slice e d) t (fun l => l.length ≤ maxLen ∧ l.length * B ≤ 140737488351232 ∧ ∀ a ∈ l, wf a) := by
  intro H enc w base fuel spare held cs x _ h hw
  rcases Go.Deep.open_slice ht h with ⟨rfl, _⟩ | ⟨a, len, cap, m, n, D, Pl, rfl, hb, hl, hm, hmm, rfl, hx⟩
  · exact ⟨[], ⟨none, 0, rfl, Nat.le_refl _, rfl, Nat.zero_le _, fun h0 => absurd h0 (by simp)⟩, by simp, by simp, fun a ha => by simp at ha⟩
  · have hlm : len ≤ m := by rw [hmm]; split <;> omega
    simp only [DataW.weights, ht, List.all_cons, List.all_append, Bool.and_eq_true, List.length_map, List.length_range] at hw
    obtain ⟨hw0, hw1, _⟩ := hw
    have each : ∀ i : Nat, i < len → ∃ q : α, wf q ∧ ∃ c : List Value, c.length = d.sz ∧ d.K w q c ∧ ∀ j u, c[j]? = some u → w.cell? (a.add (i * d.sz + j)) = some u := by
      intro i hi
      obtain ⟨cs', h1, h2⟩ := hx i (by omega)
      rw [hsz] at h1
      obtain ⟨_, hlen, hcell⟩ := World.cells?_some h1
      obtain ⟨y, hK, hwf⟩ := he H enc w base n spare held cs' _ hlen h2 (all_weights _ hw1 _ (List.mem_map.2 ⟨i, List.mem_range.2 hi, rfl⟩))
      refine ⟨y, hwf, cs', hlen, hK, fun j u hu => ?_⟩
      have hj : j < d.sz := by
        rw [← hlen]
        rcases Nat.lt_or_ge j cs'.length with h' | h'
        · exact h'
        · rw [List.getElem?_eq_none h'] at hu; cases hu
      have := hcell j hj
      rw [hu] at this
      rw [show a.add (i * d.sz + j) = (a.add (i * d.sz)).add j from add_add_ _ _ _]
      exact this
    obtain ⟨l, rfl, hl2⟩ := pick len each
    refine ⟨l, ⟨some a, cap, rfl, hl, rfl, Nat.le_trans hl hm, fun _ => ⟨a, rfl, fun j p hj => (hl2 j p hj).2⟩⟩, Nat.le_trans hl hm, ?_, ?_⟩
    · have hw2 := of_decide_eq_true hw0
      rw [hB] at hw2
      exact Nat.le_trans (Nat.mul_le_mul_right _ (by omega)) hw2
    · intro y hy
      obtain ⟨j, hj⟩ := List.mem_iff_getElem?.1 hy
      exact (hl2 j y hj).1
def OpL {β : Type} (P : Program) (d : Kd β) (fs : List Field) (o : Nat) (wf : β → Prop) : Prop :=
  ∀ (H : Type) (enc : TypeId × Value → H) (w : World) (base n : Nat) (spare : Nat → Bool) (held : Bool) (cs : List Value) (xs : List (DataW H × List MemPlace)), cs.length = d.sz → xs.length = fs.length →
    (∀ (i : Nat) (f : Field), fs[i]? = some f → DataW.trod enc P w base spare held n f.type ((cs.drop (f.offset - o)).take (P.cellsOf f.type)) = xs[i]?) →
    (DataW.weightsEach P (fs.map (·.type)) (xs.map (·.1))).all (· ≤ reachBytes) = true → ∃ a, d.K w a cs ∧ wf a
theorem opL_one {β : Type} {P : Program} {d : Kd β} {f : Field} {o : Nat} {wf : β → Prop} (ho : f.offset = o) (hc : P.cellsOf f.type = d.sz) (h : Opens P d f.type wf) : OpL P d [f] o wf := by
  intro H enc w base n spare held cs xs hl hx hf hw
  match xs, hx with
  | [y], _ =>
    have h0 := hf 0 f rfl
    rw [ho, Nat.sub_self, List.drop_zero, hc, ← hl, List.take_length] at h0
    simp only [List.map_cons, List.map_nil, DataW.weightsEach, List.append_nil] at hw
    exact h H enc w base n spare held cs y hl h0 hw
theorem opL_cons {α β : Type} {P : Program} {d1 : Kd α} {d : Kd β} {f : Field} {fs : List Field} {o : Nat} {wf1 : α → Prop} {wf : β → Prop} (ho : f.offset = o) (hc : P.cellsOf f.type = d1.sz) (h1 : Opens P d1 f.type wf1)
    (hfs0 : (fs.all fun g => decide (o + d1.sz ≤ g.offset)) = true) (h : OpL P d fs (o + d1.sz) wf) : OpL P (Kd.pair d1 d) (f :: fs) o (fun x => wf1 x.1 ∧ wf x.2) := by
  have hfs : ∀ g ∈ fs, o + d1.sz ≤ g.offset := fun g hg => of_decide_eq_true (List.all_eq_true.1 hfs0 g hg)
  intro H enc w base n spare held cs xs hl hx hf hw
  have hl' : cs.length = d1.sz + d.sz := hl
  match xs, hx with
  | y :: ys, hx =>
    have h0 := hf 0 f rfl
    rw [ho, Nat.sub_self, List.drop_zero, hc] at h0
    simp only [List.map_cons, DataW.weightsEach, List.all_append, Bool.and_eq_true] at hw
    obtain ⟨a, ka, wa⟩ := h1 H enc w base n spare held (cs.take d1.sz) y (by rw [List.length_take]; omega) h0 hw.1
    obtain ⟨b, kb, wb⟩ := h H enc w base n spare held (cs.drop d1.sz) ys (by rw [List.length_drop]; omega) (by simpa using hx) (fun i g hg => by
      have := hf (i + 1) g (by simpa using hg)
      rw [List.drop_drop]
      have hg2 := hfs g (List.mem_of_getElem? hg)
      rw [show d1.sz + (g.offset - (o + d1.sz)) = g.offset - o by omega, this]
      simp) hw.2
    exact ⟨(a, b), ⟨cs.take d1.sz, cs.drop d1.sz, (List.take_append_drop _ _).symm, ka, kb⟩, wa, wb⟩
theorem op_struct {α β : Type} {P : Program} {d : Kd α} {t : TypeId} {fs : Array Field} {wf : α → Prop} {p : β → α} (g : α → β) (hg : ∀ a, p (g a) = a) (ht : P.underlying t = some (.struct fs)) (h : OpL P d fs.toList 0 wf) :
    Opens P (Kd.iso d p) t (fun b => wf (p b)) := by
  intro H enc w base fuel spare held cs x hl hx hw
  obtain ⟨xs, n, rfl, rfl, _, hxl, hf⟩ := DataW.trod_struct ht hx
  simp only [DataW.weights, ht] at hw
  obtain ⟨a, ka, wa⟩ := h H enc w base n spare held cs xs hl (by simpa using hxl) (fun i f hi => by
    rw [Nat.sub_zero]
    exact hf i f (by simpa using hi)) hw
  refine ⟨g a, ?_, ?_⟩
  · show d.K w (p (g a)) cs
    rw [hg]; exact ka
  · show wf (p (g a))
    rw [hg]; exact wa
theorem op_agg {α : Type} {P : Program} {d : Kd α} {t : TypeId} {fs : Array Field} {wf : α → Prop} (ht : P.underlying t = some (.struct fs)) (h : OpL P d fs.toList 0 wf) : Opens P d t wf :=
  op_struct (d := d) (p := fun a => a) (fun a => a) (fun _ => rfl) ht h
theorem op_array2 {α : Type} {P : Program} {d : Kd α} {t e : TypeId} {wf : α → Prop} (ht : P.underlying t = some (.array 2 e)) (hc : P.cellsOf e = d.sz) (h : Opens P d e wf) : Opens P (Kd.pair d d) t (fun x => wf x.1 ∧ wf x.2) := by
  intro H enc w base fuel spare held cs x hl hx hw
  obtain ⟨xs, m, rfl, rfl, _, hxl, hf⟩ := DataW.trod_array ht hx
  simp only [DataW.weights, ht] at hw
  have hl' : cs.length = d.sz + d.sz := hl
  match xs, hxl with
  | [y, z], _ =>
    have h0 := hf 0 (by omega)
    have h1 := hf 1 (by omega)
    rw [Nat.zero_mul, List.drop_zero, hc] at h0
    rw [Nat.one_mul, hc, List.take_of_length_le (by rw [List.length_drop]; omega)] at h1
    simp only [List.map_cons, List.map_nil, DataW.weightsAll, List.all_append, Bool.and_eq_true] at hw
    obtain ⟨a, ka, wa⟩ := h H enc w base m spare held (cs.take d.sz) y (by rw [List.length_take]; omega) h0 hw.1
    obtain ⟨b, kb, wb⟩ := h H enc w base m spare held (cs.drop d.sz) z (by rw [List.length_drop]; omega) h1 hw.2.1
    exact ⟨(a, b), ⟨cs.take d.sz, cs.drop d.sz, (List.take_append_drop _ _).symm, ka, kb⟩, wa, wb⟩
theorem okWide_arr {P : Program} {W : World} {r : Reach} {b0 : Nat} {t e : TypeId} {n : Nat} {v : Value} (ht : P.underlying t = some (.array n e)) (h : Value.okWide P W r b0 t v) : ∃ cs, v = .agg cs ∧ cs.size = P.cellsOf t := by
  simp only [Value.okWide, ht] at h
  obtain ⟨cs, h1, h2, _⟩ := h
  exact ⟨cs, h1, h2⟩
theorem okWide_agg {P : Program} {W : World} {r : Reach} {b0 : Nat} {t : TypeId} {fs : Array Field} {v : Value} (ht : P.underlying t = some (.struct fs)) (h : Value.okWide P W r b0 t v) : ∃ cs, v = .agg cs ∧ cs.size = P.cellsOf t := by
  simp only [Value.okWide, ht] at h
  obtain ⟨cs, h1, h2, _⟩ := h
  exact ⟨cs, h1, h2⟩
theorem arg {α H : Type} {enc : TypeId × Value → H} {P : Program} {d : Kd α} {t : TypeId} {wf : α → Prop} (h : Opens P d t wf) {w : World} {base : Nat} {spare : Nat → Bool} {held : Bool} {v : Value} {x : DataW H} {ps : List MemPlace}
    (hl : v.cells.toList.length = d.sz) (hv : DataW.Trod enc P w base spare held t v x ps) {ts : List TypeId} {ds : List (DataW H)} {j : Nat} (hsz : (DataW.weightsEach P ts ds).all (· ≤ reachBytes) = true) (ht : ts[j]? = some t) (hd : ds[j]? = some x) :
    ∃ a, d.K w a v.cells.toList ∧ wf a := by
  obtain ⟨fuel, hf⟩ := hv
  exact h H enc w base fuel spare held _ _ hl hf (weights_at ts ds j hsz ht hd)
end Go.Proofs.Ytjjnfobeeflnhaa.Op
/- Three closed facts over the whole program, with its header's words as numbers. -/
namespace Go.Proofs.Ytjjnfobeeflnhaa.Facts
theorem toList_of (s : String) (l : List Char) (h : s = String.ofList l) : s.toList = l := by rw [h, String.toList_ofList]
def glue : List (List Char) → List Char
  | [] => []
  | [w] => w
  | w :: v :: r => w ++ Char.ofNat 32 :: glue (v :: r)
theorem signs_space (r : List Char) : wordsSigns (Char.ofNat 32 :: r) = [] :: wordsSigns r := rfl
theorem signs_cons (c : Char) (r : List Char) (h : c ≠ Char.ofNat 32) (w : List Char) (ws : List (List Char)) (e : wordsSigns r = w :: ws) : wordsSigns (c :: r) = (c :: w) :: ws := by
  rw [wordsSigns]
  · rw [e]
  · exact h
theorem signs_one : ∀ (w : List Char), (∀ c ∈ w, c ≠ Char.ofNat 32) → wordsSigns w = [w]
  | [], _ => rfl
  | c :: w, h => signs_cons c w (h c (List.mem_cons_self ..)) _ _ (signs_one w (fun d hd => h d (List.mem_cons_of_mem _ hd)))
theorem signs_more (r : List Char) : ∀ (w : List Char), (∀ c ∈ w, c ≠ Char.ofNat 32) → wordsSigns (w ++ Char.ofNat 32 :: r) = w :: wordsSigns r
  | [], _ => signs_space r
  | c :: w, h => signs_cons c _ (h c (List.mem_cons_self ..)) _ _ (signs_more r w (fun d hd => h d (List.mem_cons_of_mem _ hd)))
theorem signs_glue : ∀ (ws : List (List Char)), ws ≠ [] → (∀ w ∈ ws, ∀ c ∈ w, c ≠ Char.ofNat 32) → wordsSigns (glue ws) = ws
  | [], h, _ => absurd rfl h
  | [w], _, h => signs_one w (h w (List.mem_cons_self ..))
  | w :: v :: r, _, h => by
    rw [glue, signs_more _ w (h w (List.mem_cons_self ..)), signs_glue (v :: r) (by simp) (fun u hu => h u (List.mem_cons_of_mem _ hu))]
def W : List (List Char) := (List.map (List.map Char.ofNat) [[104, 97, 114, 110, 101, 115, 115],
  [56, 98, 98, 99, 100, 53, 56, 100, 55, 50, 48, 97, 53, 56, 100, 57, 52, 98, 55, 57, 101, 52, 50, 101, 52, 51, 102, 99, 99, 49, 53, 53, 57, 54, 97, 50, 97, 48, 101, 99, 97, 98, 49, 48, 54, 55, 52, 48, 102, 55, 97, 48, 53, 52, 57, 55, 52, 100, 97, 52, 102, 54, 100, 56],
  [99, 117, 116],
  [97, 116],
  [106, 117, 110, 116, 111, 47, 106, 117, 110, 116, 111, 108, 97, 119, 48, 55, 46, 84, 119, 105, 99, 101, 67, 104, 101, 99, 107, 115],
  [106, 117, 110, 116, 111, 47, 106, 117, 110, 116, 111, 108, 97, 119, 48, 55, 46, 84, 119, 105, 99, 101, 77, 97, 107, 101, 115],
  [106, 117, 110, 116, 111, 47, 106, 117, 110, 116, 111, 108, 97, 119, 48, 55, 46, 84, 119, 105, 99, 101, 86, 97, 108, 117, 101, 115],
  [106, 117, 110, 116, 111, 47, 106, 117, 110, 116, 111, 108, 97, 119, 48, 55, 46, 84, 119, 105, 99, 101, 80, 114, 111, 100, 117, 99, 116],
  [106, 117, 110, 116, 111, 47, 106, 117, 110, 116, 111, 108, 97, 119, 48, 55, 46, 84, 119, 105, 99, 101, 74, 111, 105, 110, 115],
  [106, 117, 110, 116, 111, 47, 106, 117, 110, 116, 111, 108, 97, 119, 48, 55, 46, 84, 119, 105, 99, 101, 79, 110, 101],
  [106, 117, 110, 116, 111, 47, 106, 117, 110, 116, 111, 108, 97, 119, 48, 55, 46, 84, 119, 105, 99, 101, 77, 111, 118, 101, 115],
  [106, 117, 110, 116, 111, 47, 106, 117, 110, 116, 111, 108, 97, 119, 48, 52, 46, 83, 104, 97, 114, 101, 83, 101, 116, 117, 112, 115],
  [106, 117, 110, 116, 111, 47, 106, 117, 110, 116, 111, 108, 97, 119, 48, 52, 46, 83, 104, 97, 114, 101, 77, 97, 107, 101, 115],
  [106, 117, 110, 116, 111, 47, 106, 117, 110, 116, 111, 108, 97, 119, 48, 52, 46, 83, 104, 97, 114, 101, 86, 97, 108, 117, 101, 115],
  [106, 117, 110, 116, 111, 47, 106, 117, 110, 116, 111, 108, 97, 119, 48, 52, 46, 83, 104, 97, 114, 101, 77, 111, 118, 101, 115],
  [106, 117, 110, 116, 111, 47, 106, 117, 110, 116, 111, 108, 97, 119, 48, 52, 46, 83, 104, 97, 114, 101, 78, 111, 116, 104, 105, 110, 103],
  [106, 117, 110, 116, 111, 47, 106, 117, 110, 116, 111, 108, 97, 119, 48, 52, 46, 83, 104, 97, 114, 101, 79, 110, 108, 121],
  [106, 117, 110, 116, 111, 47, 106, 117, 110, 116, 111, 108, 97, 119, 48, 52, 46, 83, 104, 97, 114, 101, 84, 104, 101, 114, 101],
  [106, 117, 110, 116, 111, 47, 106, 117, 110, 116, 111, 108, 97, 119, 48, 52, 46, 83, 104, 97, 114, 101, 83, 117, 109, 115],
  [106, 117, 110, 116, 111, 47, 106, 117, 110, 116, 111, 108, 97, 119, 48, 52, 46, 83, 104, 97, 114, 101, 70, 105, 116, 115],
  [106, 117, 110, 116, 111, 47, 106, 117, 110, 116, 111, 108, 97, 119, 48, 55, 46, 84, 119, 105, 99, 101, 67, 117, 116, 115],
  [106, 117, 110, 116, 111, 47, 106, 117, 110, 116, 111, 108, 97, 119, 48, 55, 46, 84, 119, 105, 99, 101, 77, 111, 118, 101, 100],
  [106, 117, 110, 116, 111, 47, 106, 117, 110, 116, 111, 108, 97, 119, 48, 50, 46, 80, 111, 108, 121, 84, 104, 114, 111, 117, 103, 104],
  [106, 117, 110, 116, 111, 47, 106, 117, 110, 116, 111, 108, 97, 119, 48, 50, 46, 80, 111, 108, 121, 87, 101, 105, 103, 104, 116, 115],
  [106, 117, 110, 116, 111, 47, 106, 117, 110, 116, 111, 108, 97, 119, 48, 50, 46, 80, 111, 108, 121, 65, 119, 97, 121],
  [106, 117, 110, 116, 111, 47, 106, 117, 110, 116, 111, 108, 97, 119, 48, 50, 46, 80, 111, 108, 121, 83, 108, 111, 112, 101, 115],
  [106, 117, 110, 116, 111, 47, 106, 117, 110, 116, 111, 108, 97, 119, 48, 50, 46, 80, 111, 108, 121, 80, 114, 111, 100, 117, 99, 116, 115],
  [106, 117, 110, 116, 111, 47, 106, 117, 110, 116, 111, 108, 97, 119, 48, 50, 46, 80, 111, 108, 121, 83, 117, 109, 115],
  [106, 117, 110, 116, 111, 47, 106, 117, 110, 116, 111, 108, 97, 119, 48, 50, 46, 80, 111, 108, 121, 66, 97, 99, 107],
  [106, 117, 110, 116, 111, 47, 106, 117, 110, 116, 111, 108, 97, 119, 48, 50, 46, 80, 111, 108, 121, 86, 97, 108, 117, 101, 115],
  [106, 117, 110, 116, 111, 47, 106, 117, 110, 116, 111, 108, 97, 119, 48, 50, 46, 80, 111, 108, 121, 82, 111, 111, 116, 115],
  [106, 117, 110, 116, 111, 47, 106, 117, 110, 116, 111, 108, 97, 119, 48, 50, 46, 80, 111, 108, 121, 70, 101, 119],
  [106, 117, 110, 116, 111, 47, 106, 117, 110, 116, 111, 108, 97, 119, 48, 50, 46, 80, 111, 108, 121, 86, 97, 108, 117, 101, 100],
  [106, 117, 110, 116, 111, 47, 106, 117, 110, 116, 111, 108, 97, 119, 48, 50, 46, 80, 111, 108, 121, 81, 117, 111, 116, 105, 101, 110, 116, 115],
  [106, 117, 110, 116, 111, 47, 106, 117, 110, 116, 111, 108, 97, 119, 48, 50, 46, 80, 111, 108, 121, 65, 112, 97, 114, 116],
  [106, 117, 110, 116, 111, 47, 106, 117, 110, 116, 111, 108, 97, 119, 48, 52, 46, 83, 104, 97, 114, 101, 83, 101, 99, 114, 101, 116, 115],
  [106, 117, 110, 116, 111, 47, 106, 117, 110, 116, 111, 108, 97, 119, 48, 52, 46, 83, 104, 97, 114, 101, 66, 97, 99, 107]])
theorem head : Try.pinned.checked.prog.initOrder.toList = glue W := toList_of _ _ (by kernel_rfl)
theorem plain : (W.all fun w => w.all fun c => c.toNat != 32) = true := by kernel_rfl
theorem signs : wordsSigns Try.pinned.checked.prog.initOrder.toList = W := by
  rw [head]
  refine signs_glue W (by simp [W]) fun w hw c hc e => ?_
  have h := List.all_eq_true.1 (List.all_eq_true.1 plain w hw) c hc
  rw [e] at h
  cases h
theorem words : behindMainWord (wordsSigns Try.pinned.checked.prog.initOrder.toList) = W.drop 2 := by
  rw [signs]
  kernel_rfl
theorem lifts : Try.pinned.checked.prog.headLifts = [] := by
  unfold Program.headLifts
  rw [words]
  kernel_rfl
theorem final : Try.pinned.checked.prog.liftsFinal = false := by
  unfold Program.liftsFinal
  rw [words, lifts]
  kernel_rfl
theorem made_of (P : Program) (rest : List (List Char)) (h : behindMainWord (wordsSigns P.initOrder.toList) = [Char.ofNat 99, Char.ofNat 117, Char.ofNat 116] :: rest) : P.make = some .cut := by
  unfold Program.make
  rw [h]
  kernel_rfl
theorem enters_of (P : Program) (rest : List (List Char)) (h : behindMainWord (wordsSigns P.initOrder.toList) = [Char.ofNat 99, Char.ofNat 117, Char.ofNat 116] :: rest) (hl : P.laysLater = false) (hb : P.bearsReflect = false) (hd : P.doorFits [] = true)
    (hs : stripLifts liftWords ([Char.ofNat 99, Char.ofNat 117, Char.ofNat 116] :: rest) = ([], [Char.ofNat 99, Char.ofNat 117, Char.ofNat 116] :: rest)) : P.mayEnter = true := by
  unfold Program.mayEnter
  rw [h]
  simp only [hs, hl, hb, hd]
  kernel_rfl
theorem made : Try.pinned.checked.prog.make = some .cut := made_of _ (W.drop 3) (words.trans (by kernel_rfl))
theorem enters : Try.pinned.checked.prog.mayEnter = true := enters_of _ (W.drop 3) (words.trans (by kernel_rfl)) (by kernel_rfl) (by kernel_rfl) (by kernel_rfl) (by kernel_rfl)
end Go.Proofs.Ytjjnfobeeflnhaa.Facts
/- Both tests of a prime and both tests of a setup answer alike, and what they answer. -/
namespace Go.Proofs.Ytjjnfobeeflnhaa.L
open Go.RowKit Go.Proofs.YtjjnfobeeflnhaaW.PrintWords Go.Proofs.Ytjjnfobeeflnhaa.J
set_option linter.unusedVariables false
set_option linter.unusedSimpArgs false
theorem u64_small {n : Int} (h0 : 0 ≤ n) (h1 : n < 18446744073709551616) : IntKind.u64.wrap n = n := by
  simp [IntKind.wrap, IntKind.signed, IntKind.bits]
  omega
theorem w64_small {n : Int} (h0 : -9223372036854775808 ≤ n) (h1 : n < 9223372036854775808) : wrap64 n = n := by
  unfold wrap64
  omega
def free (a : Int) : Prop := ∀ y : Fin 257, 2 ≤ y.val → ((y.val : Int) * (y.val : Int)) ≤ a → a % (y.val : Int) ≠ 0
def isP (a : Int) : Bool := decide (3 ≤ a ∧ a ≤ 65537 ∧ ∀ y : Fin 257, 2 ≤ y.val → ((y.val : Int) * (y.val : Int)) ≤ a → a % (y.val : Int) ≠ 0)
theorem free_of {a : Int} (h : a ≤ 65537) (hf : ∀ y : Fin 257, 2 ≤ y.val → ((y.val : Int) * (y.val : Int)) ≤ a → a % (y.val : Int) ≠ 0) (y : Int) (h2 : 2 ≤ y) (hy : y * y ≤ a) : a % y ≠ 0 := by
  have hb : y < 257 := by
    rcases Int.lt_or_le y 257 with h' | h'
    · exact h'
    · have : 257 * 257 ≤ y * y := Int.mul_le_mul h' h' (by omega) (by omega)
      omega
  have := hf ⟨y.toNat, by omega⟩ (show 2 ≤ y.toNat by omega)
  simp only at this
  rw [show ((y.toNat : Nat) : Int) = y by omega] at this
  exact this hy
theorem isP_iff (a : Int) : isP a = true ↔ 3 ≤ a ∧ a ≤ 65537 ∧ ∀ y : Int, 2 ≤ y → y * y ≤ a → a % y ≠ 0 := by
  unfold isP
  rw [decide_eq_true_iff]
  constructor
  · rintro ⟨h1, h2, h3⟩
    exact ⟨h1, h2, fun y hy => free_of h2 h3 y hy⟩
  · rintro ⟨h1, h2, h3⟩
    exact ⟨h1, h2, fun y hy hq => h3 y.val (by omega) hq⟩
theorem sq_small {x : Int} (h0 : 0 ≤ x) (h1 : x ≤ 300) : 0 ≤ x * x ∧ x * x ≤ 90000 :=
  ⟨Int.mul_nonneg h0 h0, Int.mul_le_mul h1 h1 h0 (by omega)⟩
theorem ref_loop (a : Int) (h3 : 3 ≤ a) (ha : a ≤ 65537) : ∀ (m : Nat) (x : Int), 2 ≤ x → x + m = 258 → (∀ y : Int, 2 ≤ y → y < x → y * y ≤ a → a % y ≠ 0) → Ev (fun k => qya.l0 k a x) (isP a)
  | 0, x, h2, hx, hy => by
    have hb : isP a = true := (isP_iff a).2 ⟨h3, ha, fun y y2 yq => hy y y2 (by
      rcases Int.lt_or_le y x with h' | h'
      · exact h'
      · have : 257 * 257 ≤ y * y := Int.mul_le_mul (by omega) (by omega) (by omega) (by omega)
        omega) yq⟩
    rw [hb]
    refine Ev.step (f := fun k => some true) (fun k => ?_) (Ev.now _)
    have hq := sq_small (x := x) (by omega) (by omega)
    have : ¬ (x * x ≤ a) := by
      have : 257 * 257 ≤ x * x := Int.mul_le_mul (by omega) (by omega) (by omega) (by omega)
      omega
    simp only [qya.l0]
    rw [u64_small hq.1 (by omega), if_neg this]
  | m + 1, x, h2, hx, hy => by
    have hq := sq_small (x := x) (by omega) (by omega)
    by_cases hle : x * x ≤ a
    · by_cases hd : a % x = 0
      · have hb : isP a = false := by
          rw [Bool.eq_false_iff]
          intro h'
          exact ((isP_iff a).1 h').2.2 x h2 hle hd
        rw [hb]
        refine Ev.step (f := fun k => some false) (fun k => ?_) (Ev.now _)
        simp only [qya.l0]
        rw [u64_small hq.1 (by omega), if_pos hle, if_neg (show ¬ x = 0 by omega), if_pos (by rw [Int.tmod_eq_emod_of_nonneg (by omega)]; exact hd)]
      · refine Ev.step (f := fun k => qya.l0 k a (x + 1)) (fun k => ?_) (ref_loop a h3 ha m (x + 1) (by omega) (by omega) fun y y2 yx yq => ?_)
        · conv => lhs; simp only [qya.l0]
          rw [u64_small hq.1 (by omega), if_pos hle, if_neg (show ¬ x = 0 by omega), if_neg (by rw [Int.tmod_eq_emod_of_nonneg (by omega)]; exact hd), u64_small (show 0 ≤ x + 1 by omega) (by omega)]
        · rcases Int.lt_or_le y x with h' | h'
          · exact hy y y2 h' yq
          · obtain rfl : y = x := by omega
            exact hd
    · have hb : isP a = true := (isP_iff a).2 ⟨h3, ha, fun y y2 yq => hy y y2 (by
        rcases Int.lt_or_le y x with h' | h'
        · exact h'
        · have : x * x ≤ y * y := Int.mul_le_mul h' h' (by omega) (by omega)
          omega) yq⟩
      rw [hb]
      refine Ev.step (f := fun k => some true) (fun k => ?_) (Ev.now _)
      simp only [qya.l0]
      rw [u64_small hq.1 (by omega), if_neg hle]
theorem odd_loop (a : Int) (h3 : 3 ≤ a) (ha : a ≤ 65537) (hodd : a % 2 = 1) : ∀ (m : Nat) (x : Int), 3 ≤ x → x % 2 = 1 → x + 2 * m = 259 → (∀ y : Int, 2 ≤ y → y < x → y * y ≤ a → a % y ≠ 0) → Ev (fun k => qmb.l0 k a x) (isP a)
  | 0, x, h2, hxo, hx, hy => by
    have hb : isP a = true := (isP_iff a).2 ⟨h3, ha, fun y y2 yq => hy y y2 (by
      rcases Int.lt_or_le y x with h' | h'
      · exact h'
      · have : 257 * 257 ≤ y * y := Int.mul_le_mul (by omega) (by omega) (by omega) (by omega)
        omega) yq⟩
    rw [hb]
    refine Ev.step (f := fun k => some true) (fun k => ?_) (Ev.now _)
    have hq := sq_small (x := x) (by omega) (by omega)
    have : ¬ (x * x ≤ a) := by
      have : 257 * 257 ≤ x * x := Int.mul_le_mul (by omega) (by omega) (by omega) (by omega)
      omega
    simp only [qmb.l0]
    rw [u64_small hq.1 (by omega), if_neg this]
  | m + 1, x, h2, hxo, hx, hy => by
    have hq := sq_small (x := x) (by omega) (by omega)
    by_cases hle : x * x ≤ a
    · by_cases hd : a % x = 0
      · have hb : isP a = false := by
          rw [Bool.eq_false_iff]
          intro h'
          exact ((isP_iff a).1 h').2.2 x (by omega) hle hd
        rw [hb]
        refine Ev.step (f := fun k => some false) (fun k => ?_) (Ev.now _)
        simp only [qmb.l0]
        rw [u64_small hq.1 (by omega), if_pos hle, if_neg (show ¬ x = 0 by omega), if_pos (by rw [Int.tmod_eq_emod_of_nonneg (by omega)]; exact hd)]
      · refine Ev.step (f := fun k => qmb.l0 k a (x + 2)) (fun k => ?_) (odd_loop a h3 ha hodd m (x + 2) (by omega) (by omega) (by omega) fun y y2 yx yq => ?_)
        · conv => lhs; simp only [qmb.l0]
          rw [u64_small hq.1 (by omega), if_pos hle, if_neg (show ¬ x = 0 by omega), if_neg (by rw [Int.tmod_eq_emod_of_nonneg (by omega)]; exact hd), u64_small (show 0 ≤ x + 2 by omega) (by omega)]
        · rcases Int.lt_or_le y x with h' | h'
          · exact hy y y2 h' yq
          · rcases Int.lt_or_le x y with h'' | h''
            · obtain rfl : y = x + 1 := by omega
              intro h0
              have h1 : (2 : Int) ∣ a := Int.dvd_trans (Int.dvd_of_emod_eq_zero (by omega)) (Int.dvd_of_emod_eq_zero h0)
              have := Int.emod_eq_zero_of_dvd h1
              omega
            · obtain rfl : y = x := by omega
              exact hd
    · have hb : isP a = true := (isP_iff a).2 ⟨h3, ha, fun y y2 yq => hy y y2 (by
        rcases Int.lt_or_le y x with h' | h'
        · exact h'
        · have : x * x ≤ y * y := Int.mul_le_mul h' h' (by omega) (by omega)
          omega) yq⟩
      rw [hb]
      refine Ev.step (f := fun k => some true) (fun k => ?_) (Ev.now _)
      simp only [qmb.l0]
      rw [u64_small hq.1 (by omega), if_neg hle]
theorem not_isP {a : Int} (h : ¬ (3 ≤ a ∧ a ≤ 65537)) : isP a = false := by
  rw [Bool.eq_false_iff]
  intro h'
  have := (isP_iff a).1 h'
  exact h ⟨this.1, this.2.1⟩
theorem ref_is (a : Int) : Ev (fun k => qya.f k a) (isP a) := by
  by_cases h3 : a < 3
  · rw [not_isP (by omega)]
    refine Ev.step (f := fun k => some false) (fun k => ?_) (Ev.now _)
    simp [qya.f, qya.j0, h3]
  · by_cases hb : a > 65537
    · rw [not_isP (by omega)]
      refine Ev.step (f := fun k => some false) (fun k => ?_) (Ev.now _)
      simp [qya.f, qya.j0, h3, hb]
    · refine Ev.step (f := fun k => qya.l0 k a 2) (fun k => ?_) (ref_loop a (by omega) (by omega) 256 2 (by omega) (by omega) fun y y2 yx => by omega)
      simp [qya.f, qya.j0, h3, hb]
theorem field_is (a : Int) : Ev (fun k => qmb.f k a) (isP a) := by
  by_cases h3 : a < 3
  · rw [not_isP (by omega)]
    refine Ev.step (f := fun k => some false) (fun k => ?_) (Ev.now _)
    simp [qmb.f, qmb.j0, h3]
  · by_cases hb : a > 65537
    · rw [not_isP (by omega)]
      refine Ev.step (f := fun k => some false) (fun k => ?_) (Ev.now _)
      simp [qmb.f, qmb.j0, h3, hb]
    · by_cases ho : a % 2 = 0
      · have hp : isP a = false := by
          rw [Bool.eq_false_iff]
          intro h'
          exact ((isP_iff a).1 h').2.2 2 (by omega) (by omega) ho
        rw [hp]
        refine Ev.step (f := fun k => some false) (fun k => ?_) (Ev.now _)
        have ht : Int.tmod a 2 = 0 := by rw [Int.tmod_eq_emod_of_nonneg (by omega)]; exact ho
        simp [qmb.f, qmb.j0, h3, hb, ht]
      · refine Ev.step (f := fun k => qmb.l0 k a 3) (fun k => ?_) (odd_loop a (by omega) (by omega) (by omega) 128 3 (by omega) (by omega) (by omega) fun y y2 yx yq => ?_)
        · have ht : ¬ Int.tmod a 2 = 0 := by rw [Int.tmod_eq_emod_of_nonneg (by omega)]; exact ho
          simp [qmb.f, qmb.j0, h3, hb, ht]
        · obtain rfl : y = 2 := by omega
          exact ho
def setupV (p n t : Int) : Int := if isP p = true ∧ 1 ≤ n ∧ n ≤ 13 ∧ 0 ≤ t ∧ 4 * t + 1 ≤ n ∧ n < p then 0 else 2
theorem setupV_ok {p n t : Int} (h : setupV p n t = 0) : isP p = true ∧ 1 ≤ n ∧ n ≤ 13 ∧ 0 ≤ t ∧ 4 * t + 1 ≤ n ∧ n < p := by
  unfold setupV at h
  split at h
  · assumption
  · cases h
theorem share_setup (p n t : Int) : Ev (fun k => qvb.f k p n t) (setupV p n t) := by
  unfold qvb.f
  refine Ev.bind (field_is p) ?_
  unfold setupV
  by_cases hp : isP p = true
  · have h3 := ((isP_iff p).1 hp)
    simp only [hp, if_true, true_and]
    by_cases h1 : n < 1
    · rw [if_pos h1, if_neg (by omega)]; exact Ev.now _
    rw [if_neg h1]
    by_cases h2 : n > 13
    · rw [if_pos h2, if_neg (by omega)]; exact Ev.now _
    rw [if_neg h2]
    by_cases h4 : t < 0
    · rw [if_pos h4, if_neg (by omega)]; exact Ev.now _
    rw [if_neg h4]
    by_cases h5 : t > n
    · rw [if_pos h5, if_neg (by omega)]; exact Ev.now _
    rw [if_neg h5, w64_small (n := 4 * t) (by omega) (by omega), w64_small (by omega) (by omega)]
    by_cases h6 : 4 * t + 1 > n
    · rw [if_pos h6, if_neg (by omega)]; exact Ev.now _
    rw [if_neg h6, u64_small (by omega) (by omega)]
    by_cases h7 : p ≤ n
    · rw [if_pos h7, if_neg (by omega)]; exact Ev.now _
    · rw [if_neg h7, if_pos (by omega)]; exact Ev.now _
  · rw [if_neg hp, if_neg (fun h => hp h.1)]
    exact Ev.now _
theorem ref_setup (p n t : Int) : Ev (fun k => qxb.f k p n t) (setupV p n t) := by
  unfold qxb.f
  refine Ev.bind (ref_is p) ?_
  unfold setupV
  by_cases hp : isP p = true
  · have h3 := ((isP_iff p).1 hp)
    simp only [hp, if_true, true_and]
    by_cases h1 : n < 1
    · rw [if_pos h1, if_neg (by omega)]; exact Ev.now _
    rw [if_neg h1]
    by_cases h2 : n > 13
    · rw [if_pos h2, if_neg (by omega)]; exact Ev.now _
    rw [if_neg h2]
    by_cases h4 : t < 0
    · rw [if_pos h4, if_neg (by omega)]; exact Ev.now _
    rw [if_neg h4]
    by_cases h5 : t > 13
    · rw [if_pos h5, if_neg (by omega)]; exact Ev.now _
    rw [if_neg h5, w64_small (n := 4 * t) (by omega) (by omega), w64_small (by omega) (by omega)]
    by_cases h6 : n < 4 * t + 1
    · rw [if_pos h6, if_neg (by omega)]; exact Ev.now _
    rw [if_neg h6, u64_small (by omega) (by omega)]
    by_cases h7 : p ≤ n
    · rw [if_pos h7, if_neg (by omega)]; exact Ev.now _
    · rw [if_neg h7, if_pos (by omega)]; exact Ev.now _
  · rw [if_neg hp, if_neg (fun h => hp h.1)]
    exact Ev.now _
def belowV (p : Int) (l : List Int) : Int := if ∀ x ∈ l, x < p then 0 else 2
theorem below_loop (p : Int) (l : List Int) (hl : l.length ≤ maxLen) : ∀ (m i : Nat), i + m = l.length → (∀ x ∈ l.take i, x < p) → Ev (fun k => qjb.l0 k p l (l.length : Int) (i : Int)) (belowV p l)
  | 0, i, hi, hx => by
    have hv : belowV p l = 0 := by
      unfold belowV
      rw [if_pos]
      rw [List.take_of_length_le (by omega)] at hx
      exact hx
    rw [hv]
    refine Ev.step (f := fun k => some 0) (fun k => ?_) (Ev.now _)
    simp only [qjb.l0]
    rw [if_neg (by omega)]
  | m + 1, i, hi, hx => by
    have hm : (l.length : Int) ≤ 9223372036854775807 := by simp only [maxLen] at hl; omega
    have hlt : i < l.length := by omega
    have hr : rd l (i : Int) = l[i] := by simp [rd, List.getD_eq_getElem?_getD, hlt]
    by_cases hge : l[i] ≥ p
    · have hv : belowV p l = 2 := by
        unfold belowV
        rw [if_neg]
        intro h'
        have := h' _ (List.getElem_mem hlt)
        omega
      rw [hv]
      refine Ev.step (f := fun k => some 2) (fun k => ?_) (Ev.now _)
      simp only [qjb.l0]
      rw [if_pos (by omega), if_pos (by omega), if_pos (by omega), if_pos (by rw [hr]; exact hge)]
    · refine Ev.step (f := fun k => qjb.l0 k p l (l.length : Int) ((i + 1 : Nat) : Int)) (fun k => ?_) (below_loop p l hl m (i + 1) (by omega) fun x hx' => ?_)
      · conv => lhs; simp only [qjb.l0]
        rw [if_pos (by omega), if_pos (by omega), if_pos (by omega), if_neg (by rw [hr]; exact hge), w64_small (by omega) (by omega)]
        rfl
      · rw [List.take_add_one, List.mem_append] at hx'
        rcases hx' with h' | h'
        · exact hx x h'
        · rw [List.getElem?_eq_getElem hlt] at h'
          simp only [Option.toList_some, List.mem_singleton] at h'
          rw [h']; omega
theorem field_below (p : Int) (l : List Int) (hl : l.length ≤ maxLen) : Ev (fun k => qjb.f k p l) (belowV p l) :=
  below_loop p l hl l.length 0 (by omega) (fun x hx => by simp at hx)
theorem within_eq : ∀ k a b c d, qab.l0 k a b c d = qjb.l0 k a b c d
  | 0, _, _, _, _ => rfl
  | k + 1, a, b, c, d => by
    simp only [qab.l0, qjb.l0, within_eq k]
theorem ref_within (p : Int) (l : List Int) (hl : l.length ≤ maxLen) : Ev (fun k => qab.f k p l) (belowV p l) := by
  refine Ev.congr (fun k => ?_) (field_below p l hl)
  exact within_eq _ _ _ _ _
end Go.Proofs.Ytjjnfobeeflnhaa.L
/- Both ways to evaluate a polynomial answer alike, and what they answer. -/
namespace Go.Proofs.Ytjjnfobeeflnhaa.L
open Go.RowKit Go.Proofs.YtjjnfobeeflnhaaW.PrintWords Go.Proofs.Ytjjnfobeeflnhaa.J
set_option linter.unusedVariables false
set_option linter.unusedSimpArgs false
theorem mul_small {p a b : Int} (hp : p ≤ 65537) (ha : 0 ≤ a) (ha' : a < p) (hb : 0 ≤ b) (hb' : b < p) : 0 ≤ a * b ∧ a * b < 18446744073709551616 := by
  have h1 : a * b ≤ 65537 * 65537 := Int.mul_le_mul (by omega) (by omega) hb (by omega)
  exact ⟨Int.mul_nonneg ha hb, by omega⟩
theorem times_at {p a b : Int} (h0 : 0 < p) (hp : p ≤ 65537) (ha : 0 ≤ a) (ha' : a < p) (hb : 0 ≤ b) (hb' : b < p) : field_Times.f p a b = some (a * b % p) := by
  obtain ⟨h1, h2⟩ := mul_small hp ha ha' hb hb'
  unfold field_Times.f field_mul.f
  simp only [u64_small h1 h2, if_neg (show ¬ p = 0 by omega), Option.bind_some, Int.tmod_eq_emod_of_nonneg h1]
theorem ref_mul {p a b : Int} (h0 : 0 < p) (hp : p ≤ 65537) (ha : 0 ≤ a) (ha' : a < p) (hb : 0 ≤ b) (hb' : b < p) : qpb.f p a b = some (a * b % p) := by
  obtain ⟨h1, h2⟩ := mul_small hp ha ha' hb hb'
  unfold qpb.f
  rw [u64_small h1 h2, if_neg (show ¬ p = 0 by omega), Int.tmod_eq_emod_of_nonneg h1]
theorem ref_add {p a b : Int} (h0 : 0 < p) (hp : p ≤ 65537) (ha : 0 ≤ a) (ha' : a < p) (hb : 0 ≤ b) (hb' : b < p) : juntoref01_Add.f p a b = some ((a + b) % p) := by
  unfold juntoref01_Add.f
  rw [u64_small (by omega) (by omega), if_neg (show ¬ p = 0 by omega), Int.tmod_eq_emod_of_nonneg (by omega)]
theorem plus_at {p a b : Int} (h0 : 0 < p) (hp : p ≤ 65537) (ha : 0 ≤ a) (ha' : a < p) (hb : 0 ≤ b) (hb' : b < p) : field_Plus.f p a b = some ((a + b) % p) := by
  unfold field_Plus.f
  rw [u64_small (n := a + b) (by omega) (by omega)]
  by_cases h : a + b ≥ p
  · rw [if_pos h, u64_small (by omega) (by omega)]
    rw [show (a + b) % p = a + b - p by rw [← Int.sub_emod_right, Int.emod_eq_of_lt (by omega) (by omega)]]
  · rw [if_neg h, Int.emod_eq_of_lt (by omega) (by omega)]
def valV (p x : Int) : List Int → Int
  | [] => 0
  | c :: cs => (valV p x cs * x % p + c) % p
theorem valV_range {p : Int} (h0 : 0 < p) (x : Int) : ∀ l, 0 ≤ valV p x l ∧ valV p x l < p
  | [] => ⟨Int.le_refl _, h0⟩
  | _ :: _ => ⟨Int.emod_nonneg _ (by omega), Int.emod_lt_of_pos _ h0⟩
theorem drop_mod (a b z p : Int) : (a + b * (z % p)) % p = (a + b * z) % p := by
  rw [Int.emod_def z p, show a + b * (z - p * (z / p)) = a + b * z + p * (-(b * (z / p))) by generalize z / p = q; grind, Int.add_mul_emod_self_left]
theorem step_mod (acc pw v c x p : Int) : (acc + pw * ((v * x % p + c) % p)) % p = ((acc + c * pw % p) % p + pw * x % p * v) % p := by
  rw [drop_mod]
  have r1 : ((acc + c * pw % p) % p + pw * x % p * v) % p = (pw * x % p * v + 1 * ((acc + c * pw % p) % p)) % p := by
    generalize (acc + c * pw % p) % p = u
    rw [Int.one_mul, Int.add_comm]
  rw [r1, drop_mod]
  have r2 : pw * x % p * v + 1 * (acc + c * pw % p) = acc + v * (pw * x % p) + 1 * (c * pw % p) := by
    generalize pw * x % p = u
    generalize c * pw % p = z
    grind
  rw [r2, drop_mod]
  have r3 : acc + v * (pw * x % p) + 1 * (c * pw) = acc + c * pw + v * (pw * x % p) := by
    generalize pw * x % p = u
    grind
  rw [r3, drop_mod]
  have r4 : acc + pw * (v * x % p + c) = acc + pw * c + pw * (v * x % p) := by
    generalize v * x % p = u
    grind
  rw [r4, drop_mod]
  congr 1
  grind
theorem ref_eval_loop {p x : Int} (h0 : 0 < p) (hp : p ≤ 65537) (hx : 0 ≤ x) (hx' : x < p) (l : List Int) (hs : l.length ≤ maxLen) (h : ∀ c ∈ l, 0 ≤ c ∧ c < p) : ∀ (m i : Nat) (acc pw : Int), i + m = l.length → 0 ≤ acc → acc < p → 0 ≤ pw → pw < p →
    Ev (fun k => qkb.l0 k p x acc pw l (l.length : Int) (i : Int)) ((acc + pw * valV p x (l.drop i)) % p)
  | 0, i, acc, pw, hi, ha, ha', hw, hw' => by
    rw [List.drop_of_length_le (by omega)]
    have e : (acc + pw * valV p x []) % p = acc := by
      show (acc + pw * 0) % p = acc
      rw [Int.mul_zero, Int.add_zero, Int.emod_eq_of_lt ha ha']
    rw [e]
    refine Ev.step (f := fun k => some acc) (fun k => ?_) (Ev.now _)
    simp only [qkb.l0]
    rw [if_neg (by omega)]
  | m + 1, i, acc, pw, hi, ha, ha', hw, hw' => by
    have hm : (l.length : Int) ≤ 9223372036854775807 := by simp only [maxLen] at hs; omega
    have hlt : i < l.length := by omega
    have hr : rd l (i : Int) = l[i] := by simp [rd, List.getD_eq_getElem?_getD, hlt]
    have hc := h l[i] (List.getElem_mem hlt)
    rw [List.drop_eq_getElem_cons hlt]
    have m1 : 0 ≤ l[i] * pw % p ∧ l[i] * pw % p < p := ⟨Int.emod_nonneg _ (by omega), Int.emod_lt_of_pos _ h0⟩
    have m2 : 0 ≤ (acc + l[i] * pw % p) % p ∧ (acc + l[i] * pw % p) % p < p := ⟨Int.emod_nonneg _ (by omega), Int.emod_lt_of_pos _ h0⟩
    have m3 : 0 ≤ pw * x % p ∧ pw * x % p < p := ⟨Int.emod_nonneg _ (by omega), Int.emod_lt_of_pos _ h0⟩
    have e : (acc + pw * valV p x (l[i] :: l.drop (i + 1))) % p = ((acc + l[i] * pw % p) % p + pw * x % p * valV p x (l.drop (i + 1))) % p := by
      show (acc + pw * ((valV p x (l.drop (i + 1)) * x % p + l[i]) % p)) % p = _
      exact step_mod _ _ _ _ _ _
    rw [e]
    refine Ev.step (f := fun k => qkb.l0 k p x ((acc + l[i] * pw % p) % p) (pw * x % p) l (l.length : Int) ((i + 1 : Nat) : Int)) (fun k => ?_) (ref_eval_loop h0 hp hx hx' l hs h m (i + 1) _ _ (by omega) m2.1 m2.2 m3.1 m3.2)
    conv => lhs; simp only [qkb.l0]
    rw [if_pos (by omega), if_pos (by omega), if_pos (by omega), hr, ref_mul h0 hp hc.1 hc.2 hw hw', Option.bind_some, ref_add h0 hp ha ha' m1.1 m1.2, Option.bind_some, ref_mul h0 hp hw hw' hx hx', Option.bind_some, w64_small (by omega) (by omega)]
    rfl
theorem ref_eval {p x : Int} (h1 : 1 < p) (hp : p ≤ 65537) (hx : 0 ≤ x) (hx' : x < p) (l : List Int) (hs : l.length ≤ maxLen) (h : ∀ c ∈ l, 0 ≤ c ∧ c < p) : Ev (fun k => qkb.f k p l x) (valV p x l) := by
  have e := ref_eval_loop (by omega) hp hx hx' l hs h l.length 0 0 1 (by omega) (by omega) (by omega) (by omega) h1
  have hv := valV_range (p := p) (by omega) x l
  rw [List.drop_zero, Int.zero_add, Int.one_mul, Int.emod_eq_of_lt hv.1 hv.2] at e
  exact e
end Go.Proofs.Ytjjnfobeeflnhaa.L
/- The field of the residues modulo a prime: primes by trial division, no zero divisors, Fermat. Plain Lean, no program in sight. -/
namespace Go.Proofs.Ytjjnfobeeflnhaa.Fld
def Pr (p : Nat) : Prop := 2 ≤ p ∧ ∀ d, d ∣ p → d = 1 ∨ d = p
theorem Pr.dvd_mul {p a b : Nat} (hp : Pr p) (h : p ∣ a * b) : p ∣ a ∨ p ∣ b := by
  by_cases ha : p ∣ a
  · exact .inl ha
  · right
    have hc : Nat.Coprime p a := by
      rcases hp.2 _ (Nat.gcd_dvd_left p a) with h' | h'
      · exact h'
      · exact absurd (h' ▸ Nat.gcd_dvd_right p a) ha
    exact hc.dvd_of_dvd_mul_left h
theorem pr_of_trial {p : Nat} (h2 : 2 ≤ p) (h : ∀ d, 2 ≤ d → d * d ≤ p → p % d ≠ 0) : Pr p := by
  refine ⟨h2, fun d hd => ?_⟩
  obtain ⟨e, he⟩ := hd
  by_cases h1 : d = 1
  · exact .inl h1
  by_cases h3 : e = 1
  · right; rw [he, h3, Nat.mul_one]
  exfalso
  have hd0 : d ≠ 0 := by rintro rfl; omega
  have he0 : e ≠ 0 := by rintro rfl; omega
  by_cases hle : d ≤ e
  · refine h d (by omega) ?_ (Nat.mod_eq_zero_of_dvd ⟨e, he⟩)
    rw [he]; exact Nat.mul_le_mul_left d hle
  · refine h e (by omega) ?_ (Nat.mod_eq_zero_of_dvd ⟨d, by rw [he, Nat.mul_comm]⟩)
    rw [he]; exact Nat.mul_le_mul_right e (by omega)
set_option linter.unusedVariables false
set_option linter.unusedSimpArgs false
section
variable {p : Nat} [NeZero p]
theorem mul_eq_zero (hp : Pr p) {a b : Fin p} (h : a * b = 0) : a = 0 ∨ b = 0 := by
  have h1 : (a.val * b.val) % p = 0 := by have := congrArg Fin.val h; simpa [Fin.val_mul] using this
  rcases hp.dvd_mul (Nat.dvd_of_mod_eq_zero h1) with h | h
  · left; apply Fin.ext; exact Nat.eq_zero_of_dvd_of_lt h a.isLt
  · right; apply Fin.ext; exact Nat.eq_zero_of_dvd_of_lt h b.isLt
theorem one_ne_zero (hp : Pr p) : (1 : Fin p) ≠ 0 := by
  intro h
  have := congrArg Fin.val h
  have h2 := hp.1
  have h1 : ((1 : Fin p) : Nat) = 1 % p := rfl
  rw [h1, Nat.mod_eq_of_lt (by omega)] at this
  simp at this
theorem mul_cancel (hp : Pr p) {a b c : Fin p} (ha : a ≠ 0) (h : a * b = a * c) : b = c := by
  have : a * (b - c) = 0 := by grind
  rcases mul_eq_zero hp this with h | h
  · exact absurd h ha
  · grind
def pr (l : List (Fin p)) : Fin p := l.foldr (· * ·) 1
theorem pr_cons (a : Fin p) (l : List (Fin p)) : pr (a :: l) = a * pr l := rfl
theorem pr_perm {l l' : List (Fin p)} (h : l.Perm l') : pr l = pr l' := by
  induction h with
  | nil => rfl
  | cons x _ ih => rw [pr_cons, pr_cons, ih]
  | swap x y l => simp only [pr_cons]; grind
  | trans _ _ ih1 ih2 => exact ih1.trans ih2
theorem pr_ne_zero (hp : Pr p) {l : List (Fin p)} (h : ∀ a, a ∈ l → a ≠ 0) : pr l ≠ 0 := by
  induction l with
  | nil => exact one_ne_zero hp
  | cons a l ih =>
    intro h'
    rcases mul_eq_zero hp (pr_cons a l ▸ h') with h0 | h0
    · exact h a (by simp) h0
    · exact ih (fun b hb => h b (by simp [hb])) h0
theorem pr_map_mul (a : Fin p) (l : List (Fin p)) : pr (l.map (a * ·)) = a ^ l.length * pr l := by
  induction l with
  | nil => simp only [List.map_nil, List.length_nil]; show (1 : Fin p) = a ^ 0 * 1; grind
  | cons b l ih => rw [List.map_cons, pr_cons, pr_cons, ih, List.length_cons]; grind
theorem perm_of_subset {α : Type} [BEq α] [LawfulBEq α] : ∀ (l l' : List α), l.Nodup → (∀ a, a ∈ l → a ∈ l') → l'.length ≤ l.length → l.Perm l'
  | [], l', _, _, h => by
    have : l' = [] := List.eq_nil_of_length_eq_zero (by simpa using h)
    rw [this]
  | a :: l, l', hn, hs, h => by
    have ha := hs a (by simp)
    have hp := List.perm_cons_erase ha
    have hlen : (l'.erase a).length + 1 = l'.length := by have := hp.length_eq; simpa using this.symm
    obtain ⟨hna, hn⟩ := List.nodup_cons.1 hn
    refine List.Perm.trans ?_ hp.symm
    refine List.Perm.cons a (perm_of_subset l (l'.erase a) hn ?_ (by simp at h; omega))
    intro b hb
    have hne : b ≠ a := by rintro rfl; exact hna hb
    exact (List.mem_erase_of_ne hne).2 (hs b (by simp [hb]))
def units (p : Nat) [NeZero p] : List (Fin p) := (List.range (p - 1)).map fun i => Fin.ofNat p (i + 1)
theorem units_length : (units p).length = p - 1 := by simp [units]
theorem units_ne {a : Fin p} (h : a ∈ units p) : a ≠ 0 := by
  obtain ⟨i, hi, rfl⟩ := List.mem_map.1 h
  have hi := List.mem_range.1 hi
  intro h
  have := congrArg Fin.val h
  simp only [Fin.ofNat, Fin.val_zero] at this
  rw [Nat.mod_eq_of_lt (by omega)] at this
  omega
theorem mem_units {a : Fin p} (h : a ≠ 0) : a ∈ units p := by
  have h0 : a.val ≠ 0 := fun h' => h (Fin.ext h')
  refine List.mem_map.2 ⟨a.val - 1, List.mem_range.2 (by have := a.isLt; omega), ?_⟩
  apply Fin.ext
  simp only [Fin.ofNat]
  rw [Nat.mod_eq_of_lt (by have := a.isLt; omega)]
  omega
theorem units_nodup : (units p).Nodup := by
  unfold units List.Nodup
  rw [List.pairwise_map]
  refine List.Pairwise.imp_of_mem ?_ List.nodup_range
  intro i j hi hj hne h
  have hi := List.mem_range.1 hi
  have hj := List.mem_range.1 hj
  have := congrArg Fin.val h
  simp only [Fin.ofNat] at this
  rw [Nat.mod_eq_of_lt (by omega), Nat.mod_eq_of_lt (by omega)] at this
  omega
theorem fermat (hp : Pr p) {a : Fin p} (ha : a ≠ 0) : a ^ (p - 1) = 1 := by
  have hperm : ((units p).map (a * ·)).Perm (units p) := by
    refine perm_of_subset _ _ ?_ ?_ (by simp)
    · unfold List.Nodup
      rw [List.pairwise_map]
      refine List.Pairwise.imp ?_ (units_nodup (p := p))
      intro x y hne h
      exact hne (mul_cancel hp ha h)
    · intro x hx
      obtain ⟨y, hy, rfl⟩ := List.mem_map.1 hx
      refine mem_units fun h => ?_
      rcases mul_eq_zero hp h with h | h
      · exact ha h
      · exact units_ne hy h
  have h1 := pr_perm hperm
  rw [pr_map_mul, units_length] at h1
  have h2 : pr (units p) ≠ 0 := pr_ne_zero hp fun a h => units_ne h
  exact mul_cancel hp (a := pr (units p)) h2 (by grind)
def inv (a : Fin p) : Fin p := a ^ (p - 2)
theorem inv_mul (hp : Pr p) {a : Fin p} (ha : a ≠ 0) : inv a * a = 1 := by
  have h := fermat hp ha
  have h2 := hp.1
  have : p - 1 = (p - 2) + 1 := by omega
  rw [this] at h
  unfold inv
  grind
theorem pow_double (a : Fin p) (n : Nat) : (a * a) ^ n = a ^ (2 * n) := by
  induction n with
  | zero => simp only [Nat.mul_zero]; grind
  | succ n ih =>
    have : 2 * (n + 1) = 2 * n + 1 + 1 := by omega
    rw [this]; grind
end
end Go.Proofs.Ytjjnfobeeflnhaa.Fld
/- Polynomials over the residues modulo a prime, as lists of coefficients: sums, products, values, trailing zeros, division, interpolation. Plain Lean, no program in sight. -/
namespace Go.Proofs.Ytjjnfobeeflnhaa.Fld
set_option linter.unusedVariables false
set_option linter.unusedSimpArgs false
section
variable {p : Nat} [NeZero p]
def sm : Nat → (Nat → Fin p) → Fin p
  | 0, _ => 0
  | n + 1, g => sm n g + g n
theorem sm_succ (n : Nat) (g : Nat → Fin p) : sm (n + 1) g = sm n g + g n := rfl
theorem sm_congr {n : Nat} {g h : Nat → Fin p} (e : ∀ i, i < n → g i = h i) : sm n g = sm n h := by
  induction n with
  | zero => rfl
  | succ n ih => rw [sm_succ, sm_succ, ih (fun i hi => e i (by omega)), e n (by omega)]
theorem sm_zero {n : Nat} {g : Nat → Fin p} (e : ∀ i, i < n → g i = 0) : sm n g = 0 := by
  induction n with
  | zero => rfl
  | succ n ih => rw [sm_succ, ih (fun i hi => e i (by omega)), e n (by omega)]; grind
theorem sm_add (n : Nat) (g h : Nat → Fin p) : sm n (fun i => g i + h i) = sm n g + sm n h := by
  induction n with
  | zero => show (0 : Fin p) = 0 + 0; grind
  | succ n ih => rw [sm_succ, sm_succ, sm_succ, ih]; grind
theorem sm_mul (n : Nat) (c : Fin p) (g : Nat → Fin p) : sm n (fun i => c * g i) = c * sm n g := by
  induction n with
  | zero => show (0 : Fin p) = c * 0; grind
  | succ n ih => rw [sm_succ, sm_succ, ih]; grind
theorem sm_mul' (n : Nat) (c : Fin p) (g : Nat → Fin p) : sm n (fun i => g i * c) = sm n g * c := by
  induction n with
  | zero => show (0 : Fin p) = 0 * c; grind
  | succ n ih => rw [sm_succ, sm_succ, ih]; grind
theorem sm_front (n : Nat) (g : Nat → Fin p) : sm (n + 1) g = g 0 + sm n (fun i => g (i + 1)) := by
  induction n with
  | zero => show 0 + g 0 = g 0 + 0; grind
  | succ n ih => rw [sm_succ, ih, sm_succ]; grind
theorem sm_rev (n : Nat) (g : Nat → Fin p) : sm (n + 1) g = sm (n + 1) (fun i => g (n - i)) := by
  induction n generalizing g with
  | zero => rfl
  | succ n ih =>
    rw [sm_front, ih (fun i => g (i + 1)), sm_succ (n + 1) (fun i => g (n + 1 - i))]
    have : sm (n + 1) (fun i => g (n - i + 1)) = sm (n + 1) (fun i => g (n + 1 - i)) := sm_congr fun i hi => by congr 1; omega
    rw [this, show n + 1 - (n + 1) = 0 by omega]; grind
theorem sm_more {n m : Nat} {g : Nat → Fin p} (h : n ≤ m) (e : ∀ i, n ≤ i → i < m → g i = 0) : sm m g = sm n g := by
  induction m with
  | zero => rw [show n = 0 by omega]
  | succ m ih =>
    by_cases hn : n = m + 1
    · rw [hn]
    · rw [sm_succ, ih (by omega) (fun i h1 h2 => e i h1 (by omega)), e m (by omega) (by omega)]; grind
theorem sm_one {n k : Nat} {g : Nat → Fin p} (hk : k < n) (e : ∀ i, i < n → i ≠ k → g i = 0) : sm n g = g k := by
  induction n with
  | zero => omega
  | succ n ih =>
    rw [sm_succ]
    by_cases h : k = n
    · rw [h, sm_zero (fun i hi => e i (by omega) (by omega))]; grind
    · rw [ih (by omega) (fun i h1 h2 => e i (by omega) h2), e n (by omega) (by omega)]; grind
def co (f : List (Fin p)) (i : Nat) : Fin p := f.getD i 0
theorem co_nil (i : Nat) : co ([] : List (Fin p)) i = 0 := by simp [co]
theorem co_cons_zero (a : Fin p) (f : List (Fin p)) : co (a :: f) 0 = a := by simp [co]
theorem co_cons_succ (a : Fin p) (f : List (Fin p)) (i : Nat) : co (a :: f) (i + 1) = co f i := by simp [co]
theorem co_ge {f : List (Fin p)} {i : Nat} (h : f.length ≤ i) : co f i = 0 := by simp [co, List.getD_eq_getElem?_getD, List.getElem?_eq_none h]
theorem co_lt {f : List (Fin p)} {i : Nat} (h : i < f.length) : co f i = f[i] := by simp [co, List.getD_eq_getElem?_getD, h]
def ev (f : List (Fin p)) (x : Fin p) : Fin p := f.foldr (fun c v => v * x + c) 0
theorem ev_nil (x : Fin p) : ev [] x = 0 := rfl
theorem ev_cons (a : Fin p) (f : List (Fin p)) (x : Fin p) : ev (a :: f) x = ev f x * x + a := rfl
theorem ev_sm (f : List (Fin p)) (x : Fin p) : ∀ n, f.length ≤ n → ev f x = sm n (fun i => co f i * x ^ i) := by
  induction f with
  | nil => intro n _; rw [ev_nil, sm_zero]; intro i _; rw [co_nil]; grind
  | cons a f ih =>
    intro n hn
    obtain ⟨m, rfl⟩ : ∃ m, n = m + 1 := ⟨n - 1, by simp at hn; omega⟩
    rw [ev_cons, sm_front, ih m (by simp at hn; omega), co_cons_zero]
    have : sm m (fun i => co (a :: f) (i + 1) * x ^ (i + 1)) = sm m (fun i => co f i * x ^ i * x) := sm_congr fun i _ => by rw [co_cons_succ]; grind
    rw [this, sm_mul']; grind
def Eqv (f g : List (Fin p)) : Prop := ∀ i, co f i = co g i
theorem Eqv.refl (f : List (Fin p)) : Eqv f f := fun _ => rfl
theorem Eqv.symm {f g : List (Fin p)} (h : Eqv f g) : Eqv g f := fun i => (h i).symm
theorem Eqv.trans {f g k : List (Fin p)} (h : Eqv f g) (h' : Eqv g k) : Eqv f k := fun i => (h i).trans (h' i)
theorem Eqv.ev {f g : List (Fin p)} (h : Eqv f g) (x : Fin p) : ev f x = ev g x := by
  rw [ev_sm f x (max f.length g.length) (by omega), ev_sm g x (max f.length g.length) (by omega)]
  exact sm_congr fun i _ => by rw [h i]
def trim (f : List (Fin p)) : List (Fin p) := f.foldr (fun c r => if r = [] ∧ c = 0 then [] else c :: r) []
theorem trim_nil : trim ([] : List (Fin p)) = [] := rfl
theorem trim_cons (a : Fin p) (f : List (Fin p)) : trim (a :: f) = if trim f = [] ∧ a = 0 then [] else a :: trim f := rfl
theorem trim_co (f : List (Fin p)) : Eqv (trim f) f := by
  induction f with
  | nil => exact Eqv.refl _
  | cons a f ih =>
    intro i
    rw [trim_cons]
    split
    · rename_i h
      obtain ⟨h1, rfl⟩ := h
      cases i with
      | zero => rw [co_nil, co_cons_zero]
      | succ i => rw [co_nil, co_cons_succ, ← ih i, h1, co_nil]
    · cases i with
      | zero => rw [co_cons_zero, co_cons_zero]
      | succ i => rw [co_cons_succ, co_cons_succ, ih i]
theorem trim_eq_nil {f : List (Fin p)} (h : ∀ i, co f i = 0) : trim f = [] := by
  induction f with
  | nil => rfl
  | cons a f ih =>
    rw [trim_cons, if_pos ⟨ih (fun i => by rw [← co_cons_succ a, h]), by rw [← co_cons_zero a f, h]⟩]
theorem trim_congr {f g : List (Fin p)} (h : Eqv f g) : trim f = trim g := by
  induction f generalizing g with
  | nil => rw [trim_nil, trim_eq_nil (fun i => by rw [← h i, co_nil])]
  | cons a f ih =>
    cases g with
    | nil => rw [trim_nil, trim_eq_nil (fun i => by rw [h i, co_nil])]
    | cons b g =>
      have h0 : a = b := by have := h 0; rwa [co_cons_zero, co_cons_zero] at this
      have h1 : Eqv f g := fun i => by have := h (i + 1); rwa [co_cons_succ, co_cons_succ] at this
      rw [trim_cons, trim_cons, ih h1, h0]
theorem trim_trim (f : List (Fin p)) : trim (trim f) = trim f := trim_congr (trim_co f)
theorem trim_length_le (f : List (Fin p)) : (trim f).length ≤ f.length := by
  induction f with
  | nil => simp [trim_nil]
  | cons a f ih => rw [trim_cons]; split <;> simp <;> omega
theorem trim_length_of {f : List (Fin p)} {n : Nat} (h : ∀ i, n ≤ i → co f i = 0) : (trim f).length ≤ n := by
  induction f generalizing n with
  | nil => simp [trim_nil]
  | cons a f ih =>
    rw [trim_cons]
    split
    · simp
    · rename_i hne
      cases n with
      | zero =>
        exfalso; apply hne
        exact ⟨trim_eq_nil fun i => by rw [← co_cons_succ a, h _ (by omega)], by rw [← co_cons_zero a f, h 0 (by omega)]⟩
      | succ n =>
        have := ih (n := n) (fun i hi => by rw [← co_cons_succ a, h _ (by omega)])
        simp; omega
theorem trim_last {f : List (Fin p)} (h : trim f ≠ []) : co f ((trim f).length - 1) ≠ 0 := by
  intro h0
  have hl : 0 < (trim f).length := List.length_pos_iff.2 h
  have := trim_length_of (f := f) (n := (trim f).length - 1) (fun i hi => by
    by_cases e : i = (trim f).length - 1
    · rw [e]; exact h0
    · rw [← trim_co f i]; exact co_ge (by omega))
  omega
def Tr (f : List (Fin p)) : Prop := trim f = f
theorem Tr.trim (f : List (Fin p)) : Tr (trim f) := trim_trim f
theorem Tr.ext {f g : List (Fin p)} (hf : Tr f) (hg : Tr g) (h : Eqv f g) : f = g := by rw [← hf, ← hg, trim_congr h]
theorem Tr.last {f : List (Fin p)} (hf : Tr f) (h : f ≠ []) : co f (f.length - 1) ≠ 0 := by
  have := trim_last (f := f) (by rw [hf]; exact h)
  rwa [hf] at this
def mk (n : Nat) (c : Nat → Fin p) : List (Fin p) := (List.range n).map c
end
section
variable {p : Nat}
theorem mk_length (n : Nat) (c : Nat → Fin p) : (mk n c).length = n := by simp [mk]
end
section
variable {p : Nat} [NeZero p]
theorem co_mk (n : Nat) (c : Nat → Fin p) (i : Nat) : co (mk n c) i = if i < n then c i else 0 := by
  by_cases h : i < n
  · rw [co_lt (by rw [mk_length]; exact h), if_pos h]; simp [mk]
  · rw [co_ge (by rw [mk_length]; omega), if_neg h]
def add (f g : List (Fin p)) : List (Fin p) := mk (max f.length g.length) (fun i => co f i + co g i)
def sub (f g : List (Fin p)) : List (Fin p) := mk (max f.length g.length) (fun i => co f i - co g i)
def smul (c : Fin p) (f : List (Fin p)) : List (Fin p) := f.map (c * ·)
theorem co_add (f g : List (Fin p)) (i : Nat) : co (add f g) i = co f i + co g i := by
  unfold add; rw [co_mk]; split
  · rfl
  · rw [co_ge (f := f) (by omega), co_ge (f := g) (by omega)]; grind
theorem co_sub (f g : List (Fin p)) (i : Nat) : co (sub f g) i = co f i - co g i := by
  unfold sub; rw [co_mk]; split
  · rfl
  · rw [co_ge (f := f) (by omega), co_ge (f := g) (by omega)]; grind
theorem co_smul (c : Fin p) (f : List (Fin p)) (i : Nat) : co (smul c f) i = c * co f i := by
  unfold smul
  by_cases h : i < f.length
  · rw [co_lt (by simpa using h), co_lt h]; simp
  · rw [co_ge (by simp; omega), co_ge (by omega)]; grind
end
section
variable {p : Nat}
theorem smul_length (c : Fin p) (f : List (Fin p)) : (smul c f).length = f.length := by simp [smul]
end
section
variable {p : Nat} [NeZero p]
theorem add_length (f g : List (Fin p)) : (add f g).length = max f.length g.length := mk_length _ _
theorem sub_length (f g : List (Fin p)) : (sub f g).length = max f.length g.length := mk_length _ _
theorem ev_add (f g : List (Fin p)) (x : Fin p) : ev (add f g) x = ev f x + ev g x := by
  rw [ev_sm (add f g) x (max f.length g.length) (by rw [add_length]; omega), ev_sm f x (max f.length g.length) (by omega), ev_sm g x (max f.length g.length) (by omega), ← sm_add]
  exact sm_congr fun i _ => by rw [co_add]; grind
theorem ev_sub (f g : List (Fin p)) (x : Fin p) : ev (sub f g) x = ev f x - ev g x := by
  have h : Eqv (add (sub f g) g) f := fun i => by rw [co_add, co_sub]; grind
  have := h.ev x
  rw [ev_add] at this
  grind
theorem ev_smul (c : Fin p) (f : List (Fin p)) (x : Fin p) : ev (smul c f) x = c * ev f x := by
  rw [ev_sm (smul c f) x f.length (by rw [smul_length]; omega), ev_sm f x f.length (by omega), ← sm_mul]
  exact sm_congr fun i _ => by rw [co_smul]; grind
def cv (c d : Nat → Fin p) (n : Nat) : Fin p := sm (n + 1) (fun i => c i * d (n - i))
theorem cv_congr {c c' d d' : Nat → Fin p} (h : ∀ i, c i = c' i) (h' : ∀ i, d i = d' i) (n : Nat) : cv c d n = cv c' d' n := sm_congr fun i _ => by rw [h, h']
theorem cv_comm (c d : Nat → Fin p) (n : Nat) : cv c d n = cv d c n := by
  unfold cv
  rw [sm_rev]
  exact sm_congr fun i hi => by rw [show n - (n - i) = i by omega]; grind
theorem cv_add (c d d' : Nat → Fin p) (n : Nat) : cv c (fun i => d i + d' i) n = cv c d n + cv c d' n := by
  unfold cv; rw [← sm_add]; exact sm_congr fun i _ => by grind
theorem cv_add' (c c' d : Nat → Fin p) (n : Nat) : cv (fun i => c i + c' i) d n = cv c d n + cv c' d n := by
  unfold cv; rw [← sm_add]; exact sm_congr fun i _ => by grind
theorem cv_mul (a : Fin p) (c d : Nat → Fin p) (n : Nat) : cv (fun i => a * c i) d n = a * cv c d n := by
  unfold cv; rw [← sm_mul]; exact sm_congr fun i _ => by grind
theorem cv_mul' (a : Fin p) (c d : Nat → Fin p) (n : Nat) : cv c (fun i => a * d i) n = a * cv c d n := by
  unfold cv; rw [← sm_mul]; exact sm_congr fun i _ => by grind
def mul : List (Fin p) → List (Fin p) → List (Fin p)
  | [], _ => []
  | a :: f, g => add (smul a g) (0 :: mul f g)
theorem co_mul (f g : List (Fin p)) (n : Nat) : co (mul f g) n = cv (co f) (co g) n := by
  induction f generalizing n with
  | nil => rw [mul, co_nil]; unfold cv; rw [sm_zero]; intro i _; rw [co_nil]; grind
  | cons a f ih =>
    rw [mul, co_add, co_smul]
    unfold cv
    rw [sm_front, co_cons_zero]
    cases n with
    | zero => rw [co_cons_zero]; show a * co g 0 + 0 = a * co g 0 + 0; rfl
    | succ n =>
      rw [co_cons_succ, ih n]
      unfold cv
      congr 1
      exact sm_congr fun i _ => by rw [co_cons_succ, show n + 1 - (i + 1) = n - i by omega]
theorem ev_mul (f g : List (Fin p)) (x : Fin p) : ev (mul f g) x = ev f x * ev g x := by
  induction f with
  | nil => rw [mul, ev_nil]; grind
  | cons a f ih => rw [mul, ev_add, ev_smul, ev_cons, ih, ev_cons]; grind
theorem co_mul_ge {f g : List (Fin p)} {n : Nat} (h : f.length + g.length ≤ n + 1) : co (mul f g) n = 0 := by
  rw [co_mul]; unfold cv
  refine sm_zero fun i hi => ?_
  by_cases h1 : f.length ≤ i
  · rw [co_ge h1]; grind
  · rw [co_ge (f := g) (by omega)]; grind
theorem co_mul_top {f g : List (Fin p)} (hf : f ≠ []) (hg : g ≠ []) : co (mul f g) (f.length + g.length - 2) = co f (f.length - 1) * co g (g.length - 1) := by
  have h1 := List.length_pos_iff.2 hf
  have h2 := List.length_pos_iff.2 hg
  rw [co_mul]; unfold cv
  rw [sm_one (k := f.length - 1) (by omega)]
  · rw [show f.length + g.length - 2 - (f.length - 1) = g.length - 1 by omega]
  · intro i hi hne
    by_cases h : f.length ≤ i
    · rw [co_ge h]; grind
    · rw [co_ge (f := g) (by omega)]; grind
theorem Eqv.add {f f' g g' : List (Fin p)} (h : Eqv f f') (h' : Eqv g g') : Eqv (add f g) (add f' g') := fun i => by rw [co_add, co_add, h i, h' i]
theorem Eqv.sub {f f' g g' : List (Fin p)} (h : Eqv f f') (h' : Eqv g g') : Eqv (sub f g) (sub f' g') := fun i => by rw [co_sub, co_sub, h i, h' i]
theorem Eqv.mul {f f' g g' : List (Fin p)} (h : Eqv f f') (h' : Eqv g g') : Eqv (mul f g) (mul f' g') := fun i => by rw [co_mul, co_mul, cv_congr h h']
theorem Eqv.smul {f f' : List (Fin p)} (c : Fin p) (h : Eqv f f') : Eqv (smul c f) (smul c f') := fun i => by rw [co_smul, co_smul, h i]
theorem mul_comm (f g : List (Fin p)) : Eqv (mul f g) (mul g f) := fun i => by rw [co_mul, co_mul, cv_comm]
theorem mul_add (f g k : List (Fin p)) : Eqv (mul f (Fld.add g k)) (Fld.add (mul f g) (mul f k)) := fun i => by
  rw [co_mul, co_add, co_mul, co_mul, cv_congr (fun _ => rfl) (co_add g k), cv_add]
theorem add_mul (f g k : List (Fin p)) : Eqv (mul (Fld.add f g) k) (Fld.add (mul f k) (mul g k)) := fun i => by
  rw [co_mul, co_add, co_mul, co_mul, cv_congr (co_add f g) (fun _ => rfl), cv_add']
theorem mul_sub (f g k : List (Fin p)) : Eqv (mul f (Fld.sub g k)) (Fld.sub (mul f g) (mul f k)) := fun i => by
  have h : Eqv (Fld.add (Fld.sub g k) k) g := fun i => by rw [co_add, co_sub]; grind
  have h1 := (mul_add f (Fld.sub g k) k).symm.trans ((Eqv.refl f).mul h) i
  rw [co_add] at h1
  rw [co_sub, ← h1]; grind
theorem sub_mul (f g k : List (Fin p)) : Eqv (mul (Fld.sub f g) k) (Fld.sub (mul f k) (mul g k)) :=
  (mul_comm _ _).trans ((mul_sub k f g).trans ((mul_comm _ _).sub (mul_comm _ _)))
theorem smul_mul (c : Fin p) (f g : List (Fin p)) : Eqv (mul (Fld.smul c f) g) (Fld.smul c (mul f g)) := fun i => by
  rw [co_mul, co_smul, co_mul, cv_congr (co_smul c f) (fun _ => rfl), cv_mul]
theorem mul_smul (c : Fin p) (f g : List (Fin p)) : Eqv (mul f (Fld.smul c g)) (Fld.smul c (mul f g)) := fun i => by
  rw [co_mul, co_smul, co_mul, cv_congr (fun _ => rfl) (co_smul c g), cv_mul']
theorem mul_nil (f : List (Fin p)) : Eqv (mul f []) [] := fun i => by
  rw [co_mul, co_nil]; unfold cv; exact sm_zero fun j _ => by rw [co_nil]; grind
theorem mul_one (f : List (Fin p)) : Eqv (mul f [1]) f := fun i => by
  rw [co_mul, cv_comm]; unfold cv
  rw [sm_one (k := 0) (by omega)]
  · rw [co_cons_zero]; show 1 * co f i = co f i; grind
  · intro j _ hj
    obtain ⟨m, rfl⟩ : ∃ m, j = m + 1 := ⟨j - 1, by omega⟩
    rw [co_cons_succ, co_nil]; grind
theorem trim_mul_length (hp : Pr p) {f g : List (Fin p)} (hf : trim f ≠ []) (hg : trim g ≠ []) : (trim (mul f g)).length + 1 = (trim f).length + (trim g).length := by
  have e : Eqv (mul f g) (mul (trim f) (trim g)) := (trim_co f).symm.mul (trim_co g).symm
  rw [trim_congr e]
  have h1 := List.length_pos_iff.2 hf
  have h2 := List.length_pos_iff.2 hg
  have ht := co_mul_top hf hg
  have hn : co (mul (trim f) (trim g)) ((trim f).length + (trim g).length - 2) ≠ 0 := by
    rw [ht]
    intro h
    rcases mul_eq_zero hp h with h | h
    · exact (Tr.trim f).last hf h
    · exact (Tr.trim g).last hg h
  have hle := trim_length_of (f := mul (trim f) (trim g)) (n := (trim f).length + (trim g).length - 1) (fun i hi => co_mul_ge (by omega))
  have hge : (trim f).length + (trim g).length - 2 < (trim (mul (trim f) (trim g))).length := by
    apply Nat.lt_of_not_le
    intro h
    exact hn (by rw [← trim_co]; exact co_ge h)
  omega
theorem trim_mul_le (f g : List (Fin p)) : (trim (mul f g)).length ≤ f.length + g.length - 1 := trim_length_of fun i hi => co_mul_ge (by omega)
end
end Go.Proofs.Ytjjnfobeeflnhaa.Fld
/- The program's words over the residues modulo a number: numbers, rows of coefficients, sums, products, values. -/
namespace Go.Proofs.Ytjjnfobeeflnhaa.L
open Go.RowKit Go.Proofs.YtjjnfobeeflnhaaW.PrintWords Go.Proofs.Ytjjnfobeeflnhaa.J
set_option linter.unusedVariables false
set_option linter.unusedSimpArgs false
section
variable {q : Nat} [NeZero q]
def nI (a : Fin q) : Int := (a.val : Int)
def oI (f : List (Fin q)) : List Int := f.map nI
theorem q_pos : 0 < q := Nat.pos_of_ne_zero (NeZero.ne q)
end
section
variable {q : Nat}
theorem nI_range (a : Fin q) : 0 ≤ nI a ∧ nI a < (q : Int) := by
  have := a.isLt
  unfold nI; omega
theorem nI_inj {a b : Fin q} (h : nI a = nI b) : a = b := Fin.ext (by unfold nI at h; omega)
end
section
variable {q : Nat} [NeZero q]
theorem nI_zero : nI (0 : Fin q) = 0 := by simp [nI]
theorem nI_eq_zero {a : Fin q} : nI a = 0 ↔ a = 0 := ⟨fun h => nI_inj (h.trans nI_zero.symm), fun h => by rw [h, nI_zero]⟩
theorem nI_one (h : 1 < q) : nI (1 : Fin q) = 1 := by
  have : ((1 : Fin q) : Nat) = 1 % q := rfl
  unfold nI; rw [this, Nat.mod_eq_of_lt h]; rfl
end
section
variable {q : Nat}
theorem nI_of {x : Int} (h0 : 0 ≤ x) (h1 : x < (q : Int)) : ∃ a : Fin q, nI a = x := ⟨⟨x.toNat, by omega⟩, by show ((x.toNat : Nat) : Int) = x; omega⟩
theorem nI_mul (a b : Fin q) : nI (a * b) = nI a * nI b % (q : Int) := by
  unfold nI; rw [Fin.val_mul]; simp
theorem nI_add (a b : Fin q) : nI (a + b) = (nI a + nI b) % (q : Int) := by
  unfold nI; rw [Fin.val_add]; simp
theorem nI_sub (a b : Fin q) : nI (a - b) = (nI a + (q : Int) - nI b) % (q : Int) := by
  have hb := b.isLt
  have e : (a - b).val = (q - b.val + a.val) % q := by rw [Fin.sub_def]
  unfold nI; rw [e]
  have : (a.val : Int) + (q : Int) - (b.val : Int) = ((q - b.val + a.val : Nat) : Int) := by omega
  rw [this]; simp
theorem oI_nil : oI ([] : List (Fin q)) = [] := rfl
theorem oI_cons (a : Fin q) (f : List (Fin q)) : oI (a :: f) = nI a :: oI f := rfl
theorem oI_length (f : List (Fin q)) : (oI f).length = f.length := by simp [oI]
theorem oI_of : ∀ {l : List Int}, (∀ c ∈ l, 0 ≤ c ∧ c < (q : Int)) → ∃ f : List (Fin q), oI f = l
  | [], _ => ⟨[], rfl⟩
  | a :: l, h => by
    obtain ⟨x, hx⟩ := nI_of (h a (by simp)).1 (h a (by simp)).2
    obtain ⟨f, hf⟩ := oI_of (l := l) (fun c hc => h c (by simp [hc]))
    exact ⟨x :: f, by rw [oI_cons, hx, hf]⟩
theorem oI_inj : ∀ {f g : List (Fin q)}, oI f = oI g → f = g
  | [], [], _ => rfl
  | [], _ :: _, h => by cases h
  | _ :: _, [], h => by cases h
  | a :: f, b :: g, h => by
    rw [oI_cons, oI_cons] at h
    injection h with h1 h2
    rw [nI_inj h1, oI_inj h2]
theorem oI_range (f : List (Fin q)) : ∀ c ∈ oI f, 0 ≤ c ∧ c < (q : Int) := by
  intro c hc
  obtain ⟨a, _, rfl⟩ := List.mem_map.1 hc
  exact nI_range a
end
section
variable {q : Nat} [NeZero q]
theorem oI_getD (f : List (Fin q)) (i : Nat) : (oI f).getD i 0 = nI (Fld.co f i) := by
  by_cases h : i < f.length
  · rw [Fld.co_lt h]; simp [oI, List.getD_eq_getElem?_getD, h]
  · rw [Fld.co_ge (by omega), nI_zero]; simp [oI, List.getD_eq_getElem?_getD, List.getElem?_eq_none (show f.length ≤ i by omega)]
theorem rd_oI (f : List (Fin q)) (i : Nat) : rd (oI f) (i : Int) = nI (Fld.co f i) := by
  rw [← oI_getD]; simp [rd]
end
section
variable {q : Nat}
theorem oI_set (f : List (Fin q)) (i : Nat) (a : Fin q) : (oI f).set i (nI a) = oI (f.set i a) := by simp [oI, List.map_set]
end
section
variable {q : Nat} [NeZero q]
theorem oI_zeros (n : Nat) : List.replicate n (0 : Int) = oI (List.replicate n (0 : Fin q)) := by simp [oI, nI_zero]
theorem short_oI (f : List (Fin q)) : shortI (oI f) = oI (Fld.trim f) := by
  induction f with
  | nil => rfl
  | cons a f ih =>
    have e : shortI (oI (a :: f)) = if shortI (oI f) = [] ∧ nI a = 0 then [] else nI a :: shortI (oI f) := rfl
    rw [e, ih, Fld.trim_cons]
    by_cases h : Fld.trim f = [] ∧ a = 0
    · rw [if_pos h, if_pos (by rw [h.1, h.2]; exact ⟨rfl, nI_zero⟩)]; rfl
    · rw [if_neg h, if_neg (fun h' => h ⟨oI_inj (h'.1.trans oI_nil.symm), nI_eq_zero.1 h'.2⟩)]; rfl
theorem co_set (f : List (Fin q)) (i : Nat) (a : Fin q) (hi : i < f.length) (s : Nat) : Fld.co (f.set i a) s = if s = i then a else Fld.co f s := by
  unfold Fld.co
  rw [List.getD_eq_getElem?_getD, List.getD_eq_getElem?_getD]
  by_cases h : s = i
  · subst h; rw [if_pos rfl, List.getElem?_set_self hi]; rfl
  · rw [if_neg h, List.getElem?_set_ne (by omega)]
theorem co_zeros (n s : Nat) : Fld.co (List.replicate n (0 : Fin q)) s = 0 := by
  unfold Fld.co
  rw [List.getD_eq_getElem?_getD, List.getElem?_replicate]
  split <;> rfl
theorem co_append (f g : List (Fin q)) (s : Nat) : Fld.co (f ++ g) s = if s < f.length then Fld.co f s else Fld.co g (s - f.length) := by
  unfold Fld.co
  rw [List.getD_eq_getElem?_getD, List.getD_eq_getElem?_getD, List.getD_eq_getElem?_getD]
  by_cases h : s < f.length
  · rw [if_pos h, List.getElem?_append_left h]
  · rw [if_neg h, List.getElem?_append_right (by omega)]
section
variable (hq : q ≤ 65537)
include hq
theorem times_fp (a b : Fin q) : field_Times.f (q : Int) (nI a) (nI b) = some (nI (a * b)) := by
  have hp := q_pos (q := q)
  rw [times_at (by omega) (by omega) (nI_range a).1 (nI_range a).2 (nI_range b).1 (nI_range b).2, nI_mul]
theorem mul_fp (a b : Fin q) : qpb.f (q : Int) (nI a) (nI b) = some (nI (a * b)) := by
  have hp := q_pos (q := q)
  rw [ref_mul (by omega) (by omega) (nI_range a).1 (nI_range a).2 (nI_range b).1 (nI_range b).2, nI_mul]
theorem plus_fp (a b : Fin q) : field_Plus.f (q : Int) (nI a) (nI b) = some (nI (a + b)) := by
  have hp := q_pos (q := q)
  rw [plus_at (by omega) (by omega) (nI_range a).1 (nI_range a).2 (nI_range b).1 (nI_range b).2, nI_add]
theorem add_fp (a b : Fin q) : juntoref01_Add.f (q : Int) (nI a) (nI b) = some (nI (a + b)) := by
  have hp := q_pos (q := q)
  rw [ref_add (by omega) (by omega) (nI_range a).1 (nI_range a).2 (nI_range b).1 (nI_range b).2, nI_add]
theorem fmul_fp (a b : Fin q) : field_mul.f (q : Int) (nI a) (nI b) = some (nI (a * b)) := by
  have := times_fp hq a b
  unfold field_Times.f at this
  generalize field_mul.f (q : Int) (nI a) (nI b) = o at this
  cases o with
  | none => cases this
  | some v => exact this
theorem minus_fp (a b : Fin q) : field_Minus.f (q : Int) (nI a) (nI b) = some (nI (a - b)) := by
  have hp := q_pos (q := q)
  have ha := nI_range a
  have hb := nI_range b
  unfold field_Minus.f
  rw [if_neg (by omega), u64_small (by omega) (by omega), Int.tmod_eq_emod_of_nonneg (by omega)]
  have e : ((q : Int) - nI b) % (q : Int) = nI (0 - b) := by rw [nI_sub, nI_zero, Int.zero_add]
  rw [e, plus_fp hq, Option.bind_some]
  congr 2
  grind
end
theorem short_fp (f : List (Fin q)) (hl : f.length ≤ 1000000000) : Ev (fun k => qwa.f k (oI f)) (oI (Fld.trim f)) := by
  rw [← short_oI]
  exact ⟨f.length + 1, fun k hk => short_spec (oI f) (by rw [oI_length]; omega) k (by rw [oI_length]; omega)⟩
theorem zip_fp (D : Int → Int → Int) (O : Fin q → Fin q → Fin q) (h : ∀ a b : Fin q, D (nI a) (nI b) = nI (O a b)) (f g : List (Fin q)) : zipI D (oI f) (oI g) = oI (Fld.trim (Fld.mk (max f.length g.length) (fun i => O (Fld.co f i) (Fld.co g i)))) := by
  unfold zipI
  rw [← short_oI, oI_length, oI_length]
  unfold Fld.mk oI
  rw [List.map_map]
  congr 1
  apply List.map_congr_left
  intro i _
  show D ((oI f).getD i 0) ((oI g).getD i 0) = nI (O (Fld.co f i) (Fld.co g i))
  rw [oI_getD, oI_getD, h]
theorem plusI_fp (hq : q ≤ 65537) (f g : List (Fin q)) : plusI (q : Int) (oI f) (oI g) = oI (Fld.trim (Fld.add f g)) :=
  zip_fp _ (· + ·) (fun a b => by rw [plus_fp hq]; rfl) f g
theorem at_fp (hq : q ≤ 65537) (f : List (Fin q)) (x : Fin q) : valV (q : Int) (nI x) (oI f) = nI (Fld.ev f x) := by
  induction f with
  | nil => exact nI_zero.symm
  | cons a f ih =>
    rw [Fld.ev_cons, nI_add, nI_mul, ← ih]; rfl
theorem eval_rows (h1 : 1 < q) (hq : q ≤ 65537) (f : List (Fin q)) (x : Fin q) (hf : f.length ≤ 1000000000) : Ev (fun k => qkb.f k (q : Int) (oI f) (nI x)) (nI (Fld.ev f x)) := by
  have := ref_eval (p := (q : Int)) (x := nI x) (by omega) (by omega) (nI_range x).1 (nI_range x).2 (oI f) (by rw [oI_length]; simp only [maxLen]; omega) (oI_range f)
  rwa [at_fp hq] at this
def fill (n j : Nat) (F : Nat → Fin q) : List (Fin q) := Fld.mk n (fun i => if i < j then F i else 0)
theorem fill_zero (n : Nat) (F : Nat → Fin q) : fill n 0 F = List.replicate n 0 := by
  apply List.ext_getElem (by simp [fill, Fld.mk])
  intro i h1 h2
  simp [fill, Fld.mk]
theorem fill_length (n j : Nat) (F : Nat → Fin q) : (fill n j F).length = n := Fld.mk_length _ _
theorem fill_set (n j : Nat) (F : Nat → Fin q) : (fill n j F).set j (F j) = fill n (j + 1) F := by
  apply List.ext_getElem (by simp [fill, Fld.mk])
  intro i h1 h2
  simp only [fill, Fld.mk, List.getElem_set, List.getElem_map, List.getElem_range]
  by_cases h : j = i
  · rw [if_pos h, if_pos (by omega), h]
  · rw [if_neg h]
    by_cases h' : i < j
    · rw [if_pos h', if_pos (by omega)]
    · rw [if_neg h', if_neg (by omega)]
theorem fill_all (n : Nat) (F : Nat → Fin q) : fill n n F = Fld.mk n F := by
  apply List.ext_getElem (by simp [fill, Fld.mk])
  intro i h1 h2
  have : i < n := by simpa [fill, Fld.mk] using h1
  simp [fill, Fld.mk, this]
theorem by_loop (hq : q ≤ 65537) (f : List (Fin q)) (c : Fin q) (hf : f.length ≤ 1000000000) : ∀ (m i : Nat), i + m = f.length →
    Ev (fun k => poly_By.l0 k (q : Int) (nI c) (oI (fill f.length i fun j => Fld.co f j * c)) (oI f) (f.length : Int) (i : Int)) (oI (Fld.trim (Fld.mk f.length fun j => Fld.co f j * c)))
  | 0, i, hi => by
    obtain rfl : i = f.length := by omega
    refine Ev.step (f := fun k => (qwa.f k (oI (Fld.mk f.length fun j => Fld.co f j * c))).bind fun t => some t) (fun k => ?_) (Ev.bind (short_fp _ (by rw [Fld.mk_length]; exact hf)) (Ev.now _))
    simp only [poly_By.l0]
    rw [if_neg (by omega), fill_all]
  | m + 1, i, hi => by
    refine Ev.step (f := fun k => poly_By.l0 k (q : Int) (nI c) (oI (fill f.length (i + 1) fun j => Fld.co f j * c)) (oI f) (f.length : Int) ((i + 1 : Nat) : Int)) (fun k => ?_) (by_loop hq f c hf m (i + 1) (by omega))
    conv => lhs; simp only [poly_By.l0]
    rw [if_pos (by omega), if_pos (by omega), if_pos (by rw [oI_length]; omega), rd_oI, times_fp hq, Option.bind_some, if_pos (by rw [oI_length, fill_length]; omega), Int.toNat_natCast, oI_set, fill_set f.length i (fun j => Fld.co f j * c), w64_small (by omega) (by omega)]
    rfl
theorem by_rows (hq : q ≤ 65537) (f : List (Fin q)) (c : Fin q) (hf : f.length ≤ 1000000000) : Ev (fun k => poly_By.f k (q : Int) (oI f) (nI c)) (oI (Fld.trim (Fld.smul c f))) := by
  have e : Fld.Eqv (Fld.mk f.length fun j => Fld.co f j * c) (Fld.smul c f) := fun i => by
    rw [Fld.co_mk, Fld.co_smul]
    split
    · grind
    · rw [Fld.co_ge (f := f) (by omega)]; grind
  rw [← Fld.trim_congr e]
  have h := by_loop hq f c hf f.length 0 (by omega)
  rw [fill_zero, ← oI_zeros] at h
  refine Ev.congr (fun k => ?_) h
  unfold poly_By.f
  rw [oI_length, if_pos (by omega), if_pos (by omega), Int.toNat_natCast]
  rfl
def part (f g : List (Fin q)) (i s : Nat) : Fin q := Fld.sm i (fun j => if j ≤ s then Fld.co f j * Fld.co g (s - j) else 0)
theorem part_all (f g : List (Fin q)) (n s : Nat) (h : f.length ≤ n) : part f g n s = Fld.co (Fld.mul f g) s := by
  rw [Fld.co_mul]
  unfold part Fld.cv
  have e : Fld.sm (max n (s + 1)) (fun j => if j ≤ s then Fld.co f j * Fld.co g (s - j) else 0) = Fld.sm n (fun j => if j ≤ s then Fld.co f j * Fld.co g (s - j) else 0) := Fld.sm_more (by omega) fun i h1 h2 => by
    rw [Fld.co_ge (f := f) (by omega)]; split <;> grind
  have e' : Fld.sm (max n (s + 1)) (fun j => if j ≤ s then Fld.co f j * Fld.co g (s - j) else 0) = Fld.sm (s + 1) (fun j => if j ≤ s then Fld.co f j * Fld.co g (s - j) else 0) := Fld.sm_more (by omega) fun i h1 h2 => by
    rw [if_neg (by omega)]
  rw [← e, e']
  exact Fld.sm_congr fun i hi => by rw [if_pos (by omega)]
def At2 (f g h : List (Fin q)) (i k : Nat) : Prop := ∀ s, Fld.co h s = part f g i s + (if i ≤ s ∧ s < i + k then Fld.co f i * Fld.co g (s - i) else 0)
theorem At2.start (f g : List (Fin q)) (n : Nat) : At2 f g (List.replicate n 0) 0 0 := fun s => by
  rw [co_zeros, if_neg (by omega)]; show (0 : Fin q) = 0 + 0; grind
theorem At2.next {f g h : List (Fin q)} {i k : Nat} (H : At2 f g h i k) (hk : i + k < h.length) : At2 f g (h.set (i + k) (Fld.co h (i + k) + Fld.co f i * Fld.co g k)) i (k + 1) := fun s => by
  rw [co_set _ _ _ hk]
  by_cases e : s = i + k
  · subst e
    rw [if_pos rfl, H (i + k), if_neg (by omega), if_pos (by omega), show i + k - i = k by omega]; grind
  · rw [if_neg e, H s]
    by_cases e' : i ≤ s ∧ s < i + k
    · rw [if_pos e', if_pos (by omega)]
    · rw [if_neg e', if_neg (by omega)]
theorem At2.round {f g h : List (Fin q)} {i k : Nat} (H : At2 f g h i k) (hk : g.length ≤ k) : At2 f g h (i + 1) 0 := fun s => by
  rw [H s, if_neg (by omega : ¬ (i + 1 ≤ s ∧ s < i + 1 + 0))]
  have e : part f g (i + 1) s = part f g i s + (if i ≤ s then Fld.co f i * Fld.co g (s - i) else 0) := rfl
  rw [e]
  by_cases h1 : i ≤ s
  · by_cases h2 : s < i + k
    · rw [if_pos ⟨h1, h2⟩, if_pos h1]; grind
    · rw [if_neg (by omega), if_pos h1, Fld.co_ge (f := g) (by omega)]; grind
  · rw [if_neg (by omega), if_neg h1]; grind
theorem At2.last {f g h : List (Fin q)} {i : Nat} (H : At2 f g h i 0) (hi : f.length ≤ i) : Fld.trim h = Fld.trim (Fld.mul f g) := Fld.trim_congr fun s => by
  rw [H s, if_neg (by omega), part_all f g i s hi]; grind
theorem times_inner (hq : q ≤ 65537) (f g : List (Fin q)) (i : Nat) (hi : i < f.length) (hf : f.length ≤ 1000000) (hg : g.length ≤ 1000000) {r : List Int} (next : ∀ h : List (Fin q), h.length = f.length + g.length - 1 → At2 f g h (i + 1) 0 → Ev (fun k => qcb.l0 k (q : Int) (oI g) (oI h) (oI f) (f.length : Int) ((i + 1 : Nat) : Int)) r) : ∀ (m j : Nat) (h : List (Fin q)), j + m = g.length → h.length = f.length + g.length - 1 → At2 f g h i j →
    Ev (fun k => qcb.l1 k (q : Int) (oI g) (oI h) (i : Int) (nI (Fld.co f i)) (oI f) (f.length : Int) (i : Int) (oI g) (g.length : Int) (j : Int)) r
  | 0, j, h, hj, hh, H => by
    refine Ev.step (f := fun k => qcb.l0 k (q : Int) (oI g) (oI h) (oI f) (f.length : Int) ((i + 1 : Nat) : Int)) (fun k => ?_) (next h hh (H.round (by omega)))
    conv => lhs; simp only [qcb.l1]
    rw [if_neg (by omega), w64_small (by omega) (by omega)]
    rfl
  | m + 1, j, h, hj, hh, H => by
    refine Ev.step (f := fun k => qcb.l1 k (q : Int) (oI g) (oI (h.set (i + j) (Fld.co h (i + j) + Fld.co f i * Fld.co g j))) (i : Int) (nI (Fld.co f i)) (oI f) (f.length : Int) (i : Int) (oI g) (g.length : Int) ((j + 1 : Nat) : Int)) (fun k => ?_) (times_inner hq f g i hi hf hg next m (j + 1) _ (by omega) (by rw [List.length_set]; exact hh) (H.next (by omega)))
    conv => lhs; simp only [qcb.l1]
    have hw : wrap64 ((i : Int) + (j : Int)) = ((i + j : Nat) : Int) := by rw [w64_small (by omega) (by omega)]; omega
    rw [if_pos (by omega), if_pos (by omega), if_pos (by rw [oI_length]; omega), hw, if_pos (by omega), if_pos (by rw [oI_length]; omega), rd_oI, rd_oI, times_fp hq, Option.bind_some, plus_fp hq, Option.bind_some, Int.toNat_natCast, oI_set, w64_small (by omega) (by omega)]
    rfl
theorem times_outer (hq : q ≤ 65537) (f g : List (Fin q)) (hf : f.length ≤ 1000000) (hg : g.length ≤ 1000000) : ∀ (m i : Nat) (h : List (Fin q)), i + m = f.length → h.length = f.length + g.length - 1 → At2 f g h i 0 →
    Ev (fun k => qcb.l0 k (q : Int) (oI g) (oI h) (oI f) (f.length : Int) (i : Int)) (oI (Fld.trim (Fld.mul f g)))
  | 0, i, h, hi, hh, H => by
    rw [← H.last (by omega)]
    refine Ev.step (f := fun k => (qwa.f k (oI h)).bind fun t => some t) (fun k => ?_) (Ev.bind (short_fp _ (by omega)) (Ev.now _))
    simp only [qcb.l0]
    rw [if_neg (by omega)]
  | m + 1, i, h, hi, hh, H => by
    refine Ev.step (f := fun k => qcb.l1 k (q : Int) (oI g) (oI h) (i : Int) (nI (Fld.co f i)) (oI f) (f.length : Int) (i : Int) (oI g) (g.length : Int) 0) (fun k => ?_) (times_inner hq f g i (by omega) hf hg (fun h' hh' H' => times_outer hq f g hf hg m (i + 1) h' (by omega) hh' H') g.length 0 h (by omega) hh H)
    conv => lhs; simp only [qcb.l0]
    rw [if_pos (by omega), if_pos (by omega), if_pos (by rw [oI_length]; omega), rd_oI, oI_length]
theorem mul_nil_left (g : List (Fin q)) : Fld.mul [] g = [] := rfl
theorem times_rows (hq : q ≤ 65537) (f g : List (Fin q)) (hf : f.length ≤ 1000000) (hg : g.length ≤ 1000000) : Ev (fun k => qcb.f k (q : Int) (oI f) (oI g)) (oI (Fld.trim (Fld.mul f g))) := by
  by_cases h0 : f = [] ∨ g = []
  · have e : Fld.trim (Fld.mul f g) = [] := by
      rcases h0 with rfl | rfl
      · rfl
      · rw [Fld.trim_congr (Fld.mul_nil f)]; rfl
    rw [e]
    refine Ev.step (f := fun k => some []) (fun k => ?_) (Ev.now _)
    unfold qcb.f
    rcases h0 with rfl | rfl
    · rw [if_pos (by rfl)]
      simp only [qcb.j0, if_true]
    · by_cases hf0 : ((oI f).length : Int) = 0
      · rw [if_pos hf0]
        simp only [qcb.j0, if_true]
      · rw [if_neg hf0]
        simp [qcb.j0, oI_nil]
  · have hf0 : 0 < f.length := List.length_pos_iff.2 (fun e => h0 (.inl e))
    have hg0 : 0 < g.length := List.length_pos_iff.2 (fun e => h0 (.inr e))
    refine Ev.step (f := fun k => qcb.l0 k (q : Int) (oI g) (oI (List.replicate (f.length + g.length - 1) 0)) (oI f) (f.length : Int) ((0 : Nat) : Int)) (fun k => ?_) (times_outer hq f g hf hg f.length 0 _ (by omega) (by simp) (At2.start f g _))
    unfold qcb.f
    have hb : (((oI g).length : Int) == 0) = false := by rw [oI_length, beq_eq_false_iff_ne]; omega
    have hw : wrap64 (wrap64 (((oI f).length : Int) + ((oI g).length : Int)) - 1) = ((f.length + g.length - 1 : Nat) : Int) := by
      rw [oI_length, oI_length, w64_small (n := (f.length : Int) + (g.length : Int)) (by omega) (by omega), w64_small (by omega) (by omega)]; omega
    rw [if_neg (by rw [oI_length]; omega), hb]
    simp only [qcb.j0, Bool.false_eq_true, if_false]
    rw [hw, if_pos (by omega), Int.toNat_natCast, if_pos (by omega), ← oI_zeros, oI_length]
    rfl
theorem pow_loop (hq : q ≤ 65537) : ∀ (n : Nat) (e : Nat) (a y : Fin q), e ≤ n → e ≤ 65537 → Ev (fun k => field_pow.l0 k (q : Int) (nI a) (e : Int) (nI y)) (nI (y * a ^ e))
  | 0, e, a, y, h, he => by
    obtain rfl : e = 0 := by omega
    rw [show y * a ^ 0 = y by grind]
    refine Ev.step (f := fun k => some (nI y)) (fun k => ?_) (Ev.now _)
    simp only [field_pow.l0]
    rw [if_neg (by omega)]
  | n + 1, e, a, y, h, he => by
    by_cases h0 : e = 0
    · subst h0
      rw [show y * a ^ 0 = y by grind]
      refine Ev.step (f := fun k => some (nI y)) (fun k => ?_) (Ev.now _)
      simp only [field_pow.l0]
      rw [if_neg (by omega)]
    · have hd : ((e : Int) / 2) = ((e / 2 : Nat) : Int) := by omega
      have hb : Go.bits .and .u64 (e : Int) 1 = ((e % 2 : Nat) : Int) := by rw [and_one_u64 (e : Int) (by omega) (by omega)]; omega
      by_cases h1 : e % 2 = 1
      · have ee : y * a ^ e = y * a * (a * a) ^ (e / 2) := by
          have : e = 2 * (e / 2) + 1 := by omega
          rw [Fld.pow_double]
          generalize e / 2 = z at *
          subst this
          grind
        rw [ee]
        refine Ev.step (f := fun k => field_pow.l0 k (q : Int) (nI (a * a)) ((e / 2 : Nat) : Int) (nI (y * a))) (fun k => ?_) (pow_loop hq n (e / 2) (a * a) (y * a) (by omega) (by omega))
        conv => lhs; simp only [field_pow.l0]
        rw [if_pos (by omega), hb, h1, if_pos (by rfl), fmul_fp hq, Option.bind_some, fmul_fp hq, Option.bind_some, hd]
      · have ee : y * a ^ e = y * (a * a) ^ (e / 2) := by
          have : e = 2 * (e / 2) := by omega
          rw [Fld.pow_double]
          generalize e / 2 = z at *
          subst this
          rfl
        rw [ee]
        refine Ev.step (f := fun k => field_pow.l0 k (q : Int) (nI (a * a)) ((e / 2 : Nat) : Int) (nI y)) (fun k => ?_) (pow_loop hq n (e / 2) (a * a) y (by omega) (by omega))
        conv => lhs; simp only [field_pow.l0]
        rw [if_pos (by omega), hb, if_neg (by omega), fmul_fp hq, Option.bind_some, hd]
theorem over_fp (h1 : 2 < q) (hq : q ≤ 65537) (a : Fin q) : Ev (fun k => field_Over.f k (q : Int) (nI a)) (nI (Fld.inv a)) := by
  unfold field_Over.f field_pow.f
  rw [u64_small (by omega) (by omega)]
  have e : ((q : Int) - 2) = ((q - 2 : Nat) : Int) := by omega
  have e1 : (1 : Int) % (q : Int) = nI (1 : Fin q) := by rw [nI_one (by omega), Int.emod_eq_of_lt (by omega) (by omega)]
  have e2 : Fld.inv a = 1 * a ^ (q - 2) := by unfold Fld.inv; grind
  rw [e, e1, e2]
  refine Ev.bind (f := fun k t => some t) (a := nI (1 * a ^ (q - 2))) ?_ (Ev.now _)
  refine Ev.congr (fun k => if_neg (by omega)) (pow_loop hq (q - 2) (q - 2) a 1 (Nat.le_refl _) (by omega))
end
end Go.Proofs.Ytjjnfobeeflnhaa.L
/- Rows drawn from a tape, rows without noughts at the end, rows compared: what the words tell. -/
namespace Go.Proofs.Ytjjnfobeeflnhaa.L
open Go.RowKit Go.Proofs.YtjjnfobeeflnhaaW.PrintWords Go.Proofs.Ytjjnfobeeflnhaa.J
set_option linter.unusedVariables false
set_option linter.unusedSimpArgs false
theorem same_loop (a b : List Int) (hl : a.length = b.length) (hs : a.length ≤ maxLen) : ∀ (m i : Nat), i + m = a.length → Ev (fun k => qqa.l0 k a b (a.length : Int) (i : Int)) (decide (a.drop i = b.drop i))
  | 0, i, hi => by
    have e : a.drop i = b.drop i := by rw [List.drop_of_length_le (by omega), List.drop_of_length_le (by omega)]
    rw [decide_eq_true e]
    refine Ev.step (f := fun k => some true) (fun k => ?_) (Ev.now _)
    simp only [qqa.l0]
    rw [if_neg (by omega)]
  | m + 1, i, hi => by
    have hm : (a.length : Int) ≤ 9223372036854775807 := by simp only [maxLen] at hs; omega
    have h1 : i < a.length := by omega
    have h2 : i < b.length := by omega
    have ra : rd a (i : Int) = a[i] := by simp [rd, List.getD_eq_getElem?_getD, h1]
    have rb : rd b (i : Int) = b[i] := by simp [rd, List.getD_eq_getElem?_getD, h2]
    by_cases e : a[i] = b[i]
    · have e2 : decide (a.drop i = b.drop i) = decide (a.drop (i + 1) = b.drop (i + 1)) := by
        rw [List.drop_eq_getElem_cons h1, List.drop_eq_getElem_cons h2, e]
        exact decide_eq_decide.2 ⟨fun h => (List.cons.inj h).2, fun h => by rw [h]⟩
      rw [e2]
      refine Ev.step (f := fun k => qqa.l0 k a b (a.length : Int) ((i + 1 : Nat) : Int)) (fun k => ?_) (same_loop a b hl hs m (i + 1) (by omega))
      conv => lhs; simp only [qqa.l0]
      rw [if_pos (by omega), if_pos (by omega), if_pos (by omega), if_pos (by omega), ra, rb, if_pos e, w64_small (by omega) (by omega)]
      rfl
    · have e2 : decide (a.drop i = b.drop i) = false := by
        rw [List.drop_eq_getElem_cons h1, List.drop_eq_getElem_cons h2]
        exact decide_eq_false fun h => e (List.cons.inj h).1
      rw [e2]
      refine Ev.step (f := fun k => some false) (fun k => ?_) (Ev.now _)
      simp only [qqa.l0]
      rw [if_pos (by omega), if_pos (by omega), if_pos (by omega), if_pos (by omega), ra, rb, if_neg e]
theorem same_at (a b : List Int) (hs : a.length ≤ maxLen) : Ev (fun k => qqa.f k a b) (decide (a = b)) := by
  unfold qqa.f
  by_cases h : a.length = b.length
  · have := same_loop a b h hs a.length 0 (by omega)
    rw [List.drop_zero, List.drop_zero] at this
    exact Ev.congr (fun k => if_pos (by omega)) this
  · rw [decide_eq_false (fun e => h (by rw [e]))]
    exact Ev.congr (fun k => if_neg (by omega)) (Ev.now _)
theorem same_self (a : List Int) (hs : a.length ≤ maxLen) : Ev (fun k => qqa.f k a a) true := by
  have := same_at a a hs
  rwa [decide_eq_true rfl] at this
theorem trim_loop (l : List Int) (hl : l.length < 17592186044416) : ∀ (n : Nat), n ≤ l.length → Ev (fun k => qib.l0 k l (n : Int)) (shortI (l.take n))
  | 0, _ => by
    refine Ev.step (f := fun k => some []) (fun k => ?_) (Ev.now _)
    simp only [qib.l0]
    rw [if_neg (by omega)]
    simp
  | n + 1, hn => by
    have hw : wrap64 (((n + 1 : Nat) : Int) - 1) = (n : Int) := by unfold wrap64; omega
    have hr : rd l (n : Int) = l[n] := by simp [rd, List.getD_eq_getElem?_getD, show n < l.length by omega]
    rw [List.take_succ_eq_append_getElem (by omega), shortI_snoc]
    by_cases hz : l[n] = 0
    · rw [if_pos hz]
      refine Ev.step (f := fun k => qib.l0 k l (n : Int)) (fun k => ?_) (trim_loop l hl n (by omega))
      conv => lhs; simp only [qib.l0]
      rw [hw, if_pos (by omega), if_pos (by omega), if_pos (by omega), hr, if_pos hz]
    · rw [if_neg hz]
      refine Ev.step (f := fun k => some (l.take n ++ [l[n]])) (fun k => ?_) (Ev.now _)
      conv => lhs; simp only [qib.l0]
      rw [hw, if_pos (by omega), if_pos (by omega), if_pos (by omega), hr, if_neg hz, Option.bind_some, if_pos (by omega), if_pos (by omega)]
      rw [show (((n + 1 : Nat) : Int)).toNat = n + 1 by omega, List.take_succ_eq_append_getElem (by omega)]
      rw [if_pos (by simp; omega)]; rfl
theorem trim_at (l : List Int) (hl : l.length < 17592186044416) : Ev (fun k => qib.f k l) (shortI l) := by
  have := trim_loop l hl l.length (Nat.le_refl _)
  rw [List.take_length] at this
  exact this
section
variable {q : Nat} [NeZero q]
theorem trim_fp (f : List (Fin q)) (hl : f.length ≤ 1000000000) : Ev (fun k => qib.f k (oI f)) (oI (Fld.trim f)) := by
  rw [← short_oI]
  exact trim_at _ (by rw [oI_length]; omega)
def resid (q : Nat) [NeZero q] (x : Int) : Fin q := Fin.ofNat q (x % (q : Int)).toNat
def drawn (q : Nat) [NeZero q] (tape : List Int) (n : Nat) : List (Fin q) := Fld.mk n (fun i => resid q (tape.getD i 0))
end
end Go.Proofs.Ytjjnfobeeflnhaa.L
/- The reference's words over the residues modulo a prime: sums, differences, products, inverses. -/
namespace Go.Proofs.Ytjjnfobeeflnhaa.L
open Go.RowKit Go.Proofs.YtjjnfobeeflnhaaW.PrintWords Go.Proofs.Ytjjnfobeeflnhaa.J
set_option linter.unusedVariables false
set_option linter.unusedSimpArgs false
section
variable {q : Nat} [NeZero q]
theorem cof_fp (f : List (Fin q)) (i : Nat) : juntoref02_at.f (oI f) (i : Int) = some (nI (Fld.co f i)) := by
  unfold juntoref02_at.f
  rw [oI_length]
  by_cases h : i < f.length
  · rw [if_pos (by omega), if_pos (by omega), rd_oI]
  · rw [if_neg (by omega), Fld.co_ge (by omega), nI_zero]
theorem add_loop (hq : q ≤ 65537) (f g : List (Fin q)) (n : Nat) (hn : n ≤ 1000000000) : ∀ (m i : Nat), i + m = n →
    Ev (fun k => qxa.l0 k (q : Int) (oI f) (oI g) (oI (fill n i fun j => Fld.co f j + Fld.co g j)) (n : Int) (i : Int)) (oI (Fld.trim (Fld.mk n fun j => Fld.co f j + Fld.co g j)))
  | 0, i, hi => by
    obtain rfl : i = n := by omega
    refine Ev.step (f := fun k => (qib.f k (oI (Fld.mk i fun j => Fld.co f j + Fld.co g j))).bind fun t => some t) (fun k => ?_) (Ev.bind (trim_fp _ (by rw [Fld.mk_length]; exact hn)) (Ev.now _))
    simp only [qxa.l0]
    rw [if_neg (by omega), fill_all]
  | m + 1, i, hi => by
    refine Ev.step (f := fun k => qxa.l0 k (q : Int) (oI f) (oI g) (oI (fill n (i + 1) fun j => Fld.co f j + Fld.co g j)) (n : Int) ((i + 1 : Nat) : Int)) (fun k => ?_) (add_loop hq f g n hn m (i + 1) (by omega))
    conv => lhs; simp only [qxa.l0]
    rw [if_pos (by omega), cof_fp, Option.bind_some, cof_fp, Option.bind_some, add_fp hq, Option.bind_some, if_pos (by omega), if_pos (by rw [oI_length, fill_length]; omega), Int.toNat_natCast, oI_set, fill_set n i (fun j => Fld.co f j + Fld.co g j), w64_small (by omega) (by omega)]
    rfl
theorem add_rows (hq : q ≤ 65537) (f g : List (Fin q)) (hf : f.length ≤ 1000000000) (hg : g.length ≤ 1000000000) : Ev (fun k => qxa.f k (q : Int) (oI f) (oI g)) (oI (Fld.trim (Fld.add f g))) := by
  have h := add_loop hq f g (max f.length g.length) (by omega) (max f.length g.length) 0 (by omega)
  rw [fill_zero, ← oI_zeros] at h
  refine Ev.congr (fun k => ?_) h
  have e : mx ((oI f).length : Int) ((oI g).length : Int) = ((max f.length g.length : Nat) : Int) := by
    rw [oI_length, oI_length]; unfold mx; split <;> omega
  unfold qxa.f
  rw [e, if_pos (by omega), Int.toNat_natCast, if_pos (by omega), Option.bind_some]
  simp
theorem scale_loop (hq : q ≤ 65537) (f : List (Fin q)) (c : Fin q) (hf : f.length ≤ 1000000000) : ∀ (m i : Nat), i + m = f.length →
    Ev (fun k => qdb.l0 k (q : Int) (oI f) (nI c) (oI (fill f.length i fun j => Fld.co f j * c)) (f.length : Int) (i : Int)) (oI (Fld.trim (Fld.mk f.length fun j => Fld.co f j * c)))
  | 0, i, hi => by
    obtain rfl : i = f.length := by omega
    refine Ev.step (f := fun k => (qib.f k (oI (Fld.mk f.length fun j => Fld.co f j * c))).bind fun t => some t) (fun k => ?_) (Ev.bind (trim_fp _ (by rw [Fld.mk_length]; exact hf)) (Ev.now _))
    simp only [qdb.l0]
    rw [if_neg (by omega), fill_all]
  | m + 1, i, hi => by
    refine Ev.step (f := fun k => qdb.l0 k (q : Int) (oI f) (nI c) (oI (fill f.length (i + 1) fun j => Fld.co f j * c)) (f.length : Int) ((i + 1 : Nat) : Int)) (fun k => ?_) (scale_loop hq f c hf m (i + 1) (by omega))
    conv => lhs; simp only [qdb.l0]
    rw [if_pos (by omega), if_pos (by omega), if_pos (by rw [oI_length]; omega), rd_oI, mul_fp hq, Option.bind_some, if_pos (by rw [oI_length, fill_length]; omega), Int.toNat_natCast, oI_set, fill_set f.length i (fun j => Fld.co f j * c), w64_small (by omega) (by omega)]
    rfl
theorem scale_rows (hq : q ≤ 65537) (f : List (Fin q)) (c : Fin q) (hf : f.length ≤ 1000000000) : Ev (fun k => qdb.f k (q : Int) (oI f) (nI c)) (oI (Fld.trim (Fld.smul c f))) := by
  have e : Fld.Eqv (Fld.mk f.length fun j => Fld.co f j * c) (Fld.smul c f) := fun i => by
    rw [Fld.co_mk, Fld.co_smul]
    split
    · grind
    · rw [Fld.co_ge (f := f) (by omega)]; grind
  rw [← Fld.trim_congr e]
  have h := scale_loop hq f c hf f.length 0 (by omega)
  rw [fill_zero, ← oI_zeros] at h
  refine Ev.congr (fun k => ?_) h
  unfold qdb.f
  rw [oI_length, if_pos (by omega), if_pos (by omega), Int.toNat_natCast]
  rfl
theorem minus_one (h1 : 1 < q) (hq : q ≤ 65537) : IntKind.u64.wrap ((q : Int) - 1) = nI (0 - 1 : Fin q) := by
  rw [u64_small (by omega) (by omega), nI_sub, nI_zero, nI_one h1, Int.zero_add, Int.emod_eq_of_lt (by omega) (by omega)]
theorem sub_rows (h1 : 1 < q) (hq : q ≤ 65537) (f g : List (Fin q)) (hf : f.length ≤ 1000000000) (hg : g.length ≤ 1000000000) : Ev (fun k => juntoref02_Sub.f k (q : Int) (oI f) (oI g)) (oI (Fld.trim (Fld.sub f g))) := by
  have e : Fld.Eqv (Fld.add f (Fld.trim (Fld.smul (0 - 1) g))) (Fld.sub f g) := fun i => by
    rw [Fld.co_add, Fld.co_sub, Fld.trim_co _ i, Fld.co_smul]; grind
  rw [← Fld.trim_congr e]
  unfold juntoref02_Sub.f
  rw [minus_one h1 hq]
  refine Ev.bind (scale_rows hq g (0 - 1) hg) (Ev.bind (add_rows hq f _ hf ?_) (Ev.now _))
  have := Fld.trim_length_le (Fld.smul (0 - 1) g)
  rw [Fld.smul_length] at this
  omega
theorem rmul_inner (hq : q ≤ 65537) (f g : List (Fin q)) (i : Nat) (hi : i < f.length) (hf : f.length ≤ 1000000) (hg : g.length ≤ 1000000) {r : List Int} (next : ∀ h : List (Fin q), h.length = f.length + g.length → At2 f g h (i + 1) 0 → Ev (fun k => qra.l0 k (q : Int) (oI f) (oI g) (oI h) (f.length : Int) ((i + 1 : Nat) : Int)) r) : ∀ (m j : Nat) (h : List (Fin q)), j + m = g.length → h.length = f.length + g.length → At2 f g h i j →
    Ev (fun k => qra.l1 k (q : Int) (oI f) (oI g) (oI h) (i : Int) (f.length : Int) (i : Int) (g.length : Int) (j : Int)) r
  | 0, j, h, hj, hh, H => by
    refine Ev.step (f := fun k => qra.l0 k (q : Int) (oI f) (oI g) (oI h) (f.length : Int) ((i + 1 : Nat) : Int)) (fun k => ?_) (next h hh (H.round (by omega)))
    conv => lhs; simp only [qra.l1]
    rw [if_neg (by omega), w64_small (by omega) (by omega)]
    rfl
  | m + 1, j, h, hj, hh, H => by
    refine Ev.step (f := fun k => qra.l1 k (q : Int) (oI f) (oI g) (oI (h.set (i + j) (Fld.co h (i + j) + Fld.co f i * Fld.co g j))) (i : Int) (f.length : Int) (i : Int) (g.length : Int) ((j + 1 : Nat) : Int)) (fun k => ?_) (rmul_inner hq f g i hi hf hg next m (j + 1) _ (by omega) (by rw [List.length_set]; exact hh) (H.next (by omega)))
    conv => lhs; simp only [qra.l1]
    have hw : wrap64 ((i : Int) + (j : Int)) = ((i + j : Nat) : Int) := by rw [w64_small (by omega) (by omega)]; omega
    rw [if_pos (by omega), hw, if_pos (by omega), if_pos (by rw [oI_length]; omega), if_pos (by omega), if_pos (by rw [oI_length]; omega), if_pos (by omega), if_pos (by rw [oI_length]; omega), rd_oI, rd_oI, rd_oI, mul_fp hq, Option.bind_some, add_fp hq, Option.bind_some, Int.toNat_natCast, oI_set, w64_small (by omega) (by omega)]
    rfl
theorem rmul_outer (hq : q ≤ 65537) (f g : List (Fin q)) (hf : f.length ≤ 1000000) (hg : g.length ≤ 1000000) : ∀ (m i : Nat) (h : List (Fin q)), i + m = f.length → h.length = f.length + g.length → At2 f g h i 0 →
    Ev (fun k => qra.l0 k (q : Int) (oI f) (oI g) (oI h) (f.length : Int) (i : Int)) (oI (Fld.trim (Fld.mul f g)))
  | 0, i, h, hi, hh, H => by
    rw [← H.last (by omega)]
    refine Ev.step (f := fun k => (qib.f k (oI h)).bind fun t => some t) (fun k => ?_) (Ev.bind (trim_fp _ (by omega)) (Ev.now _))
    simp only [qra.l0]
    rw [if_neg (by omega)]
  | m + 1, i, h, hi, hh, H => by
    refine Ev.step (f := fun k => qra.l1 k (q : Int) (oI f) (oI g) (oI h) (i : Int) (f.length : Int) (i : Int) (g.length : Int) ((0 : Nat) : Int)) (fun k => ?_) (rmul_inner hq f g i (by omega) hf hg (fun h' hh' H' => rmul_outer hq f g hf hg m (i + 1) h' (by omega) hh' H') g.length 0 h (by omega) hh H)
    conv => lhs; simp only [qra.l0]
    rw [if_pos (by omega), oI_length]
    rfl
theorem rmul_rows (hq : q ≤ 65537) (f g : List (Fin q)) (hf : f.length ≤ 1000000) (hg : g.length ≤ 1000000) : Ev (fun k => qra.f k (q : Int) (oI f) (oI g)) (oI (Fld.trim (Fld.mul f g))) := by
  refine Ev.congr (fun k => ?_) (rmul_outer hq f g hf hg f.length 0 (List.replicate (f.length + g.length) 0) (by omega) (by simp) (At2.start f g _))
  have hw : wrap64 (((oI f).length : Int) + ((oI g).length : Int)) = ((f.length + g.length : Nat) : Int) := by
    rw [oI_length, oI_length, w64_small (by omega) (by omega)]; omega
  unfold qra.f
  rw [hw, if_pos (by omega), Int.toNat_natCast, if_pos (by omega), ← oI_zeros, oI_length]
  rfl
theorem rsub_fp (hq : q ≤ 65537) (a b : Fin q) : juntoref01_Sub.f (q : Int) (nI a) (nI b) = some (nI (a - b)) := by
  have hp := q_pos (q := q)
  have ha := nI_range a
  have hb := nI_range b
  unfold juntoref01_Sub.f
  rw [if_neg (by omega), u64_small (n := nI a + (q : Int)) (by omega) (by omega), u64_small (by omega) (by omega), Int.tmod_eq_emod_of_nonneg (by omega), nI_sub]
theorem pow_plus (a : Fin q) (m n : Nat) : a ^ (m + n) = a ^ m * a ^ n := by
  induction n with
  | zero => rw [Nat.add_zero]; grind
  | succ n ih =>
    have e : a ^ (m + (n + 1)) = a ^ (m + n) * a := by rw [show m + (n + 1) = (m + n) + 1 by omega]; grind
    have e' : a ^ (n + 1) = a ^ n * a := by grind
    rw [e, e', ih]; grind
theorem rpow_at (h1 : 1 < q) (hq : q ≤ 65537) (a : Fin q) : ∀ (n e : Nat), e ≤ n → e ≤ 65537 → Ev (fun k => juntoref01_Pow.f k (q : Int) (nI a) (e : Int)) (nI (a ^ e))
  | n, e, h, he => by
    by_cases h0 : e = 0
    · subst h0
      rw [show a ^ 0 = (1 : Fin q) by grind, nI_one h1]
      refine Ev.step (f := fun k => some 1) (fun k => ?_) (Ev.now _)
      simp only [juntoref01_Pow.f]
      rw [if_pos (by omega)]
    · cases n with
      | zero => omega
      | succ n =>
        have hd : IntKind.u64.wrap (Int.tdiv (e : Int) 2) = ((e / 2 : Nat) : Int) := by
          rw [Int.tdiv_eq_ediv_of_nonneg (by omega), u64_small (by omega) (by omega)]; omega
        have hm : Int.tmod (e : Int) 2 = ((e % 2 : Nat) : Int) := by
          rw [Int.tmod_eq_emod_of_nonneg (by omega)]; omega
        have ih := rpow_at h1 hq a n (e / 2) (by omega) (by omega)
        by_cases h2 : e % 2 = 1
        · have ee : a ^ e = a ^ (e / 2) * a ^ (e / 2) * a := by
            have h3 : e = e / 2 + e / 2 + 1 := by omega
            have h4 : a ^ e = a ^ (e / 2 + e / 2 + 1) := by rw [← h3]
            rw [h4, pow_plus, pow_plus, show a ^ 1 = a by grind]
          rw [ee]
          refine Ev.step (f := fun k => (juntoref01_Pow.f k (q : Int) (nI a) ((e / 2 : Nat) : Int)).bind fun t => (qpb.f (q : Int) t t).bind fun u => (qpb.f (q : Int) u (nI a)).bind fun v => some v) (fun k => ?_) (Ev.bind ih ?_)
          · simp only [juntoref01_Pow.f]
            rw [if_neg (by omega), hd, hm, h2]
            rfl
          · rw [mul_fp hq, Option.bind_some, mul_fp hq, Option.bind_some]
            exact Ev.now _
        · have ee : a ^ e = a ^ (e / 2) * a ^ (e / 2) := by
            have h3 : e = e / 2 + e / 2 := by omega
            have h4 : a ^ e = a ^ (e / 2 + e / 2) := by rw [← h3]
            rw [h4, pow_plus]
          rw [ee]
          refine Ev.step (f := fun k => (juntoref01_Pow.f k (q : Int) (nI a) ((e / 2 : Nat) : Int)).bind fun t => (qpb.f (q : Int) t t).bind fun u => some u) (fun k => ?_) (Ev.bind ih ?_)
          · simp only [juntoref01_Pow.f]
            rw [if_neg (by omega), hd, hm]
            simp only [show ¬ (((e % 2 : Nat) : Int) = 1) by omega, if_false]
          · rw [mul_fp hq, Option.bind_some]
            exact Ev.now _
theorem rinv_fp (h1 : 2 < q) (hq : q ≤ 65537) (a : Fin q) : Ev (fun k => juntoref01_Inv.f k (q : Int) (nI a)) (nI (Fld.inv a)) := by
  unfold juntoref01_Inv.f
  have e : IntKind.u64.wrap ((q : Int) - 2) = ((q - 2 : Nat) : Int) := by rw [u64_small (by omega) (by omega)]; omega
  rw [e]
  exact Ev.bind (rpow_at (by omega) hq a (q - 2) (q - 2) (Nat.le_refl _) (by omega)) (Ev.now _)
end
theorem numbers_loop (l : List Int) (hs : l.length ≤ 1000000000) : ∀ (m i : Nat) (out : List Int), i + m = l.length → out.length = i → Ev (fun k => qhb.l0 k out l (l.length : Int) (i : Int)) (out ++ (l.drop i).map fun x => IntKind.u64.wrap x)
  | 0, i, out, hi, ho => by
    rw [List.drop_of_length_le (by omega), List.map_nil, List.append_nil]
    refine Ev.step (f := fun k => some out) (fun k => ?_) (Ev.now _)
    simp only [qhb.l0]
    rw [if_neg (by omega)]
  | m + 1, i, out, hi, ho => by
    have hlt : i < l.length := by omega
    have hr : rd l (i : Int) = l[i] := by simp [rd, List.getD_eq_getElem?_getD, hlt]
    have e : out ++ (l.drop i).map (fun x => IntKind.u64.wrap x) = (out ++ [IntKind.u64.wrap l[i]]) ++ (l.drop (i + 1)).map fun x => IntKind.u64.wrap x := by
      rw [List.drop_eq_getElem_cons hlt, List.map_cons, List.append_assoc]; rfl
    rw [e]
    refine Ev.step (f := fun k => qhb.l0 k (out ++ [IntKind.u64.wrap l[i]]) l (l.length : Int) ((i + 1 : Nat) : Int)) (fun k => ?_) (numbers_loop l hs m (i + 1) (out ++ [IntKind.u64.wrap l[i]]) (by omega) (by rw [List.length_append, ho]; rfl))
    conv => lhs; simp only [qhb.l0]
    rw [if_pos (by omega), if_pos (by omega), if_pos (by omega), if_pos (by omega), hr, w64_small (by omega) (by omega)]
    rfl
theorem ref_numbers (l : List Int) (hs : l.length ≤ 1000000000) : Ev (fun k => qhb.f k l) (l.map fun x => IntKind.u64.wrap x) := by
  have h := numbers_loop l hs l.length 0 [] (by omega) rfl
  rw [List.drop_zero, List.nil_append] at h
  exact h
theorem places_eq : ∀ k a b c d, share_Places.l0 k a b c d = qhb.l0 k a b c d
  | 0, _, _, _, _ => rfl
  | k + 1, a, b, c, d => by simp only [share_Places.l0, qhb.l0, places_eq k]
theorem share_places (l : List Int) (hs : l.length ≤ 1000000000) : Ev (fun k => share_Places.f k l) (l.map fun x => IntKind.u64.wrap x) :=
  Ev.congr (fun k => places_eq _ _ _ _ _) (ref_numbers l hs)
def withinV (p : Int) (l : List Int) : Int := if (l.length : Int) > 201 then 3 else belowV p l
def isV (p : Int) : List (List Int) → Int
  | [] => 0
  | f :: fs => if withinV p f = 0 then isV p fs else withinV p f
theorem is_loop (p : Int) (l : List (List Int)) (hn : l.length ≤ 1000000) (hl : ∀ f ∈ l, f.length ≤ maxLen) : ∀ (m i : Nat), i + m = l.length → Ev (fun k => poly_Is.l0 k p l (l.length : Int) (i : Int)) (isV p (l.drop i))
  | 0, i, hi => by
    rw [List.drop_of_length_le (by omega), isV]
    refine Ev.step (f := fun k => some 0) (fun k => ?_) (Ev.now _)
    simp only [poly_Is.l0]
    rw [if_neg (by omega)]
  | m + 1, i, hi => by
    have hlt : i < l.length := by omega
    have hr : rd_L3 l (i : Int) = l[i] := by simp [rd_L3, List.getD_eq_getElem?_getD, hlt]
    rw [List.drop_eq_getElem_cons hlt, isV]
    by_cases h3 : ((l[i]).length : Int) > 201
    · have e : withinV p l[i] = 3 := by unfold withinV; rw [if_pos h3]
      rw [e, if_neg (by decide)]
      refine Ev.step (f := fun k => some 3) (fun k => ?_) (Ev.now _)
      simp only [poly_Is.l0]
      rw [if_pos (by omega), if_pos (by omega), if_pos (by omega), hr, if_pos h3]
    · have e : withinV p l[i] = belowV p l[i] := by unfold withinV; rw [if_neg h3]
      rw [e]
      refine Ev.step (f := fun k => (qjb.f k p l[i]).bind fun t => if t = 0 then poly_Is.l0 k p l (l.length : Int) ((i + 1 : Nat) : Int) else some t) (fun k => ?_) (Ev.bind (field_below p _ (hl _ (List.getElem_mem hlt))) ?_)
      · conv => lhs; simp only [poly_Is.l0]
        rw [if_pos (by omega), if_pos (by omega), if_pos (by omega), hr, if_neg h3, w64_small (by omega) (by omega)]
        rfl
      · by_cases h0 : belowV p l[i] = 0
        · simp only [h0, if_true]
          exact is_loop p l hn hl m (i + 1) (by omega)
        · simp only [h0, if_false]
          exact Ev.now _
theorem poly_is (p : Int) (l : List (List Int)) (hn : l.length ≤ 1000000) (hl : ∀ f ∈ l, f.length ≤ maxLen) (hp : isP p = true) : Ev (fun k => poly_Is.f k p l) (isV p l) := by
  unfold poly_Is.f
  refine Ev.bind (field_is p) ?_
  simp only [hp, if_true]
  have h := is_loop p l hn hl l.length 0 (by omega)
  rw [List.drop_zero] at h
  exact h
end Go.Proofs.Ytjjnfobeeflnhaa.L
/- Small facts about numbers that came in, setups and rows. -/
namespace Go.Proofs.Ytjjnfobeeflnhaa.L
open Go.RowKit Go.Proofs.YtjjnfobeeflnhaaW.PrintWords Go.Proofs.Ytjjnfobeeflnhaa.J
theorem u64_wf {n : Int} (h : (Lit.int .u64 n).wf = true) : 0 ≤ n ∧ n < 18446744073709551616 := by
  simp [Lit.wf, IntKind.min, IntKind.max, IntKind.signed, IntKind.bits] at h
  omega
theorem belowV_zero {p : Int} {l : List Int} (h : belowV p l = 0) : ∀ x ∈ l, x < p := by
  unfold belowV at h
  split at h
  · assumption
  · cases h
theorem setupV_small {p n t : Int} (h : setupV p n t = 0) : 3 ≤ p ∧ p ≤ 65537 ∧ 1 ≤ n ∧ n ≤ 13 ∧ 0 ≤ t ∧ t ≤ 3 ∧ 4 * t + 1 ≤ n ∧ n < p := by
  obtain ⟨hp, h1, h2, h4, h5, h6⟩ := setupV_ok h
  have hp2 := (isP_iff p).1 hp
  omega
end Go.Proofs.Ytjjnfobeeflnhaa.L
/- Both ways to share a polynomial answer alike, and what they answer. -/
namespace Go.Proofs.Ytjjnfobeeflnhaa.L
open Go.RowKit Go.Proofs.YtjjnfobeeflnhaaW.PrintWords Go.Proofs.Ytjjnfobeeflnhaa.J
set_option linter.unusedVariables false
set_option linter.unusedSimpArgs false
theorem isV_one (p : Int) (l : List Int) : isV p [l] = withinV p l := by
  rw [isV, isV]; split
  · rename_i h; exact h.symm
  · rfl
theorem withinV_zero {p : Int} {l : List Int} (h : withinV p l = 0) : l.length ≤ 201 ∧ ∀ x ∈ l, x < p := by
  unfold withinV at h
  split at h
  · cases h
  · exact ⟨by omega, belowV_zero h⟩
theorem withinV_ne (p : Int) (l : List Int) (h : l.length ≤ 201) : withinV p l = belowV p l := by
  unfold withinV
  rw [if_neg (by omega)]
section
variable {q : Nat}
theorem rows_of {l : List Int} (h : withinV (q : Int) l = 0) (hu : ∀ c ∈ l, 0 ≤ c) : ∃ f : List (Fin q), oI f = l ∧ f.length ≤ 201 := by
  obtain ⟨h1, h2⟩ := withinV_zero h
  obtain ⟨f, hf⟩ := oI_of (q := q) (fun c hc => ⟨hu c hc, h2 c hc⟩)
  exact ⟨f, hf, by rw [← hf, oI_length] at h1; exact h1⟩
end
end Go.Proofs.Ytjjnfobeeflnhaa.L
/- Division with rest of polynomials over the residues modulo a prime: one step, and that there is but one answer. Plain Lean, no program in sight. -/
namespace Go.Proofs.Ytjjnfobeeflnhaa.Fld
set_option linter.unusedVariables false
set_option linter.unusedSimpArgs false
section
variable {p : Nat} [NeZero p]
def shiftc (c : Fin p) (k : Nat) (g : List (Fin p)) : List (Fin p) := List.replicate k 0 ++ smul c g
theorem co_zeros_app (k : Nat) (g : List (Fin p)) (s : Nat) : co (List.replicate k 0 ++ g) s = if k ≤ s then co g (s - k) else 0 := by
  unfold co
  rw [List.getD_eq_getElem?_getD, List.getD_eq_getElem?_getD]
  by_cases h : k ≤ s
  · rw [if_pos h, List.getElem?_append_right (by simpa using h)]; simp
  · rw [if_neg h, List.getElem?_append_left (by simp; omega), List.getElem?_replicate, if_pos (by omega)]; rfl
theorem co_shiftc (c : Fin p) (k : Nat) (g : List (Fin p)) (s : Nat) : co (shiftc c k g) s = if k ≤ s then c * co g (s - k) else 0 := by
  unfold shiftc
  rw [co_zeros_app, co_smul]
theorem co_set' (f : List (Fin p)) (i : Nat) (a : Fin p) (hi : i < f.length) (s : Nat) : co (f.set i a) s = if s = i then a else co f s := by
  unfold co
  rw [List.getD_eq_getElem?_getD, List.getD_eq_getElem?_getD]
  by_cases h : s = i
  · subst h; rw [if_pos rfl, List.getElem?_set_self hi]; rfl
  · rw [if_neg h, List.getElem?_set_ne (by omega)]
theorem mul_set {quo g : List (Fin p)} {k : Nat} {c : Fin p} (hk : k < quo.length) (h0 : co quo k = 0) : Eqv (mul (quo.set k c) g) (add (mul quo g) (shiftc c k g)) := fun s => by
  have e : ∀ i, co (quo.set k c) i = co quo i + (if i = k then c else 0) := fun i => by
    rw [co_set' _ _ _ hk]
    by_cases h : i = k
    · rw [if_pos h, if_pos h, h, h0]; grind
    · rw [if_neg h, if_neg h]; grind
  rw [co_add, co_mul, co_mul, cv_congr e (fun _ => rfl), cv_add', co_shiftc]
  congr 1
  unfold cv
  by_cases h : k ≤ s
  · rw [if_pos h, sm_one (k := k) (by omega)]
    · show (if k = k then c else 0) * _ = _
      rw [if_pos rfl]
    · intro i _ hi
      show (if i = k then c else 0) * _ = _
      rw [if_neg hi]; grind
  · rw [if_neg h]
    refine sm_zero fun i hi => ?_
    show (if i = k then c else 0) * _ = _
    rw [if_neg (by omega)]; grind
theorem div_step {f quo g rest rest' : List (Fin p)} {k : Nat} {c : Fin p} (H : Eqv f (add (mul quo g) rest)) (hk : k < quo.length) (h0 : co quo k = 0) (hr : ∀ s, co rest' s = co rest s - (if k ≤ s then c * co g (s - k) else 0)) : Eqv f (add (mul (quo.set k c) g) rest') := fun s => by
  have h1 := H s
  have h2 := mul_set (g := g) (c := c) hk h0 s
  rw [co_add] at h1 h2
  rw [co_add, h1, h2, hr, co_shiftc]
  grind
theorem div_unique (hp : Pr p) {g Q Q' R R' : List (Fin p)} (hg : trim g ≠ []) (h : Eqv (add (mul Q g) R) (add (mul Q' g) R')) (hR : (trim R).length < (trim g).length) (hR' : (trim R').length < (trim g).length) : Eqv Q Q' ∧ Eqv R R' := by
  have hD : Eqv (mul (sub Q Q') g) (sub R' R) := fun i => by
    have h1 := h i
    rw [co_add, co_add] at h1
    rw [sub_mul Q Q' g i, co_sub, co_sub]
    grind
  by_cases hd : trim (sub Q Q') = []
  · have hQ : Eqv Q Q' := fun i => by
      have : co (sub Q Q') i = 0 := by rw [← trim_co (sub Q Q') i, hd, co_nil]
      rw [co_sub] at this
      grind
    refine ⟨hQ, fun i => ?_⟩
    have h1 := h i
    have h2 := hQ.mul (Eqv.refl g) i
    rw [co_add, co_add, h2] at h1
    grind
  · exfalso
    have h1 := trim_mul_length hp hd hg
    rw [trim_congr hD] at h1
    have h2 := trim_length_of (f := sub R' R) (n := (trim g).length - 1) (fun i hi => by
      rw [co_sub, ← trim_co R' i, ← trim_co R i, co_ge (f := trim R') (by omega), co_ge (f := trim R) (by omega)]; grind)
    have h3 := List.length_pos_iff.2 hd
    have h4 := List.length_pos_iff.2 hg
    omega
end
end Go.Proofs.Ytjjnfobeeflnhaa.Fld
/- Both ways to divide with rest answer alike, and what they answer. -/
namespace Go.Proofs.Ytjjnfobeeflnhaa.L
open Go.RowKit Go.Proofs.YtjjnfobeeflnhaaW.PrintWords Go.Proofs.Ytjjnfobeeflnhaa.J
set_option linter.unusedVariables false
set_option linter.unusedSimpArgs false
theorem pr_of_isP {q : Nat} (h : isP (q : Int) = true) : Fld.Pr q := by
  obtain ⟨h1, h2, h3⟩ := (isP_iff _).1 h
  refine Fld.pr_of_trial (by omega) fun d hd hdd h0 => h3 (d : Int) (by omega) (by exact_mod_cast hdd) (by exact_mod_cast h0)
section
variable {q : Nat} [NeZero q]
def DivOf (f g Q R : List (Fin q)) : Prop := Fld.trim Q = Q ∧ Fld.trim R = R ∧ Fld.Eqv f (Fld.add (Fld.mul Q g) R) ∧ R.length < (Fld.trim g).length ∧ Q.length ≤ f.length
theorem lead_zero (hp : Fld.Pr q) {G : List (Fin q)} (hG : G ≠ []) (hGt : Fld.trim G = G) (r : Fin q) : r - r * Fld.inv (Fld.co G (G.length - 1)) * Fld.co G (G.length - 1) = 0 := by
  have h := Fld.inv_mul hp (Fld.Tr.last hGt hG)
  generalize Fld.inv (Fld.co G (G.length - 1)) = v at *
  grind
def stepL (rest G : List (Fin q)) (k : Nat) (c : Fin q) (j : Nat) : List (Fin q) := Fld.mk rest.length (fun s => Fld.co rest s - (if k ≤ s ∧ s < k + j then c * Fld.co G (s - k) else 0))
theorem stepL_length (rest G : List (Fin q)) (k : Nat) (c : Fin q) (j : Nat) : (stepL rest G k c j).length = rest.length := Fld.mk_length _ _
theorem stepL_co (rest G : List (Fin q)) (k : Nat) (c : Fin q) (j s : Nat) (hs : s < rest.length) : Fld.co (stepL rest G k c j) s = Fld.co rest s - (if k ≤ s ∧ s < k + j then c * Fld.co G (s - k) else 0) := by
  unfold stepL
  rw [Fld.co_mk, if_pos hs]
theorem stepL_zero (rest G : List (Fin q)) (k : Nat) (c : Fin q) : stepL rest G k c 0 = rest := by
  apply List.ext_getElem (stepL_length _ _ _ _ _)
  intro i h1 h2
  rw [← Fld.co_lt h1, stepL_co _ _ _ _ _ _ h2, if_neg (by omega), Fld.co_lt h2]; grind
theorem stepL_set (rest G : List (Fin q)) (k : Nat) (c : Fin q) (j : Nat) (h : k + j < rest.length) : (stepL rest G k c j).set (k + j) (Fld.co (stepL rest G k c j) (k + j) - c * Fld.co G j) = stepL rest G k c (j + 1) := by
  apply List.ext_getElem (by rw [List.length_set, stepL_length, stepL_length])
  intro i h1 h2
  have hi : i < rest.length := by rw [stepL_length] at h2; exact h2
  rw [← Fld.co_lt h1, ← Fld.co_lt h2, co_set _ _ _ (by rw [stepL_length]; exact h), stepL_co _ _ _ _ _ _ hi, stepL_co _ _ _ _ _ _ h, stepL_co _ _ _ _ _ _ hi]
  by_cases e : i = k + j
  · subst e
    rw [if_pos rfl, if_neg (by omega), if_pos (by omega), show k + j - k = j by omega]; grind
  · rw [if_neg e]
    by_cases e' : k ≤ i ∧ i < k + j
    · rw [if_pos e', if_pos (by omega)]
    · rw [if_neg e', if_neg (by omega)]
theorem over_inner (hq : q ≤ 65537) (G rest quo : List (Fin q)) (hd c : Fin q) (k : Nat) (hG : G.length ≤ 1000000) (hR : rest.length ≤ 1000000) (hk : k + G.length ≤ rest.length) {r : List Int × List Int}
    (next : Ev (fun n => qnb.l0 n (q : Int) (oI G) (oI (stepL rest G k c G.length)) (oI quo) (nI hd) ((k : Int) - 1)) r) (m : Nat) : ∀ j : Nat, j + m = G.length →
    Ev (fun n => qnb.l1 n (q : Int) (oI G) (oI (stepL rest G k c j)) (oI quo) (nI hd) (k : Int) (nI c) (oI G) (G.length : Int) (j : Int)) r := by
  induction m with
  | zero =>
    intro j hj
    obtain rfl : j = G.length := by omega
    refine Ev.step (f := fun n => qnb.l0 n (q : Int) (oI G) (oI (stepL rest G k c G.length)) (oI quo) (nI hd) ((k : Int) - 1)) (fun n => ?_) next
    have hw : wrap64 ((k : Int) - 1) = (k : Int) - 1 := w64_small (by omega) (by omega)
    conv => lhs; simp only [qnb.l1]
    rw [if_neg (by omega), hw]
  | succ m ih =>
    intro j hj
    have hw : wrap64 ((j : Int) + 1) = ((j + 1 : Nat) : Int) := by rw [w64_small (by omega) (by omega)]; omega
    have hw2 : wrap64 ((k : Int) + (j : Int)) = ((k + j : Nat) : Int) := by rw [w64_small (by omega) (by omega)]; omega
    refine Ev.step (f := fun n => qnb.l1 n (q : Int) (oI G) (oI (stepL rest G k c (j + 1))) (oI quo) (nI hd) (k : Int) (nI c) (oI G) (G.length : Int) ((j + 1 : Nat) : Int)) (fun n => ?_) (ih (j + 1) (by omega))
    conv => lhs; simp only [qnb.l1]
    rw [if_pos (by omega), if_pos (by omega), if_pos (by rw [oI_length]; omega), hw2, if_pos (by omega), if_pos (by rw [oI_length, stepL_length]; omega), rd_oI, rd_oI, times_fp hq, Option.bind_some, minus_fp hq, Option.bind_some, Int.toNat_natCast, oI_set, stepL_set _ _ _ _ _ (by omega), hw]
theorem over_loop (hp : Fld.Pr q) (hq : q ≤ 65537) (F G : List (Fin q)) (hG : G ≠ []) (hGt : Fld.trim G = G) (hGl : G.length ≤ 1000000) (hFl : F.length ≤ 1000000) (hle : G.length ≤ F.length) (K : Nat) : ∀ (quo rest : List (Fin q)), K ≤ quo.length → quo.length + G.length = F.length + 1 → rest.length = F.length → Fld.Eqv F (Fld.add (Fld.mul quo G) rest) →
    (∀ s, K + G.length ≤ s + 1 → Fld.co rest s = 0) → (∀ s, s < K → Fld.co quo s = 0) → ∃ Q R, Ev (fun n => qnb.l0 n (q : Int) (oI G) (oI rest) (oI quo) (nI (Fld.inv (Fld.co G (G.length - 1)))) ((K : Int) - 1)) (oI Q, oI R) ∧ DivOf F G Q R := by
  have hg := List.length_pos_iff.2 hG
  induction K with
  | zero =>
    intro quo rest hK hqu hrl hE hz hq0
    refine ⟨Fld.trim quo, Fld.trim rest, ?_, Fld.trim_trim _, Fld.trim_trim _, fun i => ?_, ?_, ?_⟩
    · refine Ev.step (f := fun n => (qwa.f n (oI quo)).bind fun t954 => ((qwa.f n (oI rest)).bind fun t957 => (some (t954, t957)))) (fun n => ?_) (Ev.bind (short_fp _ (by omega)) (Ev.bind (short_fp _ (by omega)) (Ev.now _)))
      simp only [qnb.l0]
      rw [if_neg (by omega)]
    · rw [hE i]
      exact (((Fld.trim_co quo).mul (Fld.Eqv.refl G)).add (Fld.trim_co rest)).symm i
    · rw [hGt]
      have := Fld.trim_length_of (f := rest) (n := G.length - 1) (fun i hi => hz i (by omega))
      omega
    · have := Fld.trim_length_le quo
      omega
  | succ k ih =>
    intro quo rest hK hqu hrl hE hz hq0
    obtain ⟨c, hc⟩ : ∃ c, Aside0 (c = Fld.co rest (k + G.length - 1) * Fld.inv (Fld.co G (G.length - 1))) := ⟨_, ⟨rfl⟩⟩
    have hw1 : wrap64 ((k : Int) + (G.length : Int)) = ((k + G.length : Nat) : Int) := by rw [w64_small (by omega) (by omega)]; omega
    have hw2 : wrap64 (((k + G.length : Nat) : Int) - 1) = ((k + G.length - 1 : Nat) : Int) := by rw [w64_small (by omega) (by omega)]; omega
    have hk1 : ((k + 1 : Nat) : Int) - 1 = (k : Int) := by omega
    have hco : ∀ s, Fld.co (stepL rest G k c G.length) s = Fld.co rest s - (if k ≤ s then c * Fld.co G (s - k) else 0) := fun s => by
      by_cases hs : s < rest.length
      · rw [stepL_co _ _ _ _ _ _ hs]
        by_cases h1 : k ≤ s
        · by_cases h2 : s < k + G.length
          · rw [if_pos ⟨h1, h2⟩, if_pos h1]
          · rw [if_neg (by omega), if_pos h1, Fld.co_ge (f := G) (by omega)]; grind
        · rw [if_neg (by omega), if_neg h1]
      · rw [Fld.co_ge (by rw [stepL_length]; omega), Fld.co_ge (f := rest) (by omega)]
        by_cases h1 : k ≤ s
        · rw [if_pos h1, Fld.co_ge (f := G) (by omega)]; grind
        · omega
    obtain ⟨Q, R, hev, hdiv⟩ := ih (quo.set k c) (stepL rest G k c G.length) (by rw [List.length_set]; omega) (by rw [List.length_set]; exact hqu) (by rw [stepL_length]; exact hrl)
      (Fld.div_step hE (by omega) (hq0 k (by omega)) hco)
      (fun s hs => by
        rw [hco, if_pos (by omega)]
        by_cases e : s = k + G.length - 1
        · rw [e, hc.out, show k + G.length - 1 - k = G.length - 1 by omega]
          exact lead_zero hp hG hGt _
        · rw [hz s (by omega), Fld.co_ge (f := G) (by omega)]; grind)
      (fun s hs => by rw [co_set _ _ _ (by omega), if_neg (by omega)]; exact hq0 s (by omega))
    refine ⟨Q, R, ?_, hdiv⟩
    have hl := over_inner hq G rest (quo.set k c) (Fld.inv (Fld.co G (G.length - 1))) c k hGl (by omega) (by omega) hev G.length 0 (by omega)
    rw [stepL_zero] at hl
    refine Ev.step (f := fun n => qnb.l1 n (q : Int) (oI G) (oI rest) (oI (quo.set k c)) (nI (Fld.inv (Fld.co G (G.length - 1)))) (k : Int) (nI c) (oI G) (G.length : Int) ((0 : Nat) : Int)) (fun n => ?_) hl
    conv => lhs; simp only [qnb.l0]
    rw [hk1, oI_length, hw1, hw2, if_pos (by omega), if_pos (by omega), if_pos (by rw [oI_length]; omega), rd_oI, times_fp hq, Option.bind_some, if_pos (by omega), if_pos (by rw [oI_length]; omega), ← hc.out, Int.toNat_natCast, oI_set]
    rfl
theorem over_rows (hp : Fld.Pr q) (h1 : 2 < q) (hq : q ≤ 65537) (f g : List (Fin q)) (hg : Fld.trim g ≠ []) (hf : f.length ≤ 1000000) (hgl : g.length ≤ 1000000) : ∃ Q R, Ev (fun n => qnb.f n (q : Int) (oI f) (oI g)) (oI Q, oI R) ∧ DivOf f g Q R := by
  have hlf := Fld.trim_length_le f
  have hlg := Fld.trim_length_le g
  have hg0 := List.length_pos_iff.2 hg
  have back : ∀ Q R : List (Fin q), DivOf (Fld.trim f) (Fld.trim g) Q R → DivOf f g Q R := fun Q R h =>
    ⟨h.1, h.2.1, (Fld.trim_co f).symm.trans (h.2.2.1.trans (((Fld.Eqv.refl Q).mul (Fld.trim_co g)).add (Fld.Eqv.refl R))), by have := h.2.2.2.1; rwa [Fld.trim_trim] at this, by have := h.2.2.2.2; omega⟩
  by_cases hlt : (Fld.trim f).length < (Fld.trim g).length
  · refine ⟨[], Fld.trim f, ?_, back _ _ ⟨rfl, Fld.trim_trim _, fun i => ?_, by rw [Fld.trim_trim]; exact hlt, by simp⟩⟩
    · unfold qnb.f
      refine Ev.bind (short_fp f (by omega)) (Ev.bind (short_fp g (by omega)) ?_)
      exact Ev.congr (fun n => if_pos (by rw [oI_length, oI_length]; omega)) (Ev.now _)
    · rw [Fld.co_add, mul_nil_left, Fld.co_nil]; grind
  · have hz : Fld.Eqv (Fld.mul (List.replicate ((Fld.trim f).length - (Fld.trim g).length + 1) 0) (Fld.trim g)) [] := fun i => by
      rw [Fld.co_mul, Fld.co_nil]
      exact Fld.sm_zero fun j _ => by rw [co_zeros]; grind
    obtain ⟨Q, R, hev, hdiv⟩ := over_loop hp hq (Fld.trim f) (Fld.trim g) hg (Fld.trim_trim _) (by omega) (by omega) (by omega) ((Fld.trim f).length - (Fld.trim g).length + 1) (List.replicate ((Fld.trim f).length - (Fld.trim g).length + 1) 0) (Fld.trim f)
      (by simp) (by simp; omega) rfl (fun i => by rw [Fld.co_add, hz i, Fld.co_nil]; grind) (fun s hs => Fld.co_ge (by omega)) (fun s _ => co_zeros _ _)
    refine ⟨Q, R, ?_, back _ _ hdiv⟩
    have hw1 : wrap64 (((Fld.trim f).length : Int) - ((Fld.trim g).length : Int)) = (((Fld.trim f).length - (Fld.trim g).length : Nat) : Int) := by rw [w64_small (by omega) (by omega)]; omega
    have hw2 : wrap64 ((((Fld.trim f).length - (Fld.trim g).length : Nat) : Int) + 1) = (((Fld.trim f).length - (Fld.trim g).length + 1 : Nat) : Int) := by rw [w64_small (by omega) (by omega)]; omega
    have hw3 : wrap64 (((Fld.trim g).length : Int) - 1) = (((Fld.trim g).length - 1 : Nat) : Int) := by rw [w64_small (by omega) (by omega)]; omega
    have hw4 : wrap64 ((((Fld.trim f).length - (Fld.trim g).length + 1 : Nat) : Int) - 1) = (((Fld.trim f).length - (Fld.trim g).length + 1 : Nat) : Int) - 1 := w64_small (by omega) (by omega)
    unfold qnb.f
    refine Ev.bind (short_fp f (by omega)) (Ev.bind (short_fp g (by omega)) ?_)
    refine Ev.congr (fun n => ?_) (Ev.bind (f := fun n t => qnb.l0 n (q : Int) (oI (Fld.trim g)) (oI (Fld.trim f)) (oI (List.replicate ((Fld.trim f).length - (Fld.trim g).length + 1) 0)) t ((((Fld.trim f).length - (Fld.trim g).length + 1 : Nat) : Int) - 1)) (over_fp h1 hq (Fld.co (Fld.trim g) ((Fld.trim g).length - 1))) hev)
    rw [oI_length, oI_length, if_neg (by omega), hw1, hw2, if_pos (by omega), Int.toNat_natCast, if_pos (by omega), Option.bind_some, hw3, if_pos (by omega), if_pos (by omega), rd_oI, List.length_replicate, hw4, oI_zeros (q := q)]
end
end Go.Proofs.Ytjjnfobeeflnhaa.L
/- Both checks of a mask answer alike, and what they answer. -/
namespace Go.Proofs.Ytjjnfobeeflnhaa.L
open Go.RowKit Go.Proofs.YtjjnfobeeflnhaaW.PrintWords Go.Proofs.Ytjjnfobeeflnhaa.J
set_option linter.unusedVariables false
set_option linter.unusedSimpArgs false
def rowsV (p : Int) : List (List Int) → Int
  | [] => 0
  | f :: fs => if belowV p f = 0 then rowsV p fs else belowV p f
def checkV (p n t : Int) (l : List (List Int)) : Int :=
  if setupV p n t = 0 then (if (l.length : Int) = t + 1 ∧ ∀ f ∈ l, (f.length : Int) ≤ t + 1 then rowsV p l else 4) else setupV p n t
theorem checks_go (p : Int) : ∀ (l : List (List Int)), (∀ f ∈ l, f.length ≤ maxLen) → Ev (fun k => qgb.go k p l) (rowsV p l)
  | [], _ => Ev.now _
  | f :: fs, h => by
    unfold qgb.go rowsV
    refine Ev.bind (field_below p f (h f (List.mem_cons_self ..))) ?_
    by_cases h0 : belowV p f = 0
    · rw [if_pos h0]
      simp only [h0, if_true]
      exact checks_go p fs (fun g hg => h g (List.mem_cons_of_mem _ hg))
    · rw [if_neg h0]
      simp only [h0, if_false]
      exact Ev.now _
theorem twice_check (p n t : Int) (l : List (List Int)) (hl : ∀ f ∈ l, f.length ≤ maxLen) : Ev (fun k => qgb.f k p n t l) (checkV p n t l) := by
  unfold qgb.f checkV
  refine Ev.bind (share_setup p n t) ?_
  by_cases h0 : setupV p n t = 0
  · obtain ⟨_, _, _, h4, h5, _⟩ := setupV_ok h0
    simp only [h0, if_true]
    rw [w64_small (by omega) (by omega)]
    by_cases h1 : (l.length : Int) = t + 1
    · simp only [h1, if_true, true_and]
      by_cases h2 : ∀ f ∈ l, (f.length : Int) ≤ t + 1
      · have ha : (l.any fun f => decide (t + 1 < (f.length : Int))) = false := by
          rw [List.any_eq_false]
          intro f hf
          have := h2 f hf
          simp only [decide_eq_true_eq]
          omega
        rw [if_pos h2]
        simp only [ha, Bool.false_eq_true, if_false]
        exact checks_go p l hl
      · have ha : (l.any fun f => decide (t + 1 < (f.length : Int))) = true := by
          rw [List.any_eq_true]
          apply Classical.byContradiction
          intro hc
          refine h2 fun f hf => ?_
          rcases Int.lt_or_le (t + 1) (f.length : Int) with h' | h'
          · exact absurd ⟨f, hf, by simpa using h'⟩ hc
          · exact h'
        rw [if_neg h2]
        simp only [ha, if_true]
        exact Ev.now _
    · simp only [h1, if_false, false_and]
      exact Ev.now _
  · simp only [h0, if_false]
    exact Ev.now _
theorem rd_L3_at (l : List (List Int)) (i : Nat) (h : i < l.length) : rd_L3 l (i : Int) = l[i] := by
  simp [rd_L3, List.getD_eq_getElem?_getD, h]
theorem ref_rows (p n t : Int) (l : List (List Int)) (hs : l.length ≤ maxLen) (hl : ∀ f ∈ l, f.length ≤ maxLen) : ∀ (m i : Nat), i + m = l.length → Ev (fun k => qva.l1 k l (l.length : Int) (i : Int) p n t) (rowsV p (l.drop i))
  | 0, i, hi => by
    rw [List.drop_of_length_le (by omega)]
    refine Ev.step (f := fun k => some 0) (fun k => ?_) (Ev.now _)
    simp only [qva.l1]
    rw [if_neg (by omega)]
  | m + 1, i, hi => by
    have hm : (l.length : Int) ≤ 9223372036854775807 := by simp only [maxLen] at hs; omega
    have hlt : i < l.length := by omega
    rw [List.drop_eq_getElem_cons hlt]
    unfold rowsV
    refine Ev.step (f := fun k => (qab.f k p l[i]).bind fun t111 => (if t111 = 0 then (qva.l1 k l (l.length : Int) ((i + 1 : Nat) : Int) p n t) else (some t111))) (fun k => ?_) ?_
    · conv => lhs; simp only [qva.l1]
      rw [if_pos (by omega), if_pos (by omega), if_pos (by omega), rd_L3_at l i hlt, w64_small (by omega) (by omega)]
      rfl
    · refine Ev.bind (ref_within p l[i] (hl _ (List.getElem_mem hlt))) ?_
      by_cases h0 : belowV p l[i] = 0
      · rw [if_pos h0]
        simp only [h0, if_true]
        exact ref_rows p n t l hs hl m (i + 1) (by omega)
      · rw [if_neg h0]
        simp only [h0, if_false]
        exact Ev.now _
theorem ref_sizes (p n t : Int) (l : List (List Int)) (ht : 0 ≤ t ∧ t ≤ 13) (hs : l.length ≤ maxLen) (hl : ∀ f ∈ l, f.length ≤ maxLen) : ∀ (m i : Nat), i + m = l.length → Ev (fun k => qva.l0 k l l (l.length : Int) (i : Int) p n t) (if ∀ f ∈ l.drop i, (f.length : Int) ≤ t + 1 then rowsV p l else 4)
  | 0, i, hi => by
    rw [List.drop_of_length_le (by omega), if_pos (fun f hf => by simp at hf)]
    refine Ev.step (f := fun k => qva.l1 k l (l.length : Int) 0 p n t) (fun k => ?_) ?_
    · conv => lhs; simp only [qva.l0]
      rw [if_neg (by omega)]
    · exact ref_rows p n t l hs hl l.length 0 (by omega)
  | m + 1, i, hi => by
    have hm : (l.length : Int) ≤ 9223372036854775807 := by simp only [maxLen] at hs; omega
    have hlt : i < l.length := by omega
    rw [List.drop_eq_getElem_cons hlt]
    by_cases hg : (l[i].length : Int) > t + 1
    · rw [if_neg (fun h' => by have := h' _ (List.mem_cons_self ..); omega)]
      refine Ev.step (f := fun k => some 4) (fun k => ?_) (Ev.now _)
      simp only [qva.l0]
      rw [if_pos (by omega), if_pos (by omega), if_pos (by omega), rd_L3_at l i hlt, w64_small (n := t + 1) (by omega) (by omega), if_pos hg]
    · refine Ev.step (f := fun k => qva.l0 k l l (l.length : Int) ((i + 1 : Nat) : Int) p n t) (fun k => ?_) ?_
      · conv => lhs; simp only [qva.l0]
        rw [if_pos (by omega), if_pos (by omega), if_pos (by omega), rd_L3_at l i hlt, w64_small (n := t + 1) (by omega) (by omega), if_neg hg, w64_small (by omega) (by omega)]
        rfl
      · have hi2 : (∀ f ∈ l[i] :: l.drop (i + 1), (f.length : Int) ≤ t + 1) ↔ ∀ f ∈ l.drop (i + 1), (f.length : Int) ≤ t + 1 := by
          constructor
          · exact fun h f hf => h f (List.mem_cons_of_mem _ hf)
          · intro h f hf
            rcases List.mem_cons.1 hf with rfl | hf
            · omega
            · exact h f hf
        simp only [hi2]
        exact ref_sizes p n t l ht hs hl m (i + 1) (by omega)
theorem ref_check (p n t : Int) (l : List (List Int)) (hs : l.length ≤ maxLen) (hl : ∀ f ∈ l, f.length ≤ maxLen) : Ev (fun k => qva.f k p n t l) (checkV p n t l) := by
  unfold qva.f checkV
  refine Ev.bind (ref_setup p n t) ?_
  by_cases h0 : setupV p n t = 0
  · obtain ⟨_, _, _, h4, h5, _⟩ := setupV_ok h0
    simp only [h0, if_true]
    rw [w64_small (by omega) (by omega)]
    by_cases h1 : (l.length : Int) = t + 1
    · refine Ev.congr (fun k => if_pos h1) ?_
      have := ref_sizes p n t l (by omega) hs hl l.length 0 (by omega)
      rw [List.drop_zero] at this
      have e : ((l.length : Int) = t + 1 ∧ ∀ f ∈ l, (f.length : Int) ≤ t + 1) = (∀ f ∈ l, (f.length : Int) ≤ t + 1) := propext ⟨fun h => h.2, fun h => ⟨h1, h⟩⟩
      simp only [e]
      exact this
    · simp only [h1, if_false, false_and]
      exact Ev.now _
  · simp only [h0, if_false]
    exact Ev.now _
end Go.Proofs.Ytjjnfobeeflnhaa.L
/- The polynomial of high values: both ways to make it answer alike; the values that a mask gives. -/
namespace Go.Proofs.Ytjjnfobeeflnhaa.L
open Go.RowKit Go.Proofs.YtjjnfobeeflnhaaW.PrintWords Go.Proofs.Ytjjnfobeeflnhaa.J
set_option linter.unusedVariables false
set_option linter.unusedSimpArgs false
theorem rowsV_zero {p : Int} : ∀ {l : List (List Int)}, rowsV p l = 0 → ∀ f ∈ l, belowV p f = 0
  | [], _, f, hf => by cases hf
  | a :: l, h, f, hf => by
    unfold rowsV at h
    split at h
    · rcases List.mem_cons.1 hf with rfl | h'
      · assumption
      · exact rowsV_zero h f h'
    · contradiction
theorem checkV_zero {p n t : Int} {l : List (List Int)} (h : checkV p n t l = 0) : setupV p n t = 0 ∧ (l.length : Int) = t + 1 ∧ (∀ f ∈ l, (f.length : Int) ≤ t + 1) ∧ ∀ f ∈ l, ∀ c ∈ f, c < p := by
  unfold checkV at h
  split at h
  · split at h
    · rename_i h0 h1
      exact ⟨h0, h1.1, h1.2, fun f hf => belowV_zero (rowsV_zero h f hf)⟩
    · cases h
  · contradiction
section
variable {q : Nat}
theorem oO_of : ∀ {l : List (List Int)}, (∀ f ∈ l, ∀ c ∈ f, 0 ≤ c ∧ c < (q : Int)) → ∃ L : List (List (Fin q)), L.map oI = l
  | [], _ => ⟨[], rfl⟩
  | a :: l, h => by
    obtain ⟨f, hf⟩ := oI_of (q := q) (h a (by simp))
    obtain ⟨L, hL⟩ := oO_of (l := l) (fun g hg => h g (by simp [hg]))
    exact ⟨f :: L, by rw [List.map_cons, hf, hL]⟩
end
section
variable {q : Nat} [NeZero q]
def wholeF : List (List (Fin q)) → List (Fin q)
  | [] => []
  | f :: fs => Fld.trim (Fld.add f (0 :: wholeF fs))
theorem whole_tr (l : List (List (Fin q))) : Fld.trim (wholeF l) = wholeF l := by
  cases l with
  | nil => rfl
  | cons f fs => rw [wholeF, Fld.trim_trim]
theorem whole_length (w : Nat) (hw : 1 ≤ w) : ∀ (l : List (List (Fin q))), (∀ f ∈ l, f.length ≤ w) → (wholeF l).length ≤ w + l.length - 1
  | [], _ => by rw [wholeF]; exact Nat.zero_le _
  | f :: fs, h => by
    have h1 := whole_length w hw fs (fun g hg => h g (by simp [hg]))
    have h2 := Fld.trim_length_le (Fld.add f (0 :: wholeF fs))
    have h3 := h f (by simp)
    rw [Fld.add_length, List.length_cons] at h2
    rw [wholeF, List.length_cons]
    omega
theorem allI_fp (hq : q ≤ 65537) : ∀ l : List (List (Fin q)), allI (q : Int) (l.map oI) = oI (wholeF l)
  | [] => rfl
  | f :: fs => by
    have e : allI (q : Int) ((f :: fs).map oI) = plusI (q : Int) (oI f) (0 :: allI (q : Int) (fs.map oI)) := rfl
    have e0 : (0 : Int) :: oI (wholeF fs) = oI (0 :: wholeF fs) := by rw [oI_cons, nI_zero]
    rw [e, allI_fp hq fs, e0, plusI_fp hq, wholeF]
theorem twice_all (hq : q ≤ 65537) (l : List (List (Fin q))) (h1 : l.length ≤ 1000) (h2 : ∀ f ∈ l, f.length ≤ 1000) : twice_All.f (q : Int) (l.map oI) = some (oI (wholeF l)) := by
  unfold twice_All.f
  rw [if_pos, allI_fp hq]
  refine ⟨by rw [List.length_map]; exact h1, ?_⟩
  rw [List.all_eq_true]
  intro f hf
  obtain ⟨g, hg, rfl⟩ := List.mem_map.1 hf
  rw [oI_length]
  exact decide_eq_true (h2 g hg)
theorem co_zeros_app (k : Nat) (g : List (Fin q)) (s : Nat) : Fld.co (List.replicate k 0 ++ g) s = if k ≤ s then Fld.co g (s - k) else 0 := by
  rw [co_append, List.length_replicate, co_zeros]
  by_cases h : k ≤ s
  · rw [if_neg (by omega), if_pos h]
  · rw [if_pos (by omega), if_neg h]
theorem co_whole (f : List (Fin q)) (fs : List (List (Fin q))) (s : Nat) : Fld.co (wholeF (f :: fs)) s = Fld.co f s + (if 1 ≤ s then Fld.co (wholeF fs) (s - 1) else 0) := by
  rw [wholeF, Fld.trim_co _ s, Fld.co_add]
  cases s with
  | zero => rw [Fld.co_cons_zero, if_neg (by omega)]
  | succ s => rw [Fld.co_cons_succ, if_pos (by omega), Nat.add_sub_cancel]
theorem whole_ok (hq : q ≤ 65537) (n t : Int) (l : List (List (Fin q))) (h1 : l.length ≤ 1000) (h2 : ∀ f ∈ l, f.length ≤ 1000) (hl : ∀ g ∈ l.map oI, g.length ≤ maxLen) (h : checkV (q : Int) n t (l.map oI) = 0) : Ev (fun k => twice_Whole.f k (q : Int) n t (l.map oI)) (oI (wholeF l), 0) := by
  unfold twice_Whole.f
  refine Ev.bind (twice_check _ _ _ _ hl) ?_
  simp only [h, if_true]
  rw [twice_all hq l h1 h2]
  exact Ev.bind (Ev.now _) (Ev.now _)
end
theorem mask_of {p n t : Int} {l : List (List Int)} (h : checkV p n t l = 0) (hu : ∀ f ∈ l, ∀ c ∈ f, 0 ≤ c) (q : Nat) [NeZero q] (hp : p = (q : Int)) : ∃ (f : List (Fin q)) (fs : List (List (Fin q))), l = (f :: fs).map oI ∧ ((fs.length : Int) = t ∧ t ≤ 3) ∧ (∀ g ∈ f :: fs, (g.length : Int) ≤ t + 1) ∧ ∀ g ∈ (f :: fs).map oI, g.length ≤ maxLen := by
  subst hp
  obtain ⟨h0, h1, h2, h3⟩ := checkV_zero h
  have hh := setupV_small h0
  obtain ⟨L, rfl⟩ := oO_of (q := q) (fun f hf c hc => ⟨hu f hf c hc, h3 f hf c hc⟩)
  cases L with
  | nil => exfalso; simp at h1; omega
  | cons f fs =>
    rw [List.length_map, List.length_cons] at h1
    refine ⟨f, fs, rfl, ⟨by omega, by omega⟩, fun g hg => ?_, fun g hg => ?_⟩
    · have := h2 (oI g) (List.mem_map_of_mem hg)
      rwa [oI_length] at this
    · have := h2 g hg
      simp only [maxLen]; omega
end Go.Proofs.Ytjjnfobeeflnhaa.L
/- The chapter's example holds; a number or an error as the law asks it. -/
namespace Go.Proofs.Ytjjnfobeeflnhaa.L
open Go.RowKit Go.Proofs.YtjjnfobeeflnhaaW.PrintWords Go.Proofs.Ytjjnfobeeflnhaa.J
theorem alive07 : Ev (fun k => qwb.f k) true := Ev.of qwb.mono (k := 40) (by decide +kernel)
end Go.Proofs.Ytjjnfobeeflnhaa.L
/- The statement TwiceOne as plain Lean. -/
namespace Go.Proofs.Ytjjnfobeeflnhaa.L
open Go.RowKit Go.Proofs.YtjjnfobeeflnhaaW.PrintWords Go.Proofs.Ytjjnfobeeflnhaa.J
set_option linter.unusedVariables false
set_option linter.unusedSimpArgs false
section
variable {q : Nat}
theorem rowsV_of : ∀ (l : List (List (Fin q))), rowsV (q : Int) (l.map oI) = 0
  | [] => rfl
  | f :: fs => by
    have hb : belowV (q : Int) (oI f) = 0 := by
      unfold belowV
      rw [if_pos (fun x hx => (oI_range f x hx).2)]
    have ih := rowsV_of fs
    rw [List.map_cons]
    unfold rowsV
    rw [if_pos hb, ih]
theorem check_of (n : Int) (t : Nat) (h0 : setupV (q : Int) n (t : Int) = 0) (l : List (List (Fin q))) (hl : l.length = t + 1) (hr : ∀ f ∈ l, f.length ≤ t + 1) : checkV (q : Int) n (t : Int) (l.map oI) = 0 := by
  unfold checkV
  rw [if_pos h0, if_pos, rowsV_of]
  refine ⟨by rw [List.length_map]; omega, fun f hf => ?_⟩
  obtain ⟨g, hg, rfl⟩ := List.mem_map.1 hf
  have := hr g hg
  rw [oI_length]; omega
end
end Go.Proofs.Ytjjnfobeeflnhaa.L
/- Both polynomials that are 1 at 0 and 0 at given places, as the words tell them. -/
namespace Go.Proofs.Ytjjnfobeeflnhaa.L
open Go.RowKit Go.Proofs.YtjjnfobeeflnhaaW.PrintWords Go.Proofs.Ytjjnfobeeflnhaa.J
set_option linter.unusedVariables false
set_option linter.unusedSimpArgs false
section
variable {q : Nat} [NeZero q]
def gone (f : List (Fin q)) : List (Fin q) → List (Fin q)
  | [] => f
  | x :: xs => gone (Fld.trim (Fld.mul f [1, 0 - Fld.inv x])) xs
theorem gone_length (xs : List (Fin q)) : ∀ f : List (Fin q), (gone f xs).length ≤ f.length + xs.length := by
  induction xs with
  | nil => intro f; simp [gone]
  | cons x xs ih =>
    intro f
    have h1 := ih (Fld.trim (Fld.mul f [1, 0 - Fld.inv x]))
    have h2 := Fld.trim_mul_le f [1, 0 - Fld.inv x]
    simp only [List.length_cons, List.length_nil] at h2 ⊢
    rw [gone]; omega
theorem oI_drop_cons (xs : List (Fin q)) (i : Nat) (h : i < xs.length) : xs.drop i = Fld.co xs i :: xs.drop (i + 1) := by
  rw [List.drop_eq_getElem_cons h, Fld.co_lt h]
theorem gone_loop (h1 : 2 < q) (hq : q ≤ 65537) (xs : List (Fin q)) (hx : xs.length ≤ 1000) (m : Nat) : ∀ (i : Nat) (f : List (Fin q)), i + m = xs.length → f.length ≤ i + 1 →
    Ev (fun k => poly_Gone.l0 k (q : Int) (oI f) (oI xs) (xs.length : Int) (i : Int)) (oI (gone f (xs.drop i))) := by
  induction m with
  | zero =>
    intro i f hi hf
    rw [List.drop_of_length_le (by omega), gone]
    refine Ev.step (f := fun k => some (oI f)) (fun k => ?_) (Ev.now _)
    simp only [poly_Gone.l0]
    rw [if_neg (by omega)]
  | succ m ih =>
    intro i f hi hf
    rw [oI_drop_cons xs i (by omega), gone]
    have hw : wrap64 ((i : Int) + 1) = ((i + 1 : Nat) : Int) := by rw [w64_small (by omega) (by omega)]; omega
    have hl := Fld.trim_mul_le f [1, 0 - Fld.inv (Fld.co xs i)]
    simp only [List.length_cons, List.length_nil] at hl
    refine Ev.step (f := fun k => (field_Over.f k (q : Int) (nI (Fld.co xs i))).bind fun t => (field_Minus.f (q : Int) 0 t).bind fun u => (qcb.f k (q : Int) (oI f) [1, u]).bind fun v => poly_Gone.l0 k (q : Int) v (oI xs) (xs.length : Int) ((i + 1 : Nat) : Int)) (fun k => ?_) (Ev.bind (over_fp h1 hq _) ?_)
    · conv => lhs; simp only [poly_Gone.l0]
      rw [if_pos (by omega), if_pos (by omega), if_pos (by rw [oI_length]; omega), rd_oI, hw]
    · have e0 : (0 : Int) = nI (0 : Fin q) := nI_zero.symm
      have e1 : ∀ u : Fin q, [(1 : Int), nI u] = oI [1, u] := fun u => by rw [oI_cons, oI_cons, nI_one (by omega)]; rfl
      rw [e0, minus_fp hq]
      simp only [Option.bind_some]
      rw [e1]
      exact Ev.bind (times_rows hq f _ (by omega) (by simp)) (ih (i + 1) _ (by omega) (by omega))
theorem gone_rows (h1 : 2 < q) (hq : q ≤ 65537) (xs : List (Fin q)) (hx : xs.length ≤ 1000) : Ev (fun k => poly_Gone.f k (q : Int) (oI xs)) (oI (gone [1] xs)) := by
  have h := gone_loop h1 hq xs hx xs.length 0 [1] (by omega) (by simp)
  rw [List.drop_zero] at h
  refine Ev.congr (fun k => ?_) h
  unfold poly_Gone.f
  rw [oI_length, oI_cons, nI_one (by omega)]
  rfl
theorem away_loop (h1 : 2 < q) (hq : q ≤ 65537) (xs : List (Fin q)) (hx : xs.length ≤ 1000) (m : Nat) : ∀ (i : Nat) (f : List (Fin q)), i + m = xs.length → f.length ≤ i + 1 →
    Ev (fun k => qsb.l0 k (q : Int) (oI f) (oI xs) (xs.length : Int) (i : Int)) (oI (gone f (xs.drop i))) := by
  induction m with
  | zero =>
    intro i f hi hf
    rw [List.drop_of_length_le (by omega), gone]
    refine Ev.step (f := fun k => some (oI f)) (fun k => ?_) (Ev.now _)
    simp only [qsb.l0]
    rw [if_neg (by omega)]
  | succ m ih =>
    intro i f hi hf
    rw [oI_drop_cons xs i (by omega), gone]
    have hw : wrap64 ((i : Int) + 1) = ((i + 1 : Nat) : Int) := by rw [w64_small (by omega) (by omega)]; omega
    have hl := Fld.trim_mul_le f [1, 0 - Fld.inv (Fld.co xs i)]
    simp only [List.length_cons, List.length_nil] at hl
    refine Ev.step (f := fun k => (juntoref01_Inv.f k (q : Int) (nI (Fld.co xs i))).bind fun t => (juntoref01_Sub.f (q : Int) 0 t).bind fun u => (qra.f k (q : Int) (oI f) [1, u]).bind fun v => qsb.l0 k (q : Int) v (oI xs) (xs.length : Int) ((i + 1 : Nat) : Int)) (fun k => ?_) (Ev.bind (rinv_fp h1 hq _) ?_)
    · conv => lhs; simp only [qsb.l0]
      rw [if_pos (by omega), if_pos (by omega), if_pos (by rw [oI_length]; omega), rd_oI, hw]
    · have e0 : (0 : Int) = nI (0 : Fin q) := nI_zero.symm
      have e1 : ∀ u : Fin q, [(1 : Int), nI u] = oI [1, u] := fun u => by rw [oI_cons, oI_cons, nI_one (by omega)]; rfl
      have hs : juntoref01_Sub.f (q : Int) 0 (nI (Fld.inv (Fld.co xs i))) = some (nI (0 - Fld.inv (Fld.co xs i))) := by
        have := rsub_fp hq 0 (Fld.inv (Fld.co xs i))
        rwa [nI_zero] at this
      rw [hs]
      refine Ev.bind (Ev.now _) ?_
      rw [e1]
      exact Ev.bind (rmul_rows hq f _ (by omega) (by simp)) (ih (i + 1) _ (by omega) (by omega))
theorem away_rows (h1 : 2 < q) (hq : q ≤ 65537) (xs : List (Fin q)) (hx : xs.length ≤ 1000) : Ev (fun k => qsb.f k (q : Int) (oI xs)) (oI (gone [1] xs)) := by
  have h := away_loop h1 hq xs hx xs.length 0 [1] (by omega) (by simp)
  rw [List.drop_zero] at h
  refine Ev.congr (fun k => ?_) h
  unfold qsb.f
  rw [oI_length, oI_cons, nI_one (by omega)]
  rfl
end
end Go.Proofs.Ytjjnfobeeflnhaa.L
/- The statement ShareSetups as plain Lean: both tests of a setup and both tests of a list of corrupted parties answer alike. -/
namespace Go.Proofs.Ytjjnfobeeflnhaa.L
open Go.RowKit Go.Proofs.YtjjnfobeeflnhaaW.PrintWords Go.Proofs.Ytjjnfobeeflnhaa.J
set_option linter.unusedVariables false
set_option linter.unusedSimpArgs false
def riseV (n : Int) : Int → List Int → Bool
  | _, [] => true
  | prev, x :: xs => if x ≤ prev then false else if x > n then false else riseV n x xs
def corrV (p n t : Int) (l : List Int) : Int :=
  if setupV2 p n t = 0 then (if (l.length : Int) > t then 2 else if riseV n 0 l = true then 0 else 2) else setupV2 p n t
where setupV2 (p n t : Int) : Int := setupV p n t
theorem rd_at (l : List Int) (i : Nat) (h : i < l.length) : rd l (i : Int) = l[i] := by
  simp [rd, List.getD_eq_getElem?_getD, h]
theorem share_rise (p n t : Int) (l : List Int) (hs : l.length ≤ maxLen) : ∀ (m i : Nat) (prev : Int), i + m = l.length → Ev (fun k => qlb.l0 k prev l (l.length : Int) (i : Int) p n t) (if riseV n prev (l.drop i) = true then 0 else 2)
  | 0, i, prev, hi => by
    rw [List.drop_of_length_le (by omega)]
    refine Ev.step (f := fun k => some 0) (fun k => ?_) (Ev.now _)
    simp only [qlb.l0]
    rw [if_neg (by omega)]
  | m + 1, i, prev, hi => by
    have hm : (l.length : Int) ≤ 9223372036854775807 := by simp only [maxLen] at hs; omega
    have hlt : i < l.length := by omega
    rw [List.drop_eq_getElem_cons hlt]
    unfold riseV
    by_cases h1 : l[i] ≤ prev
    · simp only [h1, if_true, Bool.false_eq_true, if_false]
      refine Ev.step (f := fun k => some 2) (fun k => ?_) (Ev.now _)
      simp only [qlb.l0]
      rw [if_pos (by omega), if_pos (by omega), if_pos (by omega), rd_at l i hlt, if_pos h1]
    · by_cases h2 : l[i] > n
      · simp only [h1, h2, if_true, Bool.false_eq_true, if_false]
        refine Ev.step (f := fun k => some 2) (fun k => ?_) (Ev.now _)
        simp only [qlb.l0]
        rw [if_pos (by omega), if_pos (by omega), if_pos (by omega), rd_at l i hlt, if_neg h1, if_pos h2]
      · simp only [h1, h2, if_false]
        refine Ev.step (f := fun k => qlb.l0 k l[i] l (l.length : Int) ((i + 1 : Nat) : Int) p n t) (fun k => ?_) (share_rise p n t l hs m (i + 1) l[i] (by omega))
        conv => lhs; simp only [qlb.l0]
        rw [if_pos (by omega), if_pos (by omega), if_pos (by omega), rd_at l i hlt, if_neg h1, if_neg h2, w64_small (by omega) (by omega)]
        rfl
theorem ref_rise (n : Int) (l : List Int) (hs : l.length ≤ maxLen) : ∀ (m i : Nat) (prev : Int), i + m = l.length → 0 ≤ prev → (i = 0 → prev = 0) → (∀ h : 0 < i ∧ i - 1 < l.length, prev = l[i - 1]'h.2 ∧ 1 ≤ prev) →
    Ev (fun k => qeb.l0 k n l l (l.length : Int) (i : Int)) (riseV n prev (l.drop i))
  | 0, i, prev, hi, hp, hz, hq => by
    rw [List.drop_of_length_le (by omega)]
    refine Ev.step (f := fun k => some true) (fun k => ?_) (Ev.now _)
    simp only [qeb.l0]
    rw [if_neg (by omega)]
  | m + 1, i, prev, hi, hp, hz, hq => by
    have hm : (l.length : Int) ≤ 9223372036854775807 := by simp only [maxLen] at hs; omega
    have hlt : i < l.length := by omega
    rw [List.drop_eq_getElem_cons hlt]
    unfold riseV
    by_cases h0 : l[i] < 1
    · have h1 : l[i] ≤ prev := by omega
      simp only [h1, if_true]
      refine Ev.step (f := fun k => some false) (fun k => ?_) (Ev.now _)
      simp only [qeb.l0]
      rw [if_pos (by omega), if_pos (by omega), if_pos (by omega), rd_at l i hlt, if_pos h0]
    · by_cases h2 : l[i] > n
      · have e : (if l[i] ≤ prev then false else if l[i] > n then false else riseV n l[i] (l.drop (i + 1))) = false := by
          split
          · rfl
          · first | rfl | rw [if_pos h2]
        rw [e]
        refine Ev.step (f := fun k => some false) (fun k => ?_) (Ev.now _)
        simp only [qeb.l0]
        rw [if_pos (by omega), if_pos (by omega), if_pos (by omega), rd_at l i hlt, if_neg h0, if_pos h2]
      · have next : ¬ l[i] ≤ prev → Ev (fun k => qeb.l0 k n l l (l.length : Int) ((i + 1 : Nat) : Int)) (if l[i] ≤ prev then false else if l[i] > n then false else riseV n l[i] (l.drop (i + 1))) := by
          intro h1
          rw [if_neg h1, if_neg h2]
          exact ref_rise n l hs m (i + 1) l[i] (by omega) (by omega) (by omega) (fun h => ⟨rfl, by omega⟩)
        by_cases hi0 : i = 0
        · have hpz := hz hi0
          refine Ev.step (f := fun k => qeb.l0 k n l l (l.length : Int) ((i + 1 : Nat) : Int)) (fun k => ?_) (next (by omega))
          conv => lhs; simp only [qeb.l0]
          rw [if_pos (by omega), if_pos (by omega), if_pos (by omega), rd_at l i hlt, if_neg h0, if_neg h2, if_neg (by omega), w64_small (by omega) (by omega)]
          rfl
        · obtain ⟨hp1, hp2⟩ := hq ⟨by omega, by omega⟩
          have hr : rd l (((i - 1 : Nat)) : Int) = prev := by rw [rd_at l (i - 1) (by omega)]; exact hp1.symm
          have hw : wrap64 ((i : Int) - 1) = ((i - 1 : Nat) : Int) := by rw [w64_small (by omega) (by omega)]; omega
          by_cases h1 : l[i] ≤ prev
          · rw [if_pos h1]
            refine Ev.step (f := fun k => some false) (fun k => ?_) (Ev.now _)
            simp only [qeb.l0]
            rw [if_pos (by omega), if_pos (by omega), if_pos (by omega), rd_at l i hlt, if_neg h0, if_neg h2, if_pos (by omega), hw, if_pos (by omega), if_pos (by omega), hr, if_pos (by omega)]
          · refine Ev.step (f := fun k => qeb.l0 k n l l (l.length : Int) ((i + 1 : Nat) : Int)) (fun k => ?_) (next h1)
            conv => lhs; simp only [qeb.l0]
            rw [if_pos (by omega), if_pos (by omega), if_pos (by omega), rd_at l i hlt, if_neg h0, if_neg h2, if_pos (by omega), hw, if_pos (by omega), if_pos (by omega), hr, if_neg (by omega), w64_small (by omega) (by omega)]
            rfl
theorem share_corr (p n t : Int) (l : List Int) (hs : l.length ≤ maxLen) : Ev (fun k => qlb.f k p n t l) (corrV p n t l) := by
  unfold qlb.f corrV corrV.setupV2
  refine Ev.bind (share_setup p n t) ?_
  by_cases h0 : setupV p n t = 0
  · simp only [h0, if_true]
    by_cases h1 : (l.length : Int) > t
    · simp only [h1, if_true]
      exact Ev.now _
    · simp only [h1, if_false]
      exact share_rise p n t l hs l.length 0 0 (by omega)
  · simp only [h0, if_false]
    exact Ev.now _
theorem ref_corr (p n t : Int) (l : List Int) (hs : l.length ≤ maxLen) : Ev (fun k => qtb.f k p n t l) (corrV p n t l) := by
  unfold qtb.f corrV corrV.setupV2
  refine Ev.bind (ref_setup p n t) ?_
  by_cases h0 : setupV p n t = 0
  · simp only [h0, if_true]
    by_cases h1 : (l.length : Int) > t
    · simp only [h1, if_true]
      exact Ev.now _
    · simp only [h1, if_false]
      have h := ref_rise n l hs l.length 0 0 (by omega) (by omega) (fun _ => rfl) (fun h => by omega)
      refine Ev.bind (a := riseV n 0 l) h ?_
      by_cases h2 : riseV n 0 l = true
      · simp only [h2, if_true]
        exact Ev.now _
      · simp only [h2, if_false]
        exact Ev.now _
  · simp only [h0, if_false]
    exact Ev.now _
end Go.Proofs.Ytjjnfobeeflnhaa.L
/- Both ways to move a polynomial to another secret answer alike, and what they answer. -/
namespace Go.Proofs.Ytjjnfobeeflnhaa.L
open Go.RowKit Go.Proofs.YtjjnfobeeflnhaaW.PrintWords Go.Proofs.Ytjjnfobeeflnhaa.J
set_option linter.unusedVariables false
set_option linter.unusedSimpArgs false
theorem rise_mem {n : Int} : ∀ {l : List Int} {prev : Int}, riseV n prev l = true → ∀ x ∈ l, prev < x ∧ x ≤ n
  | [], _, _, x, hx => by cases hx
  | a :: l, prev, h, x, hx => by
    unfold riseV at h
    split at h
    · cases h
    · split at h
      · cases h
      · rcases List.mem_cons.1 hx with rfl | h'
        · omega
        · have := rise_mem h x h'
          omega
theorem corrV_zero {p n t : Int} {l : List Int} (h : corrV p n t l = 0) : setupV p n t = 0 ∧ (l.length : Int) ≤ t ∧ riseV n 0 l = true := by
  unfold corrV corrV.setupV2 at h
  split at h
  · split at h
    · cases h
    · split at h
      · exact ⟨by assumption, by omega, by assumption⟩
      · cases h
  · contradiction
section
variable {q : Nat}
theorem places_of {n : Int} {l : List Int} (hr : riseV n 0 l = true) (hn : n < (q : Int)) (hq : q ≤ 65537) : ∃ xs : List (Fin q), oI xs = l ∧ (l.map fun x => IntKind.u64.wrap x) = oI xs ∧ xs.length = l.length := by
  have hm := rise_mem hr
  have e : (l.map fun x => IntKind.u64.wrap x) = l := by
    conv => rhs; rw [← List.map_id l]
    apply List.map_congr_left
    intro x hx
    have := hm x hx
    exact u64_small (by omega) (by omega)
  obtain ⟨xs, hxs⟩ := oI_of (q := q) (l := l) (fun c hc => by have := hm c hc; omega)
  exact ⟨xs, hxs, by rw [e, hxs], by rw [← hxs, oI_length]⟩
end
end Go.Proofs.Ytjjnfobeeflnhaa.L
/- The statement TwiceCuts as plain Lean. -/
namespace Go.Proofs.Ytjjnfobeeflnhaa.L
open Go.RowKit Go.Proofs.YtjjnfobeeflnhaaW.PrintWords Go.Proofs.Ytjjnfobeeflnhaa.J
set_option linter.unusedVariables false
set_option linter.unusedSimpArgs false
section
variable {q : Nat} [NeZero q]
theorem gone_co0 : ∀ (xs f : List (Fin q)), Fld.co (gone f xs) 0 = Fld.co f 0
  | [], f => rfl
  | x :: xs, f => by
    rw [gone, gone_co0 xs, Fld.trim_co _ 0, Fld.co_mul]
    unfold Fld.cv
    show (0 : Fin q) + Fld.co f 0 * Fld.co [1, 0 - Fld.inv x] (0 - 0) = _
    rw [Nat.sub_zero, Fld.co_cons_zero]; grind
theorem gone_ne (hp : Fld.Pr q) (xs : List (Fin q)) : Fld.trim (gone [1] xs) ≠ [] := by
  intro h
  have h0 := gone_co0 xs [1]
  rw [← Fld.trim_co (gone [1] xs) 0, h, Fld.co_nil, Fld.co_cons_zero] at h0
  exact Fld.one_ne_zero hp h0.symm
end
end Go.Proofs.Ytjjnfobeeflnhaa.L
/- The statement ShareThere as plain Lean. -/
namespace Go.Proofs.Ytjjnfobeeflnhaa.L
open Go.RowKit Go.Proofs.YtjjnfobeeflnhaaW.PrintWords Go.Proofs.Ytjjnfobeeflnhaa.J
set_option linter.unusedVariables false
set_option linter.unusedSimpArgs false
section
variable {q : Nat} [NeZero q]
theorem gone_keeps : ∀ (xs f : List (Fin q)) (z : Fin q), Fld.ev f z = 0 → Fld.ev (gone f xs) z = 0
  | [], f, z, h => h
  | x :: xs, f, z, h => by
    rw [gone]
    refine gone_keeps xs _ z ?_
    rw [(Fld.trim_co _).ev, Fld.ev_mul, h]; grind
theorem gone_root (hp : Fld.Pr q) : ∀ (xs f : List (Fin q)) (z : Fin q), z ∈ xs → z ≠ 0 → Fld.ev (gone f xs) z = 0
  | x :: xs, f, z, h, h0 => by
    rw [gone]
    by_cases e : z = x
    · subst e
      refine gone_keeps xs _ z ?_
      have hi := Fld.inv_mul hp h0
      rw [(Fld.trim_co _).ev, Fld.ev_mul, Fld.ev_cons, Fld.ev_cons, Fld.ev_nil]
      generalize Fld.inv z = v at hi
      grind
    · refine gone_root hp xs _ z ?_ h0
      rcases List.mem_cons.1 h with h | h
      · exact absurd h e
      · exact h
end
end Go.Proofs.Ytjjnfobeeflnhaa.L
