/- Part 2 of the proof of TwiceMakes: what the functions compute as plain Lean functions, that the machine comes to just these answers, and that the answer is true; no conditions. -/
import Derived.Test.YtjjnfobeeflnhaaTwiceMakesZ0
import Derived.Test.YtjjnfobeeflnhaaTwiceMakesZ1
import Derived.Deep.Slices
import Derived.ChangeArms
import Derived.DataReads
import Derived.SizedLaws
import Derived.WideShapes
import Derived.Test.YtjjnfobeeflnhaaRows
import Derived.JoinedOf
import Derived.KernelRfl
import Derived.WalkSmall
import Derived.WalkKit
import Derived.ProofKit
import Derived.OpenShut
import Derived.ShutString
import Derived.ChangeOld
import Derived.Below
/- What comes in laid out as a type says is a value of a kind, within the bounds that its weights leave: once for every type. -/
namespace Go.Proofs.Ytjjnfobeeflnhaa.Op
open Go.RowKit Go.Proofs.YtjjnfobeeflnhaaW.PrintWords Go.Proofs.YtjjnfobeeflnhaaW.PrintLast Go.Proofs.YtjjnfobeeflnhaaW.PrintMore

def Opens {α : Type} (P : Program) (d : Kd α) (t : TypeId) (wf : α → Prop) : Prop :=
  ∀ (H : Type) (enc : TypeId × Value → H) (w : World) (base fuel : Nat) (spare : Nat → Bool) (held : Bool) (cs : List Value) (x : DataW H × List MemPlace), cs.length = d.sz →
    DataW.trod enc P w base spare held fuel t cs = some x → (x.1.weights P t).all (· ≤ reachBytes) = true → ∃ a, d.K w a cs ∧ wf a

theorem op_int {P : Program} {t : TypeId} {k : IntKind} (ht : P.underlying t = some (.int k)) : Opens P (Kd.int k) t (fun n => (Lit.int k n).wf = true) := by
  intro H enc w base fuel spare held cs x _ h _
  obtain ⟨n, rfl, _, hw⟩ := DataW.trod_int ht h
  exact ⟨n, rfl, hw⟩

theorem op_bool {P : Program} {t : TypeId} (ht : P.underlying t = some .bool) : Opens P Kd.bool t (fun _ => True) := by
  intro H enc w base fuel spare held cs x _ h _
  obtain ⟨n, rfl, _⟩ := DataW.trod_bool ht h
  exact ⟨n, rfl, trivial⟩

theorem all_weights {H : Type} {P : Program} {e : TypeId} {p : Nat → Bool} : ∀ (ds : List (DataW H)), (DataW.weightsAll P e ds).all p = true → ∀ d ∈ ds, (d.weights P e).all p = true
  | [], _, d, hd => by simp at hd
  | a :: r, h, d, hd => by
    unfold DataW.weightsAll at h
    rw [List.all_append, Bool.and_eq_true] at h
    rcases List.mem_cons.1 hd with rfl | hd
    · exact h.1
    · exact all_weights r h.2 d hd

theorem add_add_ (a : Addr) (i j : Nat) : a.add (i + j) = (a.add i).add j := by
  cases a
  unfold Addr.add
  rcases Nat.eq_zero_or_pos i with hi | hi <;> rcases Nat.eq_zero_or_pos j with hj | hj
  · simp [hi, hj]
  · simp [hi, show j ≠ 0 by omega]
  · simp [hj, show i ≠ 0 by omega]
  · simp [show i ≠ 0 by omega, show j ≠ 0 by omega, Nat.add_assoc]

theorem pick {β : Type} {p : Nat → β → Prop} : ∀ n, (∀ i : Nat, i < n → ∃ q, p i q) → ∃ l : List β, l.length = n ∧ ∀ (i : Nat) (q : β), l[i]? = some q → p i q
  | 0, _ => ⟨[], rfl, fun i q h => by simp at h⟩
  | n + 1, h => by
    obtain ⟨l, hl, hp⟩ := pick n (fun i hi => h i (by omega))
    obtain ⟨q, hq⟩ := h n (by omega)
    refine ⟨l ++ [q], by simp [hl], fun i r hr => ?_⟩
    rcases Nat.lt_or_ge i l.length with hi | hi
    · rw [List.getElem?_append_left hi] at hr
      exact hp i r hr
    · rw [List.getElem?_append_right hi] at hr
      have h0 : i - l.length = 0 := by
        rcases Nat.eq_zero_or_pos (i - l.length) with h' | h'
        · exact h'
        · rw [List.getElem?_eq_none (by simp; omega)] at hr; cases hr
      rw [h0] at hr
      obtain rfl : q = r := by simpa using hr
      have : i = n := by omega
      rw [this]; exact hq

theorem weights_at {H : Type} {P : Program} {p : Nat → Bool} : ∀ (ts : List TypeId) (ds : List (DataW H)) (j : Nat) {t : TypeId} {d : DataW H}, (DataW.weightsEach P ts ds).all p = true → ts[j]? = some t → ds[j]? = some d → (d.weights P t).all p = true
  | [], _, _, _, _, _, ht, _ => by simp at ht
  | _ :: _, [], _, _, _, _, _, hd => by simp at hd
  | t :: ts, d :: ds, j, t', d', h, ht, hd => by
    unfold DataW.weightsEach at h
    rw [List.all_append, Bool.and_eq_true] at h
    match j, ht, hd with
    | 0, ht, hd =>
      obtain rfl : t = t' := by simpa using ht
      obtain rfl : d = d' := by simpa using hd
      exact h.1
    | j + 1, ht, hd => exact weights_at ts ds j h.2 (by simpa using ht) (by simpa using hd)

theorem op_slice {α : Type} {P : Program} {d : Kd α} {t e : TypeId} {B : Nat} {wf : α → Prop} (ht : P.underlying t = some (.slice e)) (hB : P.bytesOf e = B) (hsz : P.cellsOf e = d.sz) (he : Opens P d e wf) :
    Opens P (Kd.slice e d) t (fun l => l.length ≤ maxLen ∧ l.length * B ≤ 140737488351232 ∧ ∀ a ∈ l, wf a) := by
  intro H enc w base fuel spare held cs x _ h hw
  rcases Go.Deep.open_slice ht h with ⟨rfl, _⟩ | ⟨a, len, cap, m, n, D, Pl, rfl, hb, hl, hm, hmm, rfl, hx⟩
  · exact ⟨[], ⟨none, 0, rfl, Nat.le_refl _, rfl, Nat.zero_le _, fun h0 => absurd h0 (by simp)⟩, by simp, by simp, fun a ha => by simp at ha⟩
  · have hlm : len ≤ m := by rw [hmm]; split <;> omega
    simp only [DataW.weights, ht, List.all_cons, List.all_append, Bool.and_eq_true, List.length_map, List.length_range] at hw
    obtain ⟨hw0, hw1, _⟩ := hw
    have each : ∀ i : Nat, i < len → ∃ q : α, wf q ∧ ∃ c : List Value, c.length = d.sz ∧ d.K w q c ∧ ∀ j u, c[j]? = some u → w.cell? (a.add (i * d.sz + j)) = some u := by
      intro i hi
      obtain ⟨cs', h1, h2⟩ := hx i (by omega)
      rw [hsz] at h1
      obtain ⟨_, hlen, hcell⟩ := World.cells?_some h1
      obtain ⟨y, hK, hwf⟩ := he H enc w base n spare held cs' _ hlen h2 (all_weights _ hw1 _ (List.mem_map.2 ⟨i, List.mem_range.2 hi, rfl⟩))
      refine ⟨y, hwf, cs', hlen, hK, fun j u hu => ?_⟩
      have hj : j < d.sz := by
        rw [← hlen]
        rcases Nat.lt_or_ge j cs'.length with h' | h'
        · exact h'
        · rw [List.getElem?_eq_none h'] at hu; cases hu
      have := hcell j hj
      rw [hu] at this
      rw [show a.add (i * d.sz + j) = (a.add (i * d.sz)).add j from add_add_ _ _ _]
      exact this
    obtain ⟨l, rfl, hl2⟩ := pick len each
    refine ⟨l, ⟨some a, cap, rfl, hl, rfl, Nat.le_trans hl hm, fun _ => ⟨a, rfl, fun j p hj => (hl2 j p hj).2⟩⟩, Nat.le_trans hl hm, ?_, ?_⟩
    · have hw2 := of_decide_eq_true hw0
      rw [hB] at hw2
      exact Nat.le_trans (Nat.mul_le_mul_right _ (by omega)) hw2
    · intro y hy
      obtain ⟨j, hj⟩ := List.mem_iff_getElem?.1 hy
      exact (hl2 j y hj).1

/-- Fields in line, from the place o on. -/
def OpL {β : Type} (P : Program) (d : Kd β) (fs : List Field) (o : Nat) (wf : β → Prop) : Prop :=
  ∀ (H : Type) (enc : TypeId × Value → H) (w : World) (base n : Nat) (spare : Nat → Bool) (held : Bool) (cs : List Value) (xs : List (DataW H × List MemPlace)), cs.length = d.sz → xs.length = fs.length →
    (∀ (i : Nat) (f : Field), fs[i]? = some f → DataW.trod enc P w base spare held n f.type ((cs.drop (f.offset - o)).take (P.cellsOf f.type)) = xs[i]?) →
    (DataW.weightsEach P (fs.map (·.type)) (xs.map (·.1))).all (· ≤ reachBytes) = true → ∃ a, d.K w a cs ∧ wf a

theorem opL_one {β : Type} {P : Program} {d : Kd β} {f : Field} {o : Nat} {wf : β → Prop} (ho : f.offset = o) (hc : P.cellsOf f.type = d.sz) (h : Opens P d f.type wf) : OpL P d [f] o wf := by
  intro H enc w base n spare held cs xs hl hx hf hw
  match xs, hx with
  | [y], _ =>
    have h0 := hf 0 f rfl
    rw [ho, Nat.sub_self, List.drop_zero, hc, ← hl, List.take_length] at h0
    simp only [List.map_cons, List.map_nil, DataW.weightsEach, List.append_nil] at hw
    exact h H enc w base n spare held cs y hl h0 hw

theorem opL_cons {α β : Type} {P : Program} {d1 : Kd α} {d : Kd β} {f : Field} {fs : List Field} {o : Nat} {wf1 : α → Prop} {wf : β → Prop} (ho : f.offset = o) (hc : P.cellsOf f.type = d1.sz) (h1 : Opens P d1 f.type wf1)
    (hfs0 : (fs.all fun g => decide (o + d1.sz ≤ g.offset)) = true) (h : OpL P d fs (o + d1.sz) wf) : OpL P (Kd.pair d1 d) (f :: fs) o (fun x => wf1 x.1 ∧ wf x.2) := by
  have hfs : ∀ g ∈ fs, o + d1.sz ≤ g.offset := fun g hg => of_decide_eq_true (List.all_eq_true.1 hfs0 g hg)
  intro H enc w base n spare held cs xs hl hx hf hw
  have hl' : cs.length = d1.sz + d.sz := hl
  match xs, hx with
  | y :: ys, hx =>
    have h0 := hf 0 f rfl
    rw [ho, Nat.sub_self, List.drop_zero, hc] at h0
    simp only [List.map_cons, DataW.weightsEach, List.all_append, Bool.and_eq_true] at hw
    obtain ⟨a, ka, wa⟩ := h1 H enc w base n spare held (cs.take d1.sz) y (by rw [List.length_take]; omega) h0 hw.1
    obtain ⟨b, kb, wb⟩ := h H enc w base n spare held (cs.drop d1.sz) ys (by rw [List.length_drop]; omega) (by simpa using hx) (fun i g hg => by
      have := hf (i + 1) g (by simpa using hg)
      rw [List.drop_drop]
      have hg2 := hfs g (List.mem_of_getElem? hg)
      rw [show d1.sz + (g.offset - (o + d1.sz)) = g.offset - o by omega, this]
      simp) hw.2
    exact ⟨(a, b), ⟨cs.take d1.sz, cs.drop d1.sz, (List.take_append_drop _ _).symm, ka, kb⟩, wa, wb⟩

theorem op_struct {α β : Type} {P : Program} {d : Kd α} {t : TypeId} {fs : Array Field} {wf : α → Prop} {p : β → α} (g : α → β) (hg : ∀ a, p (g a) = a) (ht : P.underlying t = some (.struct fs)) (h : OpL P d fs.toList 0 wf) :
    Opens P (Kd.iso d p) t (fun b => wf (p b)) := by
  intro H enc w base fuel spare held cs x hl hx hw
  obtain ⟨xs, n, rfl, rfl, _, hxl, hf⟩ := DataW.trod_struct ht hx
  simp only [DataW.weights, ht] at hw
  obtain ⟨a, ka, wa⟩ := h H enc w base n spare held cs xs hl (by simpa using hxl) (fun i f hi => by
    rw [Nat.sub_zero]
    exact hf i f (by simpa using hi)) hw
  refine ⟨g a, ?_, ?_⟩
  · show d.K w (p (g a)) cs
    rw [hg]; exact ka
  · show wf (p (g a))
    rw [hg]; exact wa

theorem op_agg {α : Type} {P : Program} {d : Kd α} {t : TypeId} {fs : Array Field} {wf : α → Prop} (ht : P.underlying t = some (.struct fs)) (h : OpL P d fs.toList 0 wf) : Opens P d t wf :=
  op_struct (d := d) (p := fun a => a) (fun a => a) (fun _ => rfl) ht h

theorem okWide_agg {P : Program} {W : World} {r : Reach} {b0 : Nat} {t : TypeId} {fs : Array Field} {v : Value} (ht : P.underlying t = some (.struct fs)) (h : Value.okWide P W r b0 t v) : ∃ cs, v = .agg cs ∧ cs.size = P.cellsOf t := by
  simp only [Value.okWide, ht] at h
  obtain ⟨cs, h1, h2, _⟩ := h
  exact ⟨cs, h1, h2⟩

/-- One argument. -/
theorem arg {α H : Type} {enc : TypeId × Value → H} {P : Program} {d : Kd α} {t : TypeId} {wf : α → Prop} (h : Opens P d t wf) {w : World} {base : Nat} {spare : Nat → Bool} {held : Bool} {v : Value} {x : DataW H} {ps : List MemPlace}
    (hl : v.cells.toList.length = d.sz) (hv : DataW.Trod enc P w base spare held t v x ps) {ts : List TypeId} {ds : List (DataW H)} {j : Nat} (hsz : (DataW.weightsEach P ts ds).all (· ≤ reachBytes) = true) (ht : ts[j]? = some t) (hd : ds[j]? = some x) :
    ∃ a, d.K w a v.cells.toList ∧ wf a := by
  obtain ⟨fuel, hf⟩ := hv
  exact h H enc w base fuel spare held _ _ hl hf (weights_at ts ds j hsz ht hd)

end Go.Proofs.Ytjjnfobeeflnhaa.Op

/- Three closed facts over the whole program, with its header's words as numbers. -/
namespace Go.Proofs.Ytjjnfobeeflnhaa.Facts
theorem toList_of (s : String) (l : List Char) (h : s = String.ofList l) : s.toList = l := by rw [h, String.toList_ofList]
def glue : List (List Char) → List Char
  | [] => []
  | [w] => w
  | w :: v :: r => w ++ Char.ofNat 32 :: glue (v :: r)
theorem signs_space (r : List Char) : wordsSigns (Char.ofNat 32 :: r) = [] :: wordsSigns r := rfl
theorem signs_cons (c : Char) (r : List Char) (h : c ≠ Char.ofNat 32) (w : List Char) (ws : List (List Char)) (e : wordsSigns r = w :: ws) : wordsSigns (c :: r) = (c :: w) :: ws := by
  rw [wordsSigns]
  · rw [e]
  · exact h
theorem signs_one : ∀ (w : List Char), (∀ c ∈ w, c ≠ Char.ofNat 32) → wordsSigns w = [w]
  | [], _ => rfl
  | c :: w, h => signs_cons c w (h c (List.mem_cons_self ..)) _ _ (signs_one w (fun d hd => h d (List.mem_cons_of_mem _ hd)))
theorem signs_more (r : List Char) : ∀ (w : List Char), (∀ c ∈ w, c ≠ Char.ofNat 32) → wordsSigns (w ++ Char.ofNat 32 :: r) = w :: wordsSigns r
  | [], _ => signs_space r
  | c :: w, h => signs_cons c _ (h c (List.mem_cons_self ..)) _ _ (signs_more r w (fun d hd => h d (List.mem_cons_of_mem _ hd)))
theorem signs_glue : ∀ (ws : List (List Char)), ws ≠ [] → (∀ w ∈ ws, ∀ c ∈ w, c ≠ Char.ofNat 32) → wordsSigns (glue ws) = ws
  | [], h, _ => absurd rfl h
  | [w], _, h => signs_one w (h w (List.mem_cons_self ..))
  | w :: v :: r, _, h => by
    rw [glue, signs_more _ w (h w (List.mem_cons_self ..)), signs_glue (v :: r) (by simp) (fun u hu => h u (List.mem_cons_of_mem _ hu))]
def W : List (List Char) := (List.map (List.map Char.ofNat) [[104, 97, 114, 110, 101, 115, 115],
  [56, 98, 98, 99, 100, 53, 56, 100, 55, 50, 48, 97, 53, 56, 100, 57, 52, 98, 55, 57, 101, 52, 50, 101, 52, 51, 102, 99, 99, 49, 53, 53, 57, 54, 97, 50, 97, 48, 101, 99, 97, 98, 49, 48, 54, 55, 52, 48, 102, 55, 97, 48, 53, 52, 57, 55, 52, 100, 97, 52, 102, 54, 100, 56],
  [99, 117, 116],
  [97, 116],
  [106, 117, 110, 116, 111, 47, 106, 117, 110, 116, 111, 108, 97, 119, 48, 55, 46, 84, 119, 105, 99, 101, 67, 104, 101, 99, 107, 115],
  [106, 117, 110, 116, 111, 47, 106, 117, 110, 116, 111, 108, 97, 119, 48, 55, 46, 84, 119, 105, 99, 101, 77, 97, 107, 101, 115],
  [106, 117, 110, 116, 111, 47, 106, 117, 110, 116, 111, 108, 97, 119, 48, 55, 46, 84, 119, 105, 99, 101, 86, 97, 108, 117, 101, 115],
  [106, 117, 110, 116, 111, 47, 106, 117, 110, 116, 111, 108, 97, 119, 48, 55, 46, 84, 119, 105, 99, 101, 80, 114, 111, 100, 117, 99, 116],
  [106, 117, 110, 116, 111, 47, 106, 117, 110, 116, 111, 108, 97, 119, 48, 55, 46, 84, 119, 105, 99, 101, 74, 111, 105, 110, 115],
  [106, 117, 110, 116, 111, 47, 106, 117, 110, 116, 111, 108, 97, 119, 48, 55, 46, 84, 119, 105, 99, 101, 79, 110, 101],
  [106, 117, 110, 116, 111, 47, 106, 117, 110, 116, 111, 108, 97, 119, 48, 55, 46, 84, 119, 105, 99, 101, 77, 111, 118, 101, 115],
  [106, 117, 110, 116, 111, 47, 106, 117, 110, 116, 111, 108, 97, 119, 48, 52, 46, 83, 104, 97, 114, 101, 83, 101, 116, 117, 112, 115],
  [106, 117, 110, 116, 111, 47, 106, 117, 110, 116, 111, 108, 97, 119, 48, 52, 46, 83, 104, 97, 114, 101, 77, 97, 107, 101, 115],
  [106, 117, 110, 116, 111, 47, 106, 117, 110, 116, 111, 108, 97, 119, 48, 52, 46, 83, 104, 97, 114, 101, 86, 97, 108, 117, 101, 115],
  [106, 117, 110, 116, 111, 47, 106, 117, 110, 116, 111, 108, 97, 119, 48, 52, 46, 83, 104, 97, 114, 101, 77, 111, 118, 101, 115],
  [106, 117, 110, 116, 111, 47, 106, 117, 110, 116, 111, 108, 97, 119, 48, 52, 46, 83, 104, 97, 114, 101, 78, 111, 116, 104, 105, 110, 103],
  [106, 117, 110, 116, 111, 47, 106, 117, 110, 116, 111, 108, 97, 119, 48, 52, 46, 83, 104, 97, 114, 101, 79, 110, 108, 121],
  [106, 117, 110, 116, 111, 47, 106, 117, 110, 116, 111, 108, 97, 119, 48, 52, 46, 83, 104, 97, 114, 101, 84, 104, 101, 114, 101],
  [106, 117, 110, 116, 111, 47, 106, 117, 110, 116, 111, 108, 97, 119, 48, 52, 46, 83, 104, 97, 114, 101, 83, 117, 109, 115],
  [106, 117, 110, 116, 111, 47, 106, 117, 110, 116, 111, 108, 97, 119, 48, 52, 46, 83, 104, 97, 114, 101, 70, 105, 116, 115],
  [106, 117, 110, 116, 111, 47, 106, 117, 110, 116, 111, 108, 97, 119, 48, 55, 46, 84, 119, 105, 99, 101, 67, 117, 116, 115],
  [106, 117, 110, 116, 111, 47, 106, 117, 110, 116, 111, 108, 97, 119, 48, 55, 46, 84, 119, 105, 99, 101, 77, 111, 118, 101, 100],
  [106, 117, 110, 116, 111, 47, 106, 117, 110, 116, 111, 108, 97, 119, 48, 50, 46, 80, 111, 108, 121, 84, 104, 114, 111, 117, 103, 104],
  [106, 117, 110, 116, 111, 47, 106, 117, 110, 116, 111, 108, 97, 119, 48, 50, 46, 80, 111, 108, 121, 87, 101, 105, 103, 104, 116, 115],
  [106, 117, 110, 116, 111, 47, 106, 117, 110, 116, 111, 108, 97, 119, 48, 50, 46, 80, 111, 108, 121, 65, 119, 97, 121],
  [106, 117, 110, 116, 111, 47, 106, 117, 110, 116, 111, 108, 97, 119, 48, 50, 46, 80, 111, 108, 121, 83, 108, 111, 112, 101, 115],
  [106, 117, 110, 116, 111, 47, 106, 117, 110, 116, 111, 108, 97, 119, 48, 50, 46, 80, 111, 108, 121, 80, 114, 111, 100, 117, 99, 116, 115],
  [106, 117, 110, 116, 111, 47, 106, 117, 110, 116, 111, 108, 97, 119, 48, 50, 46, 80, 111, 108, 121, 83, 117, 109, 115],
  [106, 117, 110, 116, 111, 47, 106, 117, 110, 116, 111, 108, 97, 119, 48, 50, 46, 80, 111, 108, 121, 66, 97, 99, 107],
  [106, 117, 110, 116, 111, 47, 106, 117, 110, 116, 111, 108, 97, 119, 48, 50, 46, 80, 111, 108, 121, 86, 97, 108, 117, 101, 115],
  [106, 117, 110, 116, 111, 47, 106, 117, 110, 116, 111, 108, 97, 119, 48, 50, 46, 80, 111, 108, 121, 82, 111, 111, 116, 115],
  [106, 117, 110, 116, 111, 47, 106, 117, 110, 116, 111, 108, 97, 119, 48, 50, 46, 80, 111, 108, 121, 70, 101, 119],
  [106, 117, 110, 116, 111, 47, 106, 117, 110, 116, 111, 108, 97, 119, 48, 50, 46, 80, 111, 108, 121, 86, 97, 108, 117, 101, 100],
  [106, 117, 110, 116, 111, 47, 106, 117, 110, 116, 111, 108, 97, 119, 48, 50, 46, 80, 111, 108, 121, 81, 117, 111, 116, 105, 101, 110, 116, 115],
  [106, 117, 110, 116, 111, 47, 106, 117, 110, 116, 111, 108, 97, 119, 48, 50, 46, 80, 111, 108, 121, 65, 112, 97, 114, 116],
  [106, 117, 110, 116, 111, 47, 106, 117, 110, 116, 111, 108, 97, 119, 48, 52, 46, 83, 104, 97, 114, 101, 83, 101, 99, 114, 101, 116, 115],
  [106, 117, 110, 116, 111, 47, 106, 117, 110, 116, 111, 108, 97, 119, 48, 52, 46, 83, 104, 97, 114, 101, 66, 97, 99, 107]])
set_option maxRecDepth 100000 in
theorem head : Try.pinned.checked.prog.initOrder.toList = glue W := toList_of _ _ (by kernel_rfl)
theorem plain : (W.all fun w => w.all fun c => c.toNat != 32) = true := by kernel_rfl
theorem signs : wordsSigns Try.pinned.checked.prog.initOrder.toList = W := by
  rw [head]
  refine signs_glue W (by simp [W]) fun w hw c hc e => ?_
  have h := List.all_eq_true.1 (List.all_eq_true.1 plain w hw) c hc
  rw [e] at h
  cases h
theorem words : behindMainWord (wordsSigns Try.pinned.checked.prog.initOrder.toList) = W.drop 2 := by
  rw [signs]
  kernel_rfl
theorem lifts : Try.pinned.checked.prog.headLifts = [] := by
  unfold Program.headLifts
  rw [words]
  kernel_rfl
theorem final : Try.pinned.checked.prog.liftsFinal = false := by
  unfold Program.liftsFinal
  rw [words, lifts]
  kernel_rfl
theorem made_of (P : Program) (rest : List (List Char)) (h : behindMainWord (wordsSigns P.initOrder.toList) = [Char.ofNat 99, Char.ofNat 117, Char.ofNat 116] :: rest) : P.make = some .cut := by
  unfold Program.make
  rw [h]
  kernel_rfl
theorem enters_of (P : Program) (rest : List (List Char)) (h : behindMainWord (wordsSigns P.initOrder.toList) = [Char.ofNat 99, Char.ofNat 117, Char.ofNat 116] :: rest) (hl : P.laysLater = false) (hb : P.bearsReflect = false) (hd : P.doorFits [] = true)
    (hs : stripLifts liftWords ([Char.ofNat 99, Char.ofNat 117, Char.ofNat 116] :: rest) = ([], [Char.ofNat 99, Char.ofNat 117, Char.ofNat 116] :: rest)) : P.mayEnter = true := by
  unfold Program.mayEnter
  rw [h]
  simp only [hs, hl, hb, hd]
  kernel_rfl
theorem made : Try.pinned.checked.prog.make = some .cut := made_of _ (W.drop 3) (words.trans (by kernel_rfl))
theorem enters : Try.pinned.checked.prog.mayEnter = true := enters_of _ (W.drop 3) (words.trans (by kernel_rfl)) (by kernel_rfl) (by kernel_rfl) (by kernel_rfl) (by kernel_rfl)
end Go.Proofs.Ytjjnfobeeflnhaa.Facts

/- Both tests of a prime and both tests of a setup answer alike, and what they answer. -/
namespace Go.Proofs.Ytjjnfobeeflnhaa.L
open Go.RowKit Go.Proofs.YtjjnfobeeflnhaaW.PrintWords Go.Proofs.Ytjjnfobeeflnhaa.J
set_option linter.unusedVariables false
set_option linter.unusedSimpArgs false

theorem u64_small {n : Int} (h0 : 0 ≤ n) (h1 : n < 18446744073709551616) : IntKind.u64.wrap n = n := by
  simp [IntKind.wrap, IntKind.signed, IntKind.bits]
  omega
theorem w64_small {n : Int} (h0 : -9223372036854775808 ≤ n) (h1 : n < 9223372036854775808) : wrap64 n = n := by
  unfold wrap64
  omega

/-- No divisor from 2 on whose square is at most a. -/
def free (a : Int) : Prop := ∀ y : Fin 257, 2 ≤ y.val → ((y.val : Int) * (y.val : Int)) ≤ a → a % (y.val : Int) ≠ 0
def isP (a : Int) : Bool := decide (3 ≤ a ∧ a ≤ 65537 ∧ ∀ y : Fin 257, 2 ≤ y.val → ((y.val : Int) * (y.val : Int)) ≤ a → a % (y.val : Int) ≠ 0)
theorem free_of {a : Int} (h : a ≤ 65537) (hf : ∀ y : Fin 257, 2 ≤ y.val → ((y.val : Int) * (y.val : Int)) ≤ a → a % (y.val : Int) ≠ 0) (y : Int) (h2 : 2 ≤ y) (hy : y * y ≤ a) : a % y ≠ 0 := by
  have hb : y < 257 := by
    rcases Int.lt_or_le y 257 with h' | h'
    · exact h'
    · have : 257 * 257 ≤ y * y := Int.mul_le_mul h' h' (by omega) (by omega)
      omega
  have := hf ⟨y.toNat, by omega⟩ (show 2 ≤ y.toNat by omega)
  simp only at this
  rw [show ((y.toNat : Nat) : Int) = y by omega] at this
  exact this hy
theorem isP_iff (a : Int) : isP a = true ↔ 3 ≤ a ∧ a ≤ 65537 ∧ ∀ y : Int, 2 ≤ y → y * y ≤ a → a % y ≠ 0 := by
  unfold isP
  rw [decide_eq_true_iff]
  constructor
  · rintro ⟨h1, h2, h3⟩
    exact ⟨h1, h2, fun y hy => free_of h2 h3 y hy⟩
  · rintro ⟨h1, h2, h3⟩
    exact ⟨h1, h2, fun y hy hq => h3 y.val (by omega) hq⟩

theorem sq_small {x : Int} (h0 : 0 ≤ x) (h1 : x ≤ 300) : 0 ≤ x * x ∧ x * x ≤ 90000 :=
  ⟨Int.mul_nonneg h0 h0, Int.mul_le_mul h1 h1 h0 (by omega)⟩

theorem ref_loop (a : Int) (h3 : 3 ≤ a) (ha : a ≤ 65537) : ∀ (m : Nat) (x : Int), 2 ≤ x → x + m = 258 → (∀ y : Int, 2 ≤ y → y < x → y * y ≤ a → a % y ≠ 0) → Ev (fun k => juntoref01_Is.l0 k a x) (isP a)
  | 0, x, h2, hx, hy => by
    have hb : isP a = true := (isP_iff a).2 ⟨h3, ha, fun y y2 yq => hy y y2 (by
      rcases Int.lt_or_le y x with h' | h'
      · exact h'
      · have : 257 * 257 ≤ y * y := Int.mul_le_mul (by omega) (by omega) (by omega) (by omega)
        omega) yq⟩
    rw [hb]
    refine Ev.step (f := fun k => some true) (fun k => ?_) (Ev.now _)
    have hq := sq_small (x := x) (by omega) (by omega)
    have : ¬ (x * x ≤ a) := by
      have : 257 * 257 ≤ x * x := Int.mul_le_mul (by omega) (by omega) (by omega) (by omega)
      omega
    simp only [juntoref01_Is.l0]
    rw [u64_small hq.1 (by omega), if_neg this]
  | m + 1, x, h2, hx, hy => by
    have hq := sq_small (x := x) (by omega) (by omega)
    by_cases hle : x * x ≤ a
    · by_cases hd : a % x = 0
      · have hb : isP a = false := by
          rw [Bool.eq_false_iff]
          intro h'
          exact ((isP_iff a).1 h').2.2 x h2 hle hd
        rw [hb]
        refine Ev.step (f := fun k => some false) (fun k => ?_) (Ev.now _)
        simp only [juntoref01_Is.l0]
        rw [u64_small hq.1 (by omega), if_pos hle, if_neg (show ¬ x = 0 by omega), if_pos (by rw [Int.tmod_eq_emod_of_nonneg (by omega)]; exact hd)]
      · refine Ev.step (f := fun k => juntoref01_Is.l0 k a (x + 1)) (fun k => ?_) (ref_loop a h3 ha m (x + 1) (by omega) (by omega) fun y y2 yx yq => ?_)
        · conv => lhs; simp only [juntoref01_Is.l0]
          rw [u64_small hq.1 (by omega), if_pos hle, if_neg (show ¬ x = 0 by omega), if_neg (by rw [Int.tmod_eq_emod_of_nonneg (by omega)]; exact hd), u64_small (show 0 ≤ x + 1 by omega) (by omega)]
        · rcases Int.lt_or_le y x with h' | h'
          · exact hy y y2 h' yq
          · obtain rfl : y = x := by omega
            exact hd
    · have hb : isP a = true := (isP_iff a).2 ⟨h3, ha, fun y y2 yq => hy y y2 (by
        rcases Int.lt_or_le y x with h' | h'
        · exact h'
        · have : x * x ≤ y * y := Int.mul_le_mul h' h' (by omega) (by omega)
          omega) yq⟩
      rw [hb]
      refine Ev.step (f := fun k => some true) (fun k => ?_) (Ev.now _)
      simp only [juntoref01_Is.l0]
      rw [u64_small hq.1 (by omega), if_neg hle]

theorem odd_loop (a : Int) (h3 : 3 ≤ a) (ha : a ≤ 65537) (hodd : a % 2 = 1) : ∀ (m : Nat) (x : Int), 3 ≤ x → x % 2 = 1 → x + 2 * m = 259 → (∀ y : Int, 2 ≤ y → y < x → y * y ≤ a → a % y ≠ 0) → Ev (fun k => field_Is.l0 k a x) (isP a)
  | 0, x, h2, hxo, hx, hy => by
    have hb : isP a = true := (isP_iff a).2 ⟨h3, ha, fun y y2 yq => hy y y2 (by
      rcases Int.lt_or_le y x with h' | h'
      · exact h'
      · have : 257 * 257 ≤ y * y := Int.mul_le_mul (by omega) (by omega) (by omega) (by omega)
        omega) yq⟩
    rw [hb]
    refine Ev.step (f := fun k => some true) (fun k => ?_) (Ev.now _)
    have hq := sq_small (x := x) (by omega) (by omega)
    have : ¬ (x * x ≤ a) := by
      have : 257 * 257 ≤ x * x := Int.mul_le_mul (by omega) (by omega) (by omega) (by omega)
      omega
    simp only [field_Is.l0]
    rw [u64_small hq.1 (by omega), if_neg this]
  | m + 1, x, h2, hxo, hx, hy => by
    have hq := sq_small (x := x) (by omega) (by omega)
    by_cases hle : x * x ≤ a
    · by_cases hd : a % x = 0
      · have hb : isP a = false := by
          rw [Bool.eq_false_iff]
          intro h'
          exact ((isP_iff a).1 h').2.2 x (by omega) hle hd
        rw [hb]
        refine Ev.step (f := fun k => some false) (fun k => ?_) (Ev.now _)
        simp only [field_Is.l0]
        rw [u64_small hq.1 (by omega), if_pos hle, if_neg (show ¬ x = 0 by omega), if_pos (by rw [Int.tmod_eq_emod_of_nonneg (by omega)]; exact hd)]
      · refine Ev.step (f := fun k => field_Is.l0 k a (x + 2)) (fun k => ?_) (odd_loop a h3 ha hodd m (x + 2) (by omega) (by omega) (by omega) fun y y2 yx yq => ?_)
        · conv => lhs; simp only [field_Is.l0]
          rw [u64_small hq.1 (by omega), if_pos hle, if_neg (show ¬ x = 0 by omega), if_neg (by rw [Int.tmod_eq_emod_of_nonneg (by omega)]; exact hd), u64_small (show 0 ≤ x + 2 by omega) (by omega)]
        · rcases Int.lt_or_le y x with h' | h'
          · exact hy y y2 h' yq
          · rcases Int.lt_or_le x y with h'' | h''
            · obtain rfl : y = x + 1 := by omega
              intro h0
              have h1 : (2 : Int) ∣ a := Int.dvd_trans (Int.dvd_of_emod_eq_zero (by omega)) (Int.dvd_of_emod_eq_zero h0)
              have := Int.emod_eq_zero_of_dvd h1
              omega
            · obtain rfl : y = x := by omega
              exact hd
    · have hb : isP a = true := (isP_iff a).2 ⟨h3, ha, fun y y2 yq => hy y y2 (by
        rcases Int.lt_or_le y x with h' | h'
        · exact h'
        · have : x * x ≤ y * y := Int.mul_le_mul h' h' (by omega) (by omega)
          omega) yq⟩
      rw [hb]
      refine Ev.step (f := fun k => some true) (fun k => ?_) (Ev.now _)
      simp only [field_Is.l0]
      rw [u64_small hq.1 (by omega), if_neg hle]

theorem not_isP {a : Int} (h : ¬ (3 ≤ a ∧ a ≤ 65537)) : isP a = false := by
  rw [Bool.eq_false_iff]
  intro h'
  have := (isP_iff a).1 h'
  exact h ⟨this.1, this.2.1⟩

theorem ref_is (a : Int) : Ev (fun k => juntoref01_Is.f k a) (isP a) := by
  by_cases h3 : a < 3
  · rw [not_isP (by omega)]
    refine Ev.step (f := fun k => some false) (fun k => ?_) (Ev.now _)
    simp [juntoref01_Is.f, juntoref01_Is.j0, h3]
  · by_cases hb : a > 65537
    · rw [not_isP (by omega)]
      refine Ev.step (f := fun k => some false) (fun k => ?_) (Ev.now _)
      simp [juntoref01_Is.f, juntoref01_Is.j0, h3, hb]
    · refine Ev.step (f := fun k => juntoref01_Is.l0 k a 2) (fun k => ?_) (ref_loop a (by omega) (by omega) 256 2 (by omega) (by omega) fun y y2 yx => by omega)
      simp [juntoref01_Is.f, juntoref01_Is.j0, h3, hb]

theorem field_is (a : Int) : Ev (fun k => field_Is.f k a) (isP a) := by
  by_cases h3 : a < 3
  · rw [not_isP (by omega)]
    refine Ev.step (f := fun k => some false) (fun k => ?_) (Ev.now _)
    simp [field_Is.f, field_Is.j0, h3]
  · by_cases hb : a > 65537
    · rw [not_isP (by omega)]
      refine Ev.step (f := fun k => some false) (fun k => ?_) (Ev.now _)
      simp [field_Is.f, field_Is.j0, h3, hb]
    · by_cases ho : a % 2 = 0
      · have hp : isP a = false := by
          rw [Bool.eq_false_iff]
          intro h'
          exact ((isP_iff a).1 h').2.2 2 (by omega) (by omega) ho
        rw [hp]
        refine Ev.step (f := fun k => some false) (fun k => ?_) (Ev.now _)
        have ht : Int.tmod a 2 = 0 := by rw [Int.tmod_eq_emod_of_nonneg (by omega)]; exact ho
        simp [field_Is.f, field_Is.j0, h3, hb, ht]
      · refine Ev.step (f := fun k => field_Is.l0 k a 3) (fun k => ?_) (odd_loop a (by omega) (by omega) (by omega) 128 3 (by omega) (by omega) (by omega) fun y y2 yx yq => ?_)
        · have ht : ¬ Int.tmod a 2 = 0 := by rw [Int.tmod_eq_emod_of_nonneg (by omega)]; exact ho
          simp [field_Is.f, field_Is.j0, h3, hb, ht]
        · obtain rfl : y = 2 := by omega
          exact ho

/-- What both tests of a setup answer: 0 or 2. -/
def setupV (p n t : Int) : Int := if isP p = true ∧ 1 ≤ n ∧ n ≤ 13 ∧ 0 ≤ t ∧ 4 * t + 1 ≤ n ∧ n < p then 0 else 2

theorem setupV_ok {p n t : Int} (h : setupV p n t = 0) : isP p = true ∧ 1 ≤ n ∧ n ≤ 13 ∧ 0 ≤ t ∧ 4 * t + 1 ≤ n ∧ n < p := by
  unfold setupV at h
  split at h
  · assumption
  · cases h

theorem share_setup (p n t : Int) : Ev (fun k => share_Setup.f k p n t) (setupV p n t) := by
  unfold share_Setup.f
  refine Ev.bind (field_is p) ?_
  unfold setupV
  by_cases hp : isP p = true
  · have h3 := ((isP_iff p).1 hp)
    simp only [hp, if_true, true_and]
    by_cases h1 : n < 1
    · rw [if_pos h1, if_neg (by omega)]; exact Ev.now _
    rw [if_neg h1]
    by_cases h2 : n > 13
    · rw [if_pos h2, if_neg (by omega)]; exact Ev.now _
    rw [if_neg h2]
    by_cases h4 : t < 0
    · rw [if_pos h4, if_neg (by omega)]; exact Ev.now _
    rw [if_neg h4]
    by_cases h5 : t > n
    · rw [if_pos h5, if_neg (by omega)]; exact Ev.now _
    rw [if_neg h5, w64_small (n := 4 * t) (by omega) (by omega), w64_small (by omega) (by omega)]
    by_cases h6 : 4 * t + 1 > n
    · rw [if_pos h6, if_neg (by omega)]; exact Ev.now _
    rw [if_neg h6, u64_small (by omega) (by omega)]
    by_cases h7 : p ≤ n
    · rw [if_pos h7, if_neg (by omega)]; exact Ev.now _
    · rw [if_neg h7, if_pos (by omega)]; exact Ev.now _
  · rw [if_neg hp, if_neg (fun h => hp h.1)]
    exact Ev.now _

theorem ref_setup (p n t : Int) : Ev (fun k => juntoref04_Setup.f k p n t) (setupV p n t) := by
  unfold juntoref04_Setup.f
  refine Ev.bind (ref_is p) ?_
  unfold setupV
  by_cases hp : isP p = true
  · have h3 := ((isP_iff p).1 hp)
    simp only [hp, if_true, true_and]
    by_cases h1 : n < 1
    · rw [if_pos h1, if_neg (by omega)]; exact Ev.now _
    rw [if_neg h1]
    by_cases h2 : n > 13
    · rw [if_pos h2, if_neg (by omega)]; exact Ev.now _
    rw [if_neg h2]
    by_cases h4 : t < 0
    · rw [if_pos h4, if_neg (by omega)]; exact Ev.now _
    rw [if_neg h4]
    by_cases h5 : t > 13
    · rw [if_pos h5, if_neg (by omega)]; exact Ev.now _
    rw [if_neg h5, w64_small (n := 4 * t) (by omega) (by omega), w64_small (by omega) (by omega)]
    by_cases h6 : n < 4 * t + 1
    · rw [if_pos h6, if_neg (by omega)]; exact Ev.now _
    rw [if_neg h6, u64_small (by omega) (by omega)]
    by_cases h7 : p ≤ n
    · rw [if_pos h7, if_neg (by omega)]; exact Ev.now _
    · rw [if_neg h7, if_pos (by omega)]; exact Ev.now _
  · rw [if_neg hp, if_neg (fun h => hp h.1)]
    exact Ev.now _

/-- What the tests of a row answer: 0 or 2. -/
def belowV (p : Int) (l : List Int) : Int := if ∀ x ∈ l, x < p then 0 else 2

theorem below_loop (p : Int) (l : List Int) (hl : l.length ≤ maxLen) : ∀ (m i : Nat), i + m = l.length → (∀ x ∈ l.take i, x < p) → Ev (fun k => field_Below.l0 k p l (l.length : Int) (i : Int)) (belowV p l)
  | 0, i, hi, hx => by
    have hv : belowV p l = 0 := by
      unfold belowV
      rw [if_pos]
      rw [List.take_of_length_le (by omega)] at hx
      exact hx
    rw [hv]
    refine Ev.step (f := fun k => some 0) (fun k => ?_) (Ev.now _)
    simp only [field_Below.l0]
    rw [if_neg (by omega)]
  | m + 1, i, hi, hx => by
    have hm : (l.length : Int) ≤ 9223372036854775807 := by simp only [maxLen] at hl; omega
    have hlt : i < l.length := by omega
    have hr : rd l (i : Int) = l[i] := by simp [rd, List.getD_eq_getElem?_getD, hlt]
    by_cases hge : l[i] ≥ p
    · have hv : belowV p l = 2 := by
        unfold belowV
        rw [if_neg]
        intro h'
        have := h' _ (List.getElem_mem hlt)
        omega
      rw [hv]
      refine Ev.step (f := fun k => some 2) (fun k => ?_) (Ev.now _)
      simp only [field_Below.l0]
      rw [if_pos (by omega), if_pos (by omega), if_pos (by omega), if_pos (by rw [hr]; exact hge)]
    · refine Ev.step (f := fun k => field_Below.l0 k p l (l.length : Int) ((i + 1 : Nat) : Int)) (fun k => ?_) (below_loop p l hl m (i + 1) (by omega) fun x hx' => ?_)
      · conv => lhs; simp only [field_Below.l0]
        rw [if_pos (by omega), if_pos (by omega), if_pos (by omega), if_neg (by rw [hr]; exact hge), w64_small (by omega) (by omega)]
        rfl
      · rw [List.take_add_one, List.mem_append] at hx'
        rcases hx' with h' | h'
        · exact hx x h'
        · rw [List.getElem?_eq_getElem hlt] at h'
          simp only [Option.toList_some, List.mem_singleton] at h'
          rw [h']; omega

theorem field_below (p : Int) (l : List Int) (hl : l.length ≤ maxLen) : Ev (fun k => field_Below.f k p l) (belowV p l) :=
  below_loop p l hl l.length 0 (by omega) (fun x hx => by simp at hx)

theorem within_eq : ∀ k a b c d, juntoref01_Within.l0 k a b c d = field_Below.l0 k a b c d
  | 0, _, _, _, _ => rfl
  | k + 1, a, b, c, d => by
    simp only [juntoref01_Within.l0, field_Below.l0, within_eq k]

theorem ref_within (p : Int) (l : List Int) (hl : l.length ≤ maxLen) : Ev (fun k => juntoref01_Within.f k p l) (belowV p l) := by
  refine Ev.congr (fun k => ?_) (field_below p l hl)
  exact within_eq _ _ _ _ _

end Go.Proofs.Ytjjnfobeeflnhaa.L

/- What Go functions of the program compute, as plain Lean functions, and that the machine comes to just these answers (written by a program for this seat). -/
namespace Go.Proofs.Ytjjnfobeeflnhaa.J
open Go.RowKit Go.Proofs.YtjjnfobeeflnhaaW.PrintWords Go.Proofs.YtjjnfobeeflnhaaW.PrintLast Go.Proofs.YtjjnfobeeflnhaaW.PrintMore
attribute [local go_sem] max2_int min2_int max_two min_two max_three min_three max_four min_four   -- for this text's walks alone
set_option linter.unusedVariables false
set_option linter.unusedSimpArgs false

/-! ### juntoref01_Mul: function 59 -/
def juntoref01_Mul.f (a0 : Int) (a1 : Int) (a2 : Int) : Option (Int) := if a0 = 0 then (none) else (some (Int.tmod (IntKind.u64.wrap (a1 * a2)) a0))
set_option maxHeartbeats 8000000 in
set_option maxRecDepth 100000 in
theorem juntoref01_Mul.calls (a0 : Int) (a1 : Int) (a2 : Int) (r : Int) (w : World) (h : juntoref01_Mul.f a0 a1 a2 = some r) :
    Calls Try.prog 59 #[.int .u64 a0, .int .u64 a1, .int .u64 a2] w fun e w' => e = .returned (.int .u64 r) ∧ Drawn0 w w' := by
  have H : (if a0 = 0 then (none) else (some (Int.tmod (IntKind.u64.wrap (a1 * a2)) a0))) = some r := h
  clear h
  by_cases c4 : a0 = 0
  · rw [if_pos c4] at H
    exact absurd H (by simp)
  · rw [if_neg c4] at H
    have c4b0 : (a0 == 0) = false := beq_eq_false_iff_ne.mpr c4
    have c4b1 : (a0 != 0) = true := bne_iff_ne.mpr c4
    obtain rfl := Option.some.inj H
    go_enter Try.func59, Try.ntmps59
    go_wp2
    go_ret
    exact ⟨by first | rfl | (simp; done) | (simp [*]; done), by repeat (first | exact Drawn0.refl _ | apply Drawn0.step)⟩

/-! ### juntoref02_Eval: function 58 -/
def juntoref02_Eval.l0 : Nat → Int → Int → Int → Int → List Int → Int → Int → Option (Int)
  | 0, _, _, _, _, _, _, _ => none
  | k + 1, x0, x2, x7, x8, x11, x12, x13 => if x13 < x12 then (if 0 ≤ x13 then (if x13 < (x11.length : Int) then ((juntoref01_Mul.f x0 (rd x11 x13) x8).bind fun t331 => ((juntoref01_Add.f x0 x7 t331).bind fun t332 => ((juntoref01_Mul.f x0 x8 x2).bind fun t333 => (juntoref02_Eval.l0 k x0 x2 t332 t333 x11 x12 (wrap64 (x13 + 1)))))) else (none)) else (none)) else (some x7)
def juntoref02_Eval.f (k : Nat) (a0 : Int) (l1 : List Int) (a2 : Int) : Option (Int) := juntoref02_Eval.l0 k a0 a2 0 1 l1 (l1.length : Int) 0
theorem juntoref02_Eval.mono_l : ∀ k, (∀ y0 y1 y2 y3 y4 y5 y6, LeO (juntoref02_Eval.l0 k y0 y1 y2 y3 y4 y5 y6) (juntoref02_Eval.l0 (k + 1) y0 y1 y2 y3 y4 y5 y6))
  | 0 => fun _ _ _ _ _ _ _ r h => by simp [juntoref02_Eval.l0] at h
  | k + 1 => by
    have ih0 := juntoref02_Eval.mono_l k
    · intro y0 y1 y2 y3 y4 y5 y6
      unfold juntoref02_Eval.l0
      repeat' first
      | (with_reducible exact ih0 _ _ _ _ _ _ _)
      | (with_reducible exact LeO.refl _)
      | (with_reducible exact LeO.none _)
      | (with_reducible refine LeO.ite ?_ ?_)
      | (with_reducible refine LeO.bind ?_ (fun _ => ?_))
      | exact ih0 _ _ _ _ _ _ _
      | exact LeO.none _
      | refine LeO.ite ?_ ?_
      | refine LeO.bind ?_ (fun _ => ?_)
theorem juntoref02_Eval.mono : ∀ a0 a1 a2 k, LeO (juntoref02_Eval.f k a0 a1 a2) (juntoref02_Eval.f (k + 1) a0 a1 a2) := by
  intro a0 a1 a2 k
  have ih0 := juntoref02_Eval.mono_l k
  unfold juntoref02_Eval.f
  repeat' first
      | (with_reducible exact ih0 _ _ _ _ _ _ _)
      | (with_reducible exact LeO.refl _)
      | (with_reducible exact LeO.none _)
      | (with_reducible refine LeO.ite ?_ ?_)
      | (with_reducible refine LeO.bind ?_ (fun _ => ?_))
      | exact ih0 _ _ _ _ _ _ _
      | exact LeO.none _
      | refine LeO.ite ?_ ?_
      | refine LeO.bind ?_ (fun _ => ?_)
set_option maxHeartbeats 8000000 in
set_option maxRecDepth 100000 in
theorem juntoref02_Eval.calls (k : Nat) (a0 : Int) (A1 : Option Addr) (c1 : Nat) (l1 : List Int) (a2 : Int) (r : Int) (w : World) (hr1 : Kd.C (Kd.int .u64) w A1 l1.length l1) (hc1 : l1.length ≤ c1) (h : juntoref02_Eval.f k a0 l1 a2 = some r) :
    Calls Try.prog 58 #[.int .u64 a0, .slice A1 l1.length c1, .int .u64 a2] w fun e w' => e = .returned (.int .u64 r) ∧ Drawn0 w w' := by
  have HR1 := Aside0.mk hr1
  have HC1 := Aside0.mk hc1
  clear hr1 hc1
  have H : (juntoref02_Eval.l0 k a0 a2 0 1 l1 (l1.length : Int) 0) = some r := h
  clear h
  have H' := Aside0.mk H
  clear H
  go_enter Try.func58, Try.ntmps58
  go_wp2
  go_loopg [7, 8, 13] k (fun kq v7 v8 v13 w' => ∃ (x7_1 : Int) (x8_1 : Int) (x13_1 : Int), v7 = .int .u64 x7_1 ∧ v8 = .int .u64 x8_1 ∧ v13 = .int .i64 x13_1 ∧ Aside0 (juntoref02_Eval.l0 kq a0 a2 x7_1 x8_1 l1 (l1.length : Int) x13_1 = some r) ∧ Aside0 (kq ≤ k) ∧ Drawn0 w w')
  case atStart => exact ⟨(0), (1), (0), (by first | rfl | (simp; done) | (simp [*]; done)), (by first | rfl | (simp; done) | (simp [*]; done)), (by first | rfl | (simp; done) | (simp [*]; done)), H', ⟨Nat.le_refl _⟩, by repeat (first | exact Drawn0.refl _ | apply Drawn0.step)⟩
  case round =>
    clear H'
    try clear c1
    try clear p2
    obtain ⟨x7_1, x8_1, x13_1, rfl, rfl, rfl, HA, HK1, ⟨m1, rfl⟩⟩ := hrel
    cases gk with
    | zero => exact absurd HA.out (by simp [juntoref02_Eval.l0])
    | succ k1 =>
      have H := HA.out
      clear HA
      simp only [juntoref02_Eval.l0] at H
      by_cases c4 : x13_1 < (l1.length : Int)
      · rw [if_pos c4] at H
        have c4b0 : decide (x13_1 < (l1.length : Int)) = true := decide_eq_true c4
        clear c4
        by_cases c5 : 0 ≤ x13_1
        · rw [if_pos c5] at H
          have c5b0 : decide (0 ≤ x13_1) = true := decide_eq_true c5
          clear c5
          by_cases c6 : x13_1 < (l1.length : Int)
          · rw [if_pos c6] at H
            have c6b0 : decide (x13_1 < (l1.length : Int)) = true := decide_eq_true c6
            clear c6
            replace H := Option.bind_eq_some_iff.mp H
            obtain ⟨t331, A70, H⟩ := H
            replace H : ((juntoref01_Add.f a0 x7_1 t331).bind fun t332 => ((juntoref01_Mul.f a0 x8_1 a2).bind fun t333 => (juntoref02_Eval.l0 k1 a0 a2 t332 t333 l1 (l1.length : Int) (wrap64 (x13_1 + 1))))) = some r := H
            have A7 := Aside0.mk A70
            clear A70
            replace H := Option.bind_eq_some_iff.mp H
            obtain ⟨t332, A80, H⟩ := H
            replace H : ((juntoref01_Mul.f a0 x8_1 a2).bind fun t333 => (juntoref02_Eval.l0 k1 a0 a2 t332 t333 l1 (l1.length : Int) (wrap64 (x13_1 + 1)))) = some r := H
            have A8 := Aside0.mk A80
            clear A80
            replace H := Option.bind_eq_some_iff.mp H
            obtain ⟨t333, A90, H⟩ := H
            replace H : (juntoref02_Eval.l0 k1 a0 a2 t332 t333 l1 (l1.length : Int) (wrap64 (x13_1 + 1))) = some r := H
            have A9 := Aside0.mk A90
            clear A90
            have H' := Aside0.mk H
            clear H
            have p330 : 0 ≤ (x13_1 : Int) := of_decide_eq_true (by first | (with_reducible assumption) | assumption)
            have q330 : x13_1 < (l1.length : Int) := of_decide_eq_true (by first | (with_reducible assumption) | assumption)
            obtain ⟨ad330, e330, hx330_0⟩ := Kd.at_int HR1.out x13_1 p330 q330
            cases e330
            replace p330 := eq_true p330
            replace q330 := eq_true q330
            go_wp2_with (first | ((with_reducible refine gate_callee (f := 59) rfl ?_); refine goesL_ (some 22) rfl rfl Try.func59 (by kernel_rfl) rfl #[.int .u64 a0, .int .u64 (rd l1 x13_1), .int .u64 x8_1] rfl (by (try simp only [List.map_toArray, List.map_cons, List.map_nil]); first | done | rfl | (simp only [List.length_drop, List.length_take]; rfl)) ?_; (with_reducible refine (juntoref01_Mul.calls a0 (rd l1 x13_1) x8_1 t331 _ A7.out).mono ?_); rintro e w' ⟨rfl, ⟨nd, rfl⟩⟩; refine ⟨_, rfl, ?_⟩) | ((with_reducible refine gate_callee (f := 113) rfl ?_); refine goesL_ (some 23) rfl rfl Try.func113 (by kernel_rfl) rfl #[.int .u64 a0, .int .u64 x7_1, .int .u64 t331] rfl (by (try simp only [List.map_toArray, List.map_cons, List.map_nil]); first | done | rfl | (simp only [List.length_drop, List.length_take]; rfl)) ?_; (with_reducible refine (juntoref01_Add.calls a0 x7_1 t331 t332 _ A8.out).mono ?_); rintro e w' ⟨rfl, ⟨nd, rfl⟩⟩; refine ⟨_, rfl, ?_⟩) | ((with_reducible refine gate_callee (f := 59) rfl ?_); refine goesL_ (some 27) rfl rfl Try.func59 (by kernel_rfl) rfl #[.int .u64 a0, .int .u64 x8_1, .int .u64 a2] rfl (by (try simp only [List.map_toArray, List.map_cons, List.map_nil]); first | done | rfl | (simp only [List.length_drop, List.length_take]; rfl)) ?_; (with_reducible refine (juntoref01_Mul.calls a0 x8_1 a2 t333 _ A9.out).mono ?_); rintro e w' ⟨rfl, ⟨nd, rfl⟩⟩; refine ⟨_, rfl, ?_⟩))
            go_roundg k1
            case measure => have := HK1.out; omega
            case rel => exact ⟨(t332), (t333), (wrap64 (x13_1 + 1)), (by first | rfl | (simp; done) | (simp [*]; done)), (by first | rfl | (simp; done) | (simp [*]; done)), (by first | rfl | (simp; done) | (simp [*]; done)), H', ⟨by have := HK1.out; omega⟩, by repeat (first | exact Drawn0.refl _ | apply Drawn0.step)⟩
          · rw [if_neg c6] at H
            exact absurd H (by simp)
        · rw [if_neg c5] at H
          exact absurd H (by simp)
      · rw [if_neg c4] at H
        have c4b0 : decide (x13_1 < (l1.length : Int)) = false := decide_eq_false c4
        clear c4
        obtain rfl := Option.some.inj H
        go_wp2
        go_ret
        exact ⟨by first | rfl | (simp; done) | (simp [*]; done), by repeat (first | exact Drawn0.refl _ | apply Drawn0.step)⟩
theorem juntoref02_Eval.callsB (k : Nat) (a0 : Int) (A1 : Option Addr) (c1 : Nat) (l1 : List Int) (a2 : Int) (r : Int) (w : World) (hr1 : Kd.C (Kd.int .u64) w A1 l1.length l1) (hc1 : l1.length ≤ c1) (h : juntoref02_Eval.f k a0 l1 a2 = some r) :
    Calls Try.prog 58 #[.int .u64 a0, .slice A1 l1.length c1, .int .u64 a2] w fun e w' => e = .returned (.int .u64 r) ∧ Below w.heap.size w w' := (juntoref02_Eval.calls k a0 A1 c1 l1 a2 r w hr1 hc1 h).mono fun _ _ h_ => ⟨h_.1, h_.2.below⟩

end Go.Proofs.Ytjjnfobeeflnhaa.J

/- Both ways to evaluate a polynomial answer alike, and what they answer. -/
namespace Go.Proofs.Ytjjnfobeeflnhaa.L
open Go.RowKit Go.Proofs.YtjjnfobeeflnhaaW.PrintWords Go.Proofs.Ytjjnfobeeflnhaa.J
set_option linter.unusedVariables false
set_option linter.unusedSimpArgs false

theorem mul_small {p a b : Int} (hp : p ≤ 65537) (ha : 0 ≤ a) (ha' : a < p) (hb : 0 ≤ b) (hb' : b < p) : 0 ≤ a * b ∧ a * b < 18446744073709551616 := by
  have h1 : a * b ≤ 65537 * 65537 := Int.mul_le_mul (by omega) (by omega) hb (by omega)
  exact ⟨Int.mul_nonneg ha hb, by omega⟩

theorem times_at {p a b : Int} (h0 : 0 < p) (hp : p ≤ 65537) (ha : 0 ≤ a) (ha' : a < p) (hb : 0 ≤ b) (hb' : b < p) : field_Times.f p a b = some (a * b % p) := by
  obtain ⟨h1, h2⟩ := mul_small hp ha ha' hb hb'
  unfold field_Times.f field_mul.f
  simp only [u64_small h1 h2, if_neg (show ¬ p = 0 by omega), Option.bind_some, Int.tmod_eq_emod_of_nonneg h1]

theorem ref_mul {p a b : Int} (h0 : 0 < p) (hp : p ≤ 65537) (ha : 0 ≤ a) (ha' : a < p) (hb : 0 ≤ b) (hb' : b < p) : juntoref01_Mul.f p a b = some (a * b % p) := by
  obtain ⟨h1, h2⟩ := mul_small hp ha ha' hb hb'
  unfold juntoref01_Mul.f
  rw [u64_small h1 h2, if_neg (show ¬ p = 0 by omega), Int.tmod_eq_emod_of_nonneg h1]

theorem ref_add {p a b : Int} (h0 : 0 < p) (hp : p ≤ 65537) (ha : 0 ≤ a) (ha' : a < p) (hb : 0 ≤ b) (hb' : b < p) : juntoref01_Add.f p a b = some ((a + b) % p) := by
  unfold juntoref01_Add.f
  rw [u64_small (by omega) (by omega), if_neg (show ¬ p = 0 by omega), Int.tmod_eq_emod_of_nonneg (by omega)]

theorem plus_at {p a b : Int} (h0 : 0 < p) (hp : p ≤ 65537) (ha : 0 ≤ a) (ha' : a < p) (hb : 0 ≤ b) (hb' : b < p) : field_Plus.f p a b = some ((a + b) % p) := by
  unfold field_Plus.f
  rw [u64_small (n := a + b) (by omega) (by omega)]
  by_cases h : a + b ≥ p
  · rw [if_pos h, u64_small (by omega) (by omega)]
    rw [show (a + b) % p = a + b - p by rw [← Int.sub_emod_right, Int.emod_eq_of_lt (by omega) (by omega)]]
  · rw [if_neg h, Int.emod_eq_of_lt (by omega) (by omega)]

/-- The value of a row of coefficients at x. -/
def valV (p x : Int) : List Int → Int
  | [] => 0
  | c :: cs => (valV p x cs * x % p + c) % p

theorem valV_range {p : Int} (h0 : 0 < p) (x : Int) : ∀ l, 0 ≤ valV p x l ∧ valV p x l < p
  | [] => ⟨Int.le_refl _, h0⟩
  | _ :: _ => ⟨Int.emod_nonneg _ (by omega), Int.emod_lt_of_pos _ h0⟩

theorem at_run {p x : Int} (h0 : 0 < p) (hp : p ≤ 65537) (hx : 0 ≤ x) (hx' : x < p) : ∀ (l : List Int), (∀ c ∈ l, 0 ≤ c ∧ c < p) → poly_At.run p x l.reverse (some 0) = some (valV p x l)
  | [], _ => rfl
  | c :: cs, h => by
    rw [List.reverse_cons, poly_At.run_snoc, at_run h0 hp hx hx' cs (fun d hd => h d (List.mem_cons_of_mem _ hd))]
    have hc := h c (List.mem_cons_self ..)
    have hv := valV_range h0 x cs
    show poly_At.step p x (valV p x cs) c = _
    unfold poly_At.step
    rw [times_at h0 hp hv.1 hv.2 hx hx']
    exact plus_at h0 hp (Int.emod_nonneg _ (by omega)) (Int.emod_lt_of_pos _ h0) hc.1 hc.2

theorem poly_at {p x : Int} (h0 : 0 < p) (hp : p ≤ 65537) (hx : 0 ≤ x) (hx' : x < p) (l : List Int) (h : ∀ c ∈ l, 0 ≤ c ∧ c < p) : poly_At.f p l x = some (valV p x l) := at_run h0 hp hx hx' l h

theorem emod_idem (a p : Int) : a % p % p = a % p := Int.emod_emod_of_dvd _ (Int.dvd_refl p)

theorem drop_mod (a b z p : Int) : (a + b * (z % p)) % p = (a + b * z) % p := by
  rw [Int.emod_def z p, show a + b * (z - p * (z / p)) = a + b * z + p * (-(b * (z / p))) by generalize z / p = q; grind, Int.add_mul_emod_self_left]

theorem step_mod (acc pw v c x p : Int) : (acc + pw * ((v * x % p + c) % p)) % p = ((acc + c * pw % p) % p + pw * x % p * v) % p := by
  rw [drop_mod]
  have r1 : ((acc + c * pw % p) % p + pw * x % p * v) % p = (pw * x % p * v + 1 * ((acc + c * pw % p) % p)) % p := by
    generalize (acc + c * pw % p) % p = u
    rw [Int.one_mul, Int.add_comm]
  rw [r1, drop_mod]
  have r2 : pw * x % p * v + 1 * (acc + c * pw % p) = acc + v * (pw * x % p) + 1 * (c * pw % p) := by
    generalize pw * x % p = u
    generalize c * pw % p = z
    grind
  rw [r2, drop_mod]
  have r3 : acc + v * (pw * x % p) + 1 * (c * pw) = acc + c * pw + v * (pw * x % p) := by
    generalize pw * x % p = u
    grind
  rw [r3, drop_mod]
  have r4 : acc + pw * (v * x % p + c) = acc + pw * c + pw * (v * x % p) := by
    generalize v * x % p = u
    grind
  rw [r4, drop_mod]
  congr 1
  grind

theorem ref_eval_loop {p x : Int} (h0 : 0 < p) (hp : p ≤ 65537) (hx : 0 ≤ x) (hx' : x < p) (l : List Int) (hs : l.length ≤ maxLen) (h : ∀ c ∈ l, 0 ≤ c ∧ c < p) : ∀ (m i : Nat) (acc pw : Int), i + m = l.length → 0 ≤ acc → acc < p → 0 ≤ pw → pw < p →
    Ev (fun k => juntoref02_Eval.l0 k p x acc pw l (l.length : Int) (i : Int)) ((acc + pw * valV p x (l.drop i)) % p)
  | 0, i, acc, pw, hi, ha, ha', hw, hw' => by
    rw [List.drop_of_length_le (by omega)]
    have e : (acc + pw * valV p x []) % p = acc := by
      show (acc + pw * 0) % p = acc
      rw [Int.mul_zero, Int.add_zero, Int.emod_eq_of_lt ha ha']
    rw [e]
    refine Ev.step (f := fun k => some acc) (fun k => ?_) (Ev.now _)
    simp only [juntoref02_Eval.l0]
    rw [if_neg (by omega)]
  | m + 1, i, acc, pw, hi, ha, ha', hw, hw' => by
    have hm : (l.length : Int) ≤ 9223372036854775807 := by simp only [maxLen] at hs; omega
    have hlt : i < l.length := by omega
    have hr : rd l (i : Int) = l[i] := by simp [rd, List.getD_eq_getElem?_getD, hlt]
    have hc := h l[i] (List.getElem_mem hlt)
    rw [List.drop_eq_getElem_cons hlt]
    have m1 : 0 ≤ l[i] * pw % p ∧ l[i] * pw % p < p := ⟨Int.emod_nonneg _ (by omega), Int.emod_lt_of_pos _ h0⟩
    have m2 : 0 ≤ (acc + l[i] * pw % p) % p ∧ (acc + l[i] * pw % p) % p < p := ⟨Int.emod_nonneg _ (by omega), Int.emod_lt_of_pos _ h0⟩
    have m3 : 0 ≤ pw * x % p ∧ pw * x % p < p := ⟨Int.emod_nonneg _ (by omega), Int.emod_lt_of_pos _ h0⟩
    have e : (acc + pw * valV p x (l[i] :: l.drop (i + 1))) % p = ((acc + l[i] * pw % p) % p + pw * x % p * valV p x (l.drop (i + 1))) % p := by
      show (acc + pw * ((valV p x (l.drop (i + 1)) * x % p + l[i]) % p)) % p = _
      exact step_mod _ _ _ _ _ _
    rw [e]
    refine Ev.step (f := fun k => juntoref02_Eval.l0 k p x ((acc + l[i] * pw % p) % p) (pw * x % p) l (l.length : Int) ((i + 1 : Nat) : Int)) (fun k => ?_) (ref_eval_loop h0 hp hx hx' l hs h m (i + 1) _ _ (by omega) m2.1 m2.2 m3.1 m3.2)
    conv => lhs; simp only [juntoref02_Eval.l0]
    rw [if_pos (by omega), if_pos (by omega), if_pos (by omega), hr, ref_mul h0 hp hc.1 hc.2 hw hw', Option.bind_some, ref_add h0 hp ha ha' m1.1 m1.2, Option.bind_some, ref_mul h0 hp hw hw' hx hx', Option.bind_some, w64_small (by omega) (by omega)]
    rfl

theorem ref_eval {p x : Int} (h1 : 1 < p) (hp : p ≤ 65537) (hx : 0 ≤ x) (hx' : x < p) (l : List Int) (hs : l.length ≤ maxLen) (h : ∀ c ∈ l, 0 ≤ c ∧ c < p) : Ev (fun k => juntoref02_Eval.f k p l x) (valV p x l) := by
  have e := ref_eval_loop (by omega) hp hx hx' l hs h l.length 0 0 1 (by omega) (by omega) (by omega) (by omega) h1
  have hv := valV_range (p := p) (by omega) x l
  rw [List.drop_zero, Int.zero_add, Int.one_mul, Int.emod_eq_of_lt hv.1 hv.2] at e
  exact e

end Go.Proofs.Ytjjnfobeeflnhaa.L

/- The field of the residues modulo a prime: primes by trial division, no zero divisors, Fermat. Plain Lean, no program in sight. -/
namespace Go.Proofs.Ytjjnfobeeflnhaa.Fld

/-- A prime. -/
def Pr (p : Nat) : Prop := 2 ≤ p ∧ ∀ d, d ∣ p → d = 1 ∨ d = p

theorem Pr.coprime {p a : Nat} (hp : Pr p) (h0 : 0 < a) (h1 : a < p) : Nat.Coprime p a := by
  rcases hp.2 _ (Nat.gcd_dvd_left p a) with h | h
  · exact h
  · have := Nat.le_of_dvd h0 (Nat.gcd_dvd_right p a)
    omega

theorem Pr.dvd_mul {p a b : Nat} (hp : Pr p) (h : p ∣ a * b) : p ∣ a ∨ p ∣ b := by
  by_cases ha : p ∣ a
  · exact .inl ha
  · right
    have hc : Nat.Coprime p a := by
      rcases hp.2 _ (Nat.gcd_dvd_left p a) with h' | h'
      · exact h'
      · exact absurd (h' ▸ Nat.gcd_dvd_right p a) ha
    exact hc.dvd_of_dvd_mul_left h

/-- Trial division up to the root is enough. -/
theorem pr_of_trial {p : Nat} (h2 : 2 ≤ p) (h : ∀ d, 2 ≤ d → d * d ≤ p → p % d ≠ 0) : Pr p := by
  refine ⟨h2, fun d hd => ?_⟩
  obtain ⟨e, he⟩ := hd
  by_cases h1 : d = 1
  · exact .inl h1
  by_cases h3 : e = 1
  · right; rw [he, h3, Nat.mul_one]
  exfalso
  have hd0 : d ≠ 0 := by rintro rfl; omega
  have he0 : e ≠ 0 := by rintro rfl; omega
  by_cases hle : d ≤ e
  · refine h d (by omega) ?_ (Nat.mod_eq_zero_of_dvd ⟨e, he⟩)
    rw [he]; exact Nat.mul_le_mul_left d hle
  · refine h e (by omega) ?_ (Nat.mod_eq_zero_of_dvd ⟨d, by rw [he, Nat.mul_comm]⟩)
    rw [he]; exact Nat.mul_le_mul_right e (by omega)

theorem Pr.trial {p d : Nat} (hp : Pr p) (h2 : 2 ≤ d) (hd : d < p) : p % d ≠ 0 := by
  intro h
  rcases hp.2 d (Nat.dvd_of_mod_eq_zero h) with h | h <;> omega

theorem not_pr_of_dvd {p d : Nat} (h2 : 2 ≤ d) (hd : d < p) (h : p % d = 0) : ¬ Pr p := fun hp => hp.trial h2 hd h

set_option linter.unusedVariables false
set_option linter.unusedSimpArgs false

section
variable {p : Nat} [NeZero p]

theorem mul_eq_zero (hp : Pr p) {a b : Fin p} (h : a * b = 0) : a = 0 ∨ b = 0 := by
  have h1 : (a.val * b.val) % p = 0 := by have := congrArg Fin.val h; simpa [Fin.val_mul] using this
  rcases hp.dvd_mul (Nat.dvd_of_mod_eq_zero h1) with h | h
  · left; apply Fin.ext; exact Nat.eq_zero_of_dvd_of_lt h a.isLt
  · right; apply Fin.ext; exact Nat.eq_zero_of_dvd_of_lt h b.isLt

theorem one_ne_zero (hp : Pr p) : (1 : Fin p) ≠ 0 := by
  intro h
  have := congrArg Fin.val h
  have h2 := hp.1
  have h1 : ((1 : Fin p) : Nat) = 1 % p := rfl
  rw [h1, Nat.mod_eq_of_lt (by omega)] at this
  simp at this

theorem mul_cancel (hp : Pr p) {a b c : Fin p} (ha : a ≠ 0) (h : a * b = a * c) : b = c := by
  have : a * (b - c) = 0 := by grind
  rcases mul_eq_zero hp this with h | h
  · exact absurd h ha
  · grind

/-- The product of a list. -/
def pr (l : List (Fin p)) : Fin p := l.foldr (· * ·) 1
theorem pr_cons (a : Fin p) (l : List (Fin p)) : pr (a :: l) = a * pr l := rfl
theorem pr_perm {l l' : List (Fin p)} (h : l.Perm l') : pr l = pr l' := by
  induction h with
  | nil => rfl
  | cons x _ ih => rw [pr_cons, pr_cons, ih]
  | swap x y l => simp only [pr_cons]; grind
  | trans _ _ ih1 ih2 => exact ih1.trans ih2
theorem pr_ne_zero (hp : Pr p) {l : List (Fin p)} (h : ∀ a, a ∈ l → a ≠ 0) : pr l ≠ 0 := by
  induction l with
  | nil => exact one_ne_zero hp
  | cons a l ih =>
    intro h'
    rcases mul_eq_zero hp (pr_cons a l ▸ h') with h0 | h0
    · exact h a (by simp) h0
    · exact ih (fun b hb => h b (by simp [hb])) h0
theorem pr_map_mul (a : Fin p) (l : List (Fin p)) : pr (l.map (a * ·)) = a ^ l.length * pr l := by
  induction l with
  | nil => simp only [List.map_nil, List.length_nil]; show (1 : Fin p) = a ^ 0 * 1; grind
  | cons b l ih => rw [List.map_cons, pr_cons, pr_cons, ih, List.length_cons]; grind

theorem perm_of_subset {α : Type} [BEq α] [LawfulBEq α] : ∀ (l l' : List α), l.Nodup → (∀ a, a ∈ l → a ∈ l') → l'.length ≤ l.length → l.Perm l'
  | [], l', _, _, h => by
    have : l' = [] := List.eq_nil_of_length_eq_zero (by simpa using h)
    rw [this]
  | a :: l, l', hn, hs, h => by
    have ha := hs a (by simp)
    have hp := List.perm_cons_erase ha
    have hlen : (l'.erase a).length + 1 = l'.length := by have := hp.length_eq; simpa using this.symm
    obtain ⟨hna, hn⟩ := List.nodup_cons.1 hn
    refine List.Perm.trans ?_ hp.symm
    refine List.Perm.cons a (perm_of_subset l (l'.erase a) hn ?_ (by simp at h; omega))
    intro b hb
    have hne : b ≠ a := by rintro rfl; exact hna hb
    exact (List.mem_erase_of_ne hne).2 (hs b (by simp [hb]))

/-- The elements that are not 0. -/
def units (p : Nat) [NeZero p] : List (Fin p) := (List.range (p - 1)).map fun i => Fin.ofNat p (i + 1)
theorem units_length : (units p).length = p - 1 := by simp [units]
theorem units_ne {a : Fin p} (h : a ∈ units p) : a ≠ 0 := by
  obtain ⟨i, hi, rfl⟩ := List.mem_map.1 h
  have hi := List.mem_range.1 hi
  intro h
  have := congrArg Fin.val h
  simp only [Fin.ofNat, Fin.val_zero] at this
  rw [Nat.mod_eq_of_lt (by omega)] at this
  omega
theorem mem_units {a : Fin p} (h : a ≠ 0) : a ∈ units p := by
  have h0 : a.val ≠ 0 := fun h' => h (Fin.ext h')
  refine List.mem_map.2 ⟨a.val - 1, List.mem_range.2 (by have := a.isLt; omega), ?_⟩
  apply Fin.ext
  simp only [Fin.ofNat]
  rw [Nat.mod_eq_of_lt (by have := a.isLt; omega)]
  omega
theorem units_nodup : (units p).Nodup := by
  unfold units List.Nodup
  rw [List.pairwise_map]
  refine List.Pairwise.imp_of_mem ?_ List.nodup_range
  intro i j hi hj hne h
  have hi := List.mem_range.1 hi
  have hj := List.mem_range.1 hj
  have := congrArg Fin.val h
  simp only [Fin.ofNat] at this
  rw [Nat.mod_eq_of_lt (by omega), Nat.mod_eq_of_lt (by omega)] at this
  omega

theorem fermat (hp : Pr p) {a : Fin p} (ha : a ≠ 0) : a ^ (p - 1) = 1 := by
  have hperm : ((units p).map (a * ·)).Perm (units p) := by
    refine perm_of_subset _ _ ?_ ?_ (by simp)
    · unfold List.Nodup
      rw [List.pairwise_map]
      refine List.Pairwise.imp ?_ (units_nodup (p := p))
      intro x y hne h
      exact hne (mul_cancel hp ha h)
    · intro x hx
      obtain ⟨y, hy, rfl⟩ := List.mem_map.1 hx
      refine mem_units fun h => ?_
      rcases mul_eq_zero hp h with h | h
      · exact ha h
      · exact units_ne hy h
  have h1 := pr_perm hperm
  rw [pr_map_mul, units_length] at h1
  have h2 : pr (units p) ≠ 0 := pr_ne_zero hp fun a h => units_ne h
  exact mul_cancel hp (a := pr (units p)) h2 (by grind)

/-- The inverse, as a power. -/
def inv (a : Fin p) : Fin p := a ^ (p - 2)
theorem inv_mul (hp : Pr p) {a : Fin p} (ha : a ≠ 0) : inv a * a = 1 := by
  have h := fermat hp ha
  have h2 := hp.1
  have : p - 1 = (p - 2) + 1 := by omega
  rw [this] at h
  unfold inv
  grind
theorem mul_inv (hp : Pr p) {a : Fin p} (ha : a ≠ 0) : a * inv a = 1 := by have := inv_mul hp ha; grind
theorem inv_ne_zero (hp : Pr p) {a : Fin p} (ha : a ≠ 0) : inv a ≠ 0 := by
  intro h; have := inv_mul hp ha; rw [h] at this; exact one_ne_zero hp (by grind)

theorem pow_double (a : Fin p) (n : Nat) : (a * a) ^ n = a ^ (2 * n) := by
  induction n with
  | zero => simp only [Nat.mul_zero]; grind
  | succ n ih =>
    have : 2 * (n + 1) = 2 * n + 1 + 1 := by omega
    rw [this]; grind

end
end Go.Proofs.Ytjjnfobeeflnhaa.Fld

/- Polynomials over the residues modulo a prime, as lists of coefficients: sums, products, values, trailing zeros, division, interpolation. Plain Lean, no program in sight. -/
namespace Go.Proofs.Ytjjnfobeeflnhaa.Fld
set_option linter.unusedVariables false
set_option linter.unusedSimpArgs false

section
variable {p : Nat} [NeZero p]

/-! ### sums -/
def sm : Nat → (Nat → Fin p) → Fin p
  | 0, _ => 0
  | n + 1, g => sm n g + g n
theorem sm_succ (n : Nat) (g : Nat → Fin p) : sm (n + 1) g = sm n g + g n := rfl
theorem sm_congr {n : Nat} {g h : Nat → Fin p} (e : ∀ i, i < n → g i = h i) : sm n g = sm n h := by
  induction n with
  | zero => rfl
  | succ n ih => rw [sm_succ, sm_succ, ih (fun i hi => e i (by omega)), e n (by omega)]
theorem sm_zero {n : Nat} {g : Nat → Fin p} (e : ∀ i, i < n → g i = 0) : sm n g = 0 := by
  induction n with
  | zero => rfl
  | succ n ih => rw [sm_succ, ih (fun i hi => e i (by omega)), e n (by omega)]; grind
theorem sm_add (n : Nat) (g h : Nat → Fin p) : sm n (fun i => g i + h i) = sm n g + sm n h := by
  induction n with
  | zero => show (0 : Fin p) = 0 + 0; grind
  | succ n ih => rw [sm_succ, sm_succ, sm_succ, ih]; grind
theorem sm_mul (n : Nat) (c : Fin p) (g : Nat → Fin p) : sm n (fun i => c * g i) = c * sm n g := by
  induction n with
  | zero => show (0 : Fin p) = c * 0; grind
  | succ n ih => rw [sm_succ, sm_succ, ih]; grind
theorem sm_mul' (n : Nat) (c : Fin p) (g : Nat → Fin p) : sm n (fun i => g i * c) = sm n g * c := by
  induction n with
  | zero => show (0 : Fin p) = 0 * c; grind
  | succ n ih => rw [sm_succ, sm_succ, ih]; grind
theorem sm_front (n : Nat) (g : Nat → Fin p) : sm (n + 1) g = g 0 + sm n (fun i => g (i + 1)) := by
  induction n with
  | zero => show 0 + g 0 = g 0 + 0; grind
  | succ n ih => rw [sm_succ, ih, sm_succ]; grind
theorem sm_rev (n : Nat) (g : Nat → Fin p) : sm (n + 1) g = sm (n + 1) (fun i => g (n - i)) := by
  induction n generalizing g with
  | zero => rfl
  | succ n ih =>
    rw [sm_front, ih (fun i => g (i + 1)), sm_succ (n + 1) (fun i => g (n + 1 - i))]
    have : sm (n + 1) (fun i => g (n - i + 1)) = sm (n + 1) (fun i => g (n + 1 - i)) := sm_congr fun i hi => by congr 1; omega
    rw [this, show n + 1 - (n + 1) = 0 by omega]; grind
theorem sm_tri (F : Nat → Nat → Fin p) (n : Nat) : sm n (fun i => sm (i + 1) (fun j => F i j)) = sm n (fun j => sm (n - j) (fun k => F (j + k) j)) := by
  induction n with
  | zero => rfl
  | succ n ih =>
    rw [sm_succ, ih, sm_succ n (fun j => sm (n + 1 - j) (fun k => F (j + k) j))]
    have h1 : sm n (fun j => sm (n + 1 - j) (fun k => F (j + k) j)) = sm n (fun j => sm (n - j) (fun k => F (j + k) j) + F n j) := sm_congr fun j hj => by
      rw [show n + 1 - j = (n - j) + 1 by omega, sm_succ, show j + (n - j) = n by omega]
    rw [h1, sm_add, show n + 1 - n = 0 + 1 by omega, sm_succ 0, sm_succ n (fun j => F n j)]
    simp only [sm, Nat.add_zero]; grind
theorem sm_more {n m : Nat} {g : Nat → Fin p} (h : n ≤ m) (e : ∀ i, n ≤ i → i < m → g i = 0) : sm m g = sm n g := by
  induction m with
  | zero => rw [show n = 0 by omega]
  | succ m ih =>
    by_cases hn : n = m + 1
    · rw [hn]
    · rw [sm_succ, ih (by omega) (fun i h1 h2 => e i h1 (by omega)), e m (by omega) (by omega)]; grind
theorem sm_one {n k : Nat} {g : Nat → Fin p} (hk : k < n) (e : ∀ i, i < n → i ≠ k → g i = 0) : sm n g = g k := by
  induction n with
  | zero => omega
  | succ n ih =>
    rw [sm_succ]
    by_cases h : k = n
    · rw [h, sm_zero (fun i hi => e i (by omega) (by omega))]; grind
    · rw [ih (by omega) (fun i h1 h2 => e i (by omega) h2), e n (by omega) (by omega)]; grind

/-! ### coefficients, values -/
def co (f : List (Fin p)) (i : Nat) : Fin p := f.getD i 0
theorem co_nil (i : Nat) : co ([] : List (Fin p)) i = 0 := by simp [co]
theorem co_cons_zero (a : Fin p) (f : List (Fin p)) : co (a :: f) 0 = a := by simp [co]
theorem co_cons_succ (a : Fin p) (f : List (Fin p)) (i : Nat) : co (a :: f) (i + 1) = co f i := by simp [co]
theorem co_ge {f : List (Fin p)} {i : Nat} (h : f.length ≤ i) : co f i = 0 := by simp [co, List.getD_eq_getElem?_getD, List.getElem?_eq_none h]
theorem co_lt {f : List (Fin p)} {i : Nat} (h : i < f.length) : co f i = f[i] := by simp [co, List.getD_eq_getElem?_getD, h]
/-- The value at a place (Horner). -/
def ev (f : List (Fin p)) (x : Fin p) : Fin p := f.foldr (fun c v => v * x + c) 0
theorem ev_nil (x : Fin p) : ev [] x = 0 := rfl
theorem ev_cons (a : Fin p) (f : List (Fin p)) (x : Fin p) : ev (a :: f) x = ev f x * x + a := rfl
theorem ev_sm (f : List (Fin p)) (x : Fin p) : ∀ n, f.length ≤ n → ev f x = sm n (fun i => co f i * x ^ i) := by
  induction f with
  | nil => intro n _; rw [ev_nil, sm_zero]; intro i _; rw [co_nil]; grind
  | cons a f ih =>
    intro n hn
    obtain ⟨m, rfl⟩ : ∃ m, n = m + 1 := ⟨n - 1, by simp at hn; omega⟩
    rw [ev_cons, sm_front, ih m (by simp at hn; omega), co_cons_zero]
    have : sm m (fun i => co (a :: f) (i + 1) * x ^ (i + 1)) = sm m (fun i => co f i * x ^ i * x) := sm_congr fun i _ => by rw [co_cons_succ]; grind
    rw [this, sm_mul']; grind
/-- Equal as polynomials. -/
def Eqv (f g : List (Fin p)) : Prop := ∀ i, co f i = co g i
theorem Eqv.refl (f : List (Fin p)) : Eqv f f := fun _ => rfl
theorem Eqv.symm {f g : List (Fin p)} (h : Eqv f g) : Eqv g f := fun i => (h i).symm
theorem Eqv.trans {f g k : List (Fin p)} (h : Eqv f g) (h' : Eqv g k) : Eqv f k := fun i => (h i).trans (h' i)
theorem Eqv.ev {f g : List (Fin p)} (h : Eqv f g) (x : Fin p) : ev f x = ev g x := by
  rw [ev_sm f x (max f.length g.length) (by omega), ev_sm g x (max f.length g.length) (by omega)]
  exact sm_congr fun i _ => by rw [h i]

/-! ### trailing zeros -/
def trim (f : List (Fin p)) : List (Fin p) := f.foldr (fun c r => if r = [] ∧ c = 0 then [] else c :: r) []
theorem trim_nil : trim ([] : List (Fin p)) = [] := rfl
theorem trim_cons (a : Fin p) (f : List (Fin p)) : trim (a :: f) = if trim f = [] ∧ a = 0 then [] else a :: trim f := rfl
theorem trim_co (f : List (Fin p)) : Eqv (trim f) f := by
  induction f with
  | nil => exact Eqv.refl _
  | cons a f ih =>
    intro i
    rw [trim_cons]
    split
    · rename_i h
      obtain ⟨h1, rfl⟩ := h
      cases i with
      | zero => rw [co_nil, co_cons_zero]
      | succ i => rw [co_nil, co_cons_succ, ← ih i, h1, co_nil]
    · cases i with
      | zero => rw [co_cons_zero, co_cons_zero]
      | succ i => rw [co_cons_succ, co_cons_succ, ih i]
theorem trim_eq_nil {f : List (Fin p)} (h : ∀ i, co f i = 0) : trim f = [] := by
  induction f with
  | nil => rfl
  | cons a f ih =>
    rw [trim_cons, if_pos ⟨ih (fun i => by rw [← co_cons_succ a, h]), by rw [← co_cons_zero a f, h]⟩]
theorem trim_congr {f g : List (Fin p)} (h : Eqv f g) : trim f = trim g := by
  induction f generalizing g with
  | nil => rw [trim_nil, trim_eq_nil (fun i => by rw [← h i, co_nil])]
  | cons a f ih =>
    cases g with
    | nil => rw [trim_nil, trim_eq_nil (fun i => by rw [h i, co_nil])]
    | cons b g =>
      have h0 : a = b := by have := h 0; rwa [co_cons_zero, co_cons_zero] at this
      have h1 : Eqv f g := fun i => by have := h (i + 1); rwa [co_cons_succ, co_cons_succ] at this
      rw [trim_cons, trim_cons, ih h1, h0]
theorem trim_trim (f : List (Fin p)) : trim (trim f) = trim f := trim_congr (trim_co f)
theorem eqv_iff {f g : List (Fin p)} : Eqv f g ↔ trim f = trim g :=
  ⟨trim_congr, fun h => (trim_co f).symm.trans (h ▸ trim_co g)⟩
theorem trim_length_le (f : List (Fin p)) : (trim f).length ≤ f.length := by
  induction f with
  | nil => simp [trim_nil]
  | cons a f ih => rw [trim_cons]; split <;> simp <;> omega
theorem trim_length_of {f : List (Fin p)} {n : Nat} (h : ∀ i, n ≤ i → co f i = 0) : (trim f).length ≤ n := by
  induction f generalizing n with
  | nil => simp [trim_nil]
  | cons a f ih =>
    rw [trim_cons]
    split
    · simp
    · rename_i hne
      cases n with
      | zero =>
        exfalso; apply hne
        exact ⟨trim_eq_nil fun i => by rw [← co_cons_succ a, h _ (by omega)], by rw [← co_cons_zero a f, h 0 (by omega)]⟩
      | succ n =>
        have := ih (n := n) (fun i hi => by rw [← co_cons_succ a, h _ (by omega)])
        simp; omega
theorem trim_last {f : List (Fin p)} (h : trim f ≠ []) : co f ((trim f).length - 1) ≠ 0 := by
  intro h0
  have hl : 0 < (trim f).length := List.length_pos_iff.2 h
  have := trim_length_of (f := f) (n := (trim f).length - 1) (fun i hi => by
    by_cases e : i = (trim f).length - 1
    · rw [e]; exact h0
    · rw [← trim_co f i]; exact co_ge (by omega))
  omega
/-- Nothing to trim. -/
def Tr (f : List (Fin p)) : Prop := trim f = f
theorem Tr.trim (f : List (Fin p)) : Tr (trim f) := trim_trim f
theorem Tr.ext {f g : List (Fin p)} (hf : Tr f) (hg : Tr g) (h : Eqv f g) : f = g := by rw [← hf, ← hg, trim_congr h]
theorem Tr.last {f : List (Fin p)} (hf : Tr f) (h : f ≠ []) : co f (f.length - 1) ≠ 0 := by
  have := trim_last (f := f) (by rw [hf]; exact h)
  rwa [hf] at this
theorem tr_of_last {f : List (Fin p)} (h : f ≠ [] → co f (f.length - 1) ≠ 0) : Tr f := by
  by_cases hf : f = []
  · rw [hf]; rfl
  · have hl := List.length_pos_iff.2 hf
    have h1 : f.length ≤ (Fld.trim f).length := by
      apply Nat.le_of_not_lt
      intro hlt
      apply h hf
      rw [← trim_co f]; exact co_ge (by omega)
    have h2 := trim_length_le f
    apply List.ext_getElem (by omega)
    intro i h3 h4
    have := trim_co f i
    rwa [co_lt h3, co_lt h4] at this

/-! ### making a list out of its coefficients -/
def mk (n : Nat) (c : Nat → Fin p) : List (Fin p) := (List.range n).map c
end
section
variable {p : Nat}
theorem mk_length (n : Nat) (c : Nat → Fin p) : (mk n c).length = n := by simp [mk]
end
section
variable {p : Nat} [NeZero p]
theorem co_mk (n : Nat) (c : Nat → Fin p) (i : Nat) : co (mk n c) i = if i < n then c i else 0 := by
  by_cases h : i < n
  · rw [co_lt (by rw [mk_length]; exact h), if_pos h]; simp [mk]
  · rw [co_ge (by rw [mk_length]; omega), if_neg h]

/-! ### sums, products -/
def add (f g : List (Fin p)) : List (Fin p) := mk (max f.length g.length) (fun i => co f i + co g i)
def sub (f g : List (Fin p)) : List (Fin p) := mk (max f.length g.length) (fun i => co f i - co g i)
def smul (c : Fin p) (f : List (Fin p)) : List (Fin p) := f.map (c * ·)
theorem co_add (f g : List (Fin p)) (i : Nat) : co (add f g) i = co f i + co g i := by
  unfold add; rw [co_mk]; split
  · rfl
  · rw [co_ge (f := f) (by omega), co_ge (f := g) (by omega)]; grind
theorem co_sub (f g : List (Fin p)) (i : Nat) : co (sub f g) i = co f i - co g i := by
  unfold sub; rw [co_mk]; split
  · rfl
  · rw [co_ge (f := f) (by omega), co_ge (f := g) (by omega)]; grind
theorem co_smul (c : Fin p) (f : List (Fin p)) (i : Nat) : co (smul c f) i = c * co f i := by
  unfold smul
  by_cases h : i < f.length
  · rw [co_lt (by simpa using h), co_lt h]; simp
  · rw [co_ge (by simp; omega), co_ge (by omega)]; grind
end
section
variable {p : Nat}
theorem smul_length (c : Fin p) (f : List (Fin p)) : (smul c f).length = f.length := by simp [smul]
end
section
variable {p : Nat} [NeZero p]
theorem add_length (f g : List (Fin p)) : (add f g).length = max f.length g.length := mk_length _ _
theorem sub_length (f g : List (Fin p)) : (sub f g).length = max f.length g.length := mk_length _ _
theorem ev_add (f g : List (Fin p)) (x : Fin p) : ev (add f g) x = ev f x + ev g x := by
  rw [ev_sm (add f g) x (max f.length g.length) (by rw [add_length]; omega), ev_sm f x (max f.length g.length) (by omega), ev_sm g x (max f.length g.length) (by omega), ← sm_add]
  exact sm_congr fun i _ => by rw [co_add]; grind
theorem ev_sub (f g : List (Fin p)) (x : Fin p) : ev (sub f g) x = ev f x - ev g x := by
  have h : Eqv (add (sub f g) g) f := fun i => by rw [co_add, co_sub]; grind
  have := h.ev x
  rw [ev_add] at this
  grind
theorem ev_smul (c : Fin p) (f : List (Fin p)) (x : Fin p) : ev (smul c f) x = c * ev f x := by
  rw [ev_sm (smul c f) x f.length (by rw [smul_length]; omega), ev_sm f x f.length (by omega), ← sm_mul]
  exact sm_congr fun i _ => by rw [co_smul]; grind

/-- A product of coefficients. -/
def cv (c d : Nat → Fin p) (n : Nat) : Fin p := sm (n + 1) (fun i => c i * d (n - i))
theorem cv_congr {c c' d d' : Nat → Fin p} (h : ∀ i, c i = c' i) (h' : ∀ i, d i = d' i) (n : Nat) : cv c d n = cv c' d' n := sm_congr fun i _ => by rw [h, h']
theorem cv_comm (c d : Nat → Fin p) (n : Nat) : cv c d n = cv d c n := by
  unfold cv
  rw [sm_rev]
  exact sm_congr fun i hi => by rw [show n - (n - i) = i by omega]; grind
theorem cv_add (c d d' : Nat → Fin p) (n : Nat) : cv c (fun i => d i + d' i) n = cv c d n + cv c d' n := by
  unfold cv; rw [← sm_add]; exact sm_congr fun i _ => by grind
theorem cv_add' (c c' d : Nat → Fin p) (n : Nat) : cv (fun i => c i + c' i) d n = cv c d n + cv c' d n := by
  unfold cv; rw [← sm_add]; exact sm_congr fun i _ => by grind
theorem cv_mul (a : Fin p) (c d : Nat → Fin p) (n : Nat) : cv (fun i => a * c i) d n = a * cv c d n := by
  unfold cv; rw [← sm_mul]; exact sm_congr fun i _ => by grind
theorem cv_mul' (a : Fin p) (c d : Nat → Fin p) (n : Nat) : cv c (fun i => a * d i) n = a * cv c d n := by
  unfold cv; rw [← sm_mul]; exact sm_congr fun i _ => by grind
theorem cv_assoc (a b c : Nat → Fin p) (n : Nat) : cv (cv a b) c n = cv a (cv b c) n := by
  unfold cv
  have h1 : sm (n + 1) (fun i => sm (i + 1) (fun j => a j * b (i - j)) * c (n - i)) = sm (n + 1) (fun i => sm (i + 1) (fun j => a j * b (i - j) * c (n - i))) := sm_congr fun i _ => by rw [sm_mul']
  rw [h1, sm_tri (fun i j => a j * b (i - j) * c (n - i))]
  refine sm_congr fun j hj => ?_
  rw [← sm_mul, show n + 1 - j = n - j + 1 by omega]
  refine sm_congr fun k hk => ?_
  rw [show j + k - j = k by omega, show n - j - k = n - (j + k) by omega]; grind
/-- A product. -/
def mul : List (Fin p) → List (Fin p) → List (Fin p)
  | [], _ => []
  | a :: f, g => add (smul a g) (0 :: mul f g)
theorem co_mul (f g : List (Fin p)) (n : Nat) : co (mul f g) n = cv (co f) (co g) n := by
  induction f generalizing n with
  | nil => rw [mul, co_nil]; unfold cv; rw [sm_zero]; intro i _; rw [co_nil]; grind
  | cons a f ih =>
    rw [mul, co_add, co_smul]
    unfold cv
    rw [sm_front, co_cons_zero]
    cases n with
    | zero => rw [co_cons_zero]; show a * co g 0 + 0 = a * co g 0 + 0; rfl
    | succ n =>
      rw [co_cons_succ, ih n]
      unfold cv
      congr 1
      exact sm_congr fun i _ => by rw [co_cons_succ, show n + 1 - (i + 1) = n - i by omega]
theorem ev_mul (f g : List (Fin p)) (x : Fin p) : ev (mul f g) x = ev f x * ev g x := by
  induction f with
  | nil => rw [mul, ev_nil]; grind
  | cons a f ih => rw [mul, ev_add, ev_smul, ev_cons, ih, ev_cons]; grind
theorem co_mul_ge {f g : List (Fin p)} {n : Nat} (h : f.length + g.length ≤ n + 1) : co (mul f g) n = 0 := by
  rw [co_mul]; unfold cv
  refine sm_zero fun i hi => ?_
  by_cases h1 : f.length ≤ i
  · rw [co_ge h1]; grind
  · rw [co_ge (f := g) (by omega)]; grind
theorem co_mul_top {f g : List (Fin p)} (hf : f ≠ []) (hg : g ≠ []) : co (mul f g) (f.length + g.length - 2) = co f (f.length - 1) * co g (g.length - 1) := by
  have h1 := List.length_pos_iff.2 hf
  have h2 := List.length_pos_iff.2 hg
  rw [co_mul]; unfold cv
  rw [sm_one (k := f.length - 1) (by omega)]
  · rw [show f.length + g.length - 2 - (f.length - 1) = g.length - 1 by omega]
  · intro i hi hne
    by_cases h : f.length ≤ i
    · rw [co_ge h]; grind
    · rw [co_ge (f := g) (by omega)]; grind

/-! ### equations between polynomials -/
theorem Eqv.add {f f' g g' : List (Fin p)} (h : Eqv f f') (h' : Eqv g g') : Eqv (add f g) (add f' g') := fun i => by rw [co_add, co_add, h i, h' i]
theorem Eqv.sub {f f' g g' : List (Fin p)} (h : Eqv f f') (h' : Eqv g g') : Eqv (sub f g) (sub f' g') := fun i => by rw [co_sub, co_sub, h i, h' i]
theorem Eqv.mul {f f' g g' : List (Fin p)} (h : Eqv f f') (h' : Eqv g g') : Eqv (mul f g) (mul f' g') := fun i => by rw [co_mul, co_mul, cv_congr h h']
theorem Eqv.smul {f f' : List (Fin p)} (c : Fin p) (h : Eqv f f') : Eqv (smul c f) (smul c f') := fun i => by rw [co_smul, co_smul, h i]
theorem mul_comm (f g : List (Fin p)) : Eqv (mul f g) (mul g f) := fun i => by rw [co_mul, co_mul, cv_comm]
theorem mul_assoc (f g k : List (Fin p)) : Eqv (mul (mul f g) k) (mul f (mul g k)) := fun i => by
  rw [co_mul, co_mul, cv_congr (co_mul f g) (fun _ => rfl), cv_congr (fun _ => rfl) (co_mul g k), cv_assoc]
theorem mul_add (f g k : List (Fin p)) : Eqv (mul f (Fld.add g k)) (Fld.add (mul f g) (mul f k)) := fun i => by
  rw [co_mul, co_add, co_mul, co_mul, cv_congr (fun _ => rfl) (co_add g k), cv_add]
theorem add_mul (f g k : List (Fin p)) : Eqv (mul (Fld.add f g) k) (Fld.add (mul f k) (mul g k)) := fun i => by
  rw [co_mul, co_add, co_mul, co_mul, cv_congr (co_add f g) (fun _ => rfl), cv_add']
theorem mul_sub (f g k : List (Fin p)) : Eqv (mul f (Fld.sub g k)) (Fld.sub (mul f g) (mul f k)) := fun i => by
  have h : Eqv (Fld.add (Fld.sub g k) k) g := fun i => by rw [co_add, co_sub]; grind
  have h1 := (mul_add f (Fld.sub g k) k).symm.trans ((Eqv.refl f).mul h) i
  rw [co_add] at h1
  rw [co_sub, ← h1]; grind
theorem sub_mul (f g k : List (Fin p)) : Eqv (mul (Fld.sub f g) k) (Fld.sub (mul f k) (mul g k)) :=
  (mul_comm _ _).trans ((mul_sub k f g).trans ((mul_comm _ _).sub (mul_comm _ _)))
theorem smul_mul (c : Fin p) (f g : List (Fin p)) : Eqv (mul (Fld.smul c f) g) (Fld.smul c (mul f g)) := fun i => by
  rw [co_mul, co_smul, co_mul, cv_congr (co_smul c f) (fun _ => rfl), cv_mul]
theorem mul_smul (c : Fin p) (f g : List (Fin p)) : Eqv (mul f (Fld.smul c g)) (Fld.smul c (mul f g)) := fun i => by
  rw [co_mul, co_smul, co_mul, cv_congr (fun _ => rfl) (co_smul c g), cv_mul']
theorem mul_nil (f : List (Fin p)) : Eqv (mul f []) [] := fun i => by
  rw [co_mul, co_nil]; unfold cv; exact sm_zero fun j _ => by rw [co_nil]; grind
theorem mul_one (f : List (Fin p)) : Eqv (mul f [1]) f := fun i => by
  rw [co_mul, cv_comm]; unfold cv
  rw [sm_one (k := 0) (by omega)]
  · rw [co_cons_zero]; show 1 * co f i = co f i; grind
  · intro j _ hj
    obtain ⟨m, rfl⟩ : ∃ m, j = m + 1 := ⟨j - 1, by omega⟩
    rw [co_cons_succ, co_nil]; grind

/-! ### degrees of products, roots -/
theorem trim_mul_length (hp : Pr p) {f g : List (Fin p)} (hf : trim f ≠ []) (hg : trim g ≠ []) : (trim (mul f g)).length + 1 = (trim f).length + (trim g).length := by
  have e : Eqv (mul f g) (mul (trim f) (trim g)) := (trim_co f).symm.mul (trim_co g).symm
  rw [trim_congr e]
  have h1 := List.length_pos_iff.2 hf
  have h2 := List.length_pos_iff.2 hg
  have ht := co_mul_top hf hg
  have hn : co (mul (trim f) (trim g)) ((trim f).length + (trim g).length - 2) ≠ 0 := by
    rw [ht]
    intro h
    rcases mul_eq_zero hp h with h | h
    · exact (Tr.trim f).last hf h
    · exact (Tr.trim g).last hg h
  have hle := trim_length_of (f := mul (trim f) (trim g)) (n := (trim f).length + (trim g).length - 1) (fun i hi => co_mul_ge (by omega))
  have hge : (trim f).length + (trim g).length - 2 < (trim (mul (trim f) (trim g))).length := by
    apply Nat.lt_of_not_le
    intro h
    exact hn (by rw [← trim_co]; exact co_ge h)
  omega
theorem trim_mul_le (f g : List (Fin p)) : (trim (mul f g)).length ≤ f.length + g.length - 1 := trim_length_of fun i hi => co_mul_ge (by omega)
theorem mul_eq_nil (hp : Pr p) {f g : List (Fin p)} (h : Eqv (mul f g) []) : trim f = [] ∨ trim g = [] := by
  by_cases hf : trim f = []
  · exact .inl hf
  by_cases hg : trim g = []
  · exact .inr hg
  have := trim_mul_length hp hf hg
  rw [trim_congr h, trim_nil] at this
  have h1 := List.length_pos_iff.2 hf
  have h2 := List.length_pos_iff.2 hg
  simp at this; omega
/-- Synthetic division by x - a. -/
theorem root_factor (f : List (Fin p)) (a : Fin p) : ∃ q : List (Fin p), q.length = f.length - 1 ∧ Eqv f (add (mul [-a, 1] q) [ev f a]) := by
  induction f with
  | nil => exact ⟨[], rfl, fun i => by
      rw [co_add, co_mul, ev_nil]
      have : cv (co [-a, 1]) (co []) i = 0 := by unfold cv; exact sm_zero fun j _ => by rw [co_nil]; grind
      rw [this, co_nil]
      cases i with
      | zero => rw [co_cons_zero]; grind
      | succ i => rw [co_cons_succ, co_nil]; grind⟩
  | cons c f ih =>
    obtain ⟨q, hq, he⟩ := ih
    cases f with
    | nil =>
      refine ⟨[], rfl, fun i => ?_⟩
      rw [co_add, co_mul]
      have : cv (co [-a, 1]) (co []) i = 0 := by unfold cv; exact sm_zero fun j _ => by rw [co_nil]; grind
      rw [this, ev_cons, ev_nil]
      cases i with
      | zero => rw [co_cons_zero, co_cons_zero]; grind
      | succ i => rw [co_cons_succ, co_cons_succ]; grind
    | cons d f =>
      refine ⟨ev (d :: f) a :: q, by simp at hq ⊢; omega, fun i => ?_⟩
      have key : ∀ j, co (mul [-a, 1] q) j = co (d :: f) j - co [ev (d :: f) a] j := fun j => by have := he j; rw [co_add] at this; grind
      have hm : ∀ (r : List (Fin p)) j, co (mul [-a, 1] r) j = -a * co r j + (if j = 0 then 0 else co r (j - 1)) := by
        intro r j
        rw [mul, mul, mul, co_add, co_smul]
        cases j with
        | zero => rw [co_cons_zero]; simp
        | succ j =>
          rw [co_cons_succ, co_add, co_smul]
          have : co (0 :: ([] : List (Fin p))) j = 0 := by cases j with
            | zero => rfl
            | succ j => rw [co_cons_succ, co_nil]
          rw [this]; simp; grind
      have hE : ev (c :: d :: f) a = ev (d :: f) a * a + c := rfl
      rw [co_add, hm, hE]
      generalize ev (d :: f) a = z at *
      cases i with
      | zero => rw [co_cons_zero, co_cons_zero, co_cons_zero]; simp; grind
      | succ i =>
        rw [co_cons_succ, co_cons_succ, co_cons_succ, co_nil]
        have k := key i
        rw [hm] at k
        clear he key hm hE
        cases i with
        | zero =>
          simp only [co_cons_zero, co_cons_succ, if_true] at k ⊢
          simp only [Nat.succ_ne_zero, if_false, Nat.add_sub_cancel, Nat.zero_add, Nat.sub_self, co_cons_zero]
          grind
        | succ i =>
          simp only [co_cons_succ, co_nil, Nat.succ_ne_zero, if_false, Nat.add_sub_cancel] at k ⊢
          grind
/-- Not more roots than the degree. -/
theorem roots_le (hp : Pr p) : ∀ (n : Nat) (f : List (Fin p)) (xs : List (Fin p)), xs.Nodup → (∀ x, x ∈ xs → ev f x = 0) → f.length ≤ n → xs.length = n → ∀ i, co f i = 0
  | 0, f, _, _, _, h, _ => by
    intro i; rw [List.eq_nil_of_length_eq_zero (by omega : f.length = 0), co_nil]
  | n + 1, f, xs, hn, hr, h, hl => by
    cases xs with
    | nil => simp at hl
    | cons a xs =>
      obtain ⟨hna, hn⟩ := List.nodup_cons.1 hn
      obtain ⟨q, hq, he⟩ := root_factor f a
      have ha := hr a (by simp)
      have hz : ∀ i, co q i = 0 := by
        refine roots_le hp n q xs hn (fun x hx => ?_) (by omega) (by simpa using hl)
        have h1 := he.ev x
        rw [ev_add, ev_mul, hr x (by simp [hx]), ev_cons, ev_cons, ev_nil, ev_cons, ev_nil, ha] at h1
        have h2 : (x - a) * ev q x = 0 := by grind
        rcases mul_eq_zero hp h2 with h3 | h3
        · exact absurd (by grind : x = a) (by rintro rfl; exact hna hx)
        · exact h3
      intro i
      rw [he i, co_add, co_mul, ha]
      have : cv (co [-a, 1]) (co q) i = 0 := by unfold cv; exact sm_zero fun j _ => by rw [hz]; grind
      rw [this]
      cases i with
      | zero => rw [co_cons_zero]; grind
      | succ i => rw [co_cons_succ, co_nil]; grind
/-- Polynomials of degree less than n that have the same values at n places are the same. -/
theorem unique (hp : Pr p) {f g xs : List (Fin p)} (hn : xs.Nodup) (hf : (trim f).length ≤ xs.length) (hg : (trim g).length ≤ xs.length) (h : ∀ x, x ∈ xs → ev f x = ev g x) : Eqv f g := by
  have e : Eqv (sub (trim f) (trim g)) (sub f g) := (trim_co f).sub (trim_co g)
  have := roots_le hp xs.length (sub (trim f) (trim g)) xs hn (fun x hx => by rw [e.ev, ev_sub, h x hx]; grind) (by rw [sub_length]; omega) rfl
  intro i
  have h1 := (e i).symm.trans (this i)
  rw [co_sub] at h1
  grind
theorem roots_count (hp : Pr p) {f xs : List (Fin p)} (hf : trim f ≠ []) (hn : xs.Nodup) (h : ∀ x, x ∈ xs → ev f x = 0) : xs.length < (trim f).length := by
  apply Nat.lt_of_not_le
  intro hle
  apply hf
  have : Eqv f [] := by
    have hs : ((xs.take (trim f).length)).Nodup := List.Nodup.sublist (List.take_sublist _ _) hn
    exact unique hp hs (by simp; omega) (by simp [trim_nil]) (fun x hx => by rw [h x (List.mem_of_mem_take hx), ev_nil])
  rw [trim_congr this, trim_nil]
end
end Go.Proofs.Ytjjnfobeeflnhaa.Fld

/- What Go functions of the program compute, as plain Lean functions, and that the machine comes to just these answers (written by a program for this seat). -/
namespace Go.Proofs.Ytjjnfobeeflnhaa.J
open Go.RowKit Go.Proofs.YtjjnfobeeflnhaaW.PrintWords Go.Proofs.YtjjnfobeeflnhaaW.PrintLast Go.Proofs.YtjjnfobeeflnhaaW.PrintMore
attribute [local go_sem] max2_int min2_int max_two min_two max_three min_three max_four min_four   -- for this text's walks alone
set_option linter.unusedVariables false
set_option linter.unusedSimpArgs false

/-! ### field_Minus: function 142 -/
def field_Minus.f (a0 : Int) (a1 : Int) (a2 : Int) : Option (Int) := if a0 = 0 then (none) else ((field_Plus.f a0 a1 (Int.tmod (IntKind.u64.wrap (a0 - a2)) a0)).bind fun t473 => (some t473))
set_option maxHeartbeats 8000000 in
set_option maxRecDepth 100000 in
theorem field_Minus.calls (a0 : Int) (a1 : Int) (a2 : Int) (r : Int) (w : World) (h : field_Minus.f a0 a1 a2 = some r) :
    Calls Try.prog 142 #[.int .u64 a0, .int .u64 a1, .int .u64 a2] w fun e w' => e = .returned (.int .u64 r) ∧ Drawn0 w w' := by
  have H : (if a0 = 0 then (none) else ((field_Plus.f a0 a1 (Int.tmod (IntKind.u64.wrap (a0 - a2)) a0)).bind fun t473 => (some t473))) = some r := h
  clear h
  by_cases c4 : a0 = 0
  · rw [if_pos c4] at H
    exact absurd H (by simp)
  · rw [if_neg c4] at H
    have c4b0 : (a0 == 0) = false := beq_eq_false_iff_ne.mpr c4
    have c4b1 : (a0 != 0) = true := bne_iff_ne.mpr c4
    replace H := Option.bind_eq_some_iff.mp H
    obtain ⟨t473, A50, H⟩ := H
    replace H : (some t473) = some r := H
    have A5 := Aside0.mk A50
    clear A50
    obtain rfl := Option.some.inj H
    go_enter Try.func142, Try.ntmps142
    go_wp2_with (first | ((with_reducible refine gate_callee (f := 147) rfl ?_); refine goesL_ (some 14) rfl rfl Try.func147 (by kernel_rfl) rfl #[.int .u64 a0, .int .u64 a1, .int .u64 (Int.tmod (IntKind.u64.wrap (a0 - a2)) a0)] rfl (by (try simp only [List.map_toArray, List.map_cons, List.map_nil]); first | done | rfl | (simp only [List.length_drop, List.length_take]; rfl)) ?_; (with_reducible refine (field_Plus.calls a0 a1 (Int.tmod (IntKind.u64.wrap (a0 - a2)) a0) t473 _ A5.out).mono ?_); rintro e w' ⟨rfl, ⟨nd, rfl⟩⟩; refine ⟨_, rfl, ?_⟩))
    go_ret
    exact ⟨by first | rfl | (simp; done) | (simp [*]; done), by repeat (first | exact Drawn0.refl _ | apply Drawn0.step)⟩
theorem field_Minus.callsB (a0 : Int) (a1 : Int) (a2 : Int) (r : Int) (w : World) (h : field_Minus.f a0 a1 a2 = some r) :
    Calls Try.prog 142 #[.int .u64 a0, .int .u64 a1, .int .u64 a2] w fun e w' => e = .returned (.int .u64 r) ∧ Below w.heap.size w w' := (field_Minus.calls a0 a1 a2 r w h).mono fun _ _ h_ => ⟨h_.1, h_.2.below⟩

end Go.Proofs.Ytjjnfobeeflnhaa.J

/- What Go functions of the program compute, as plain Lean functions, and that the machine comes to just these answers (written by a program for this seat). -/
namespace Go.Proofs.Ytjjnfobeeflnhaa.J
open Go.RowKit Go.Proofs.YtjjnfobeeflnhaaW.PrintWords Go.Proofs.YtjjnfobeeflnhaaW.PrintLast Go.Proofs.YtjjnfobeeflnhaaW.PrintMore
attribute [local go_sem] max2_int min2_int max_two min_two max_three min_three max_four min_four   -- for this text's walks alone
set_option linter.unusedVariables false
set_option linter.unusedSimpArgs false

/-! ### poly_By: function 136 -/
def poly_By.l0 : Nat → Int → Int → List Int → List Int → Int → Int → Option (List Int)
  | 0, _, _, _, _, _, _ => none
  | k + 1, x0, x2, x7, x13, x14, x15 => if x15 < x14 then (if 0 ≤ x15 then (if x15 < (x13.length : Int) then ((field_Times.f x0 (rd x13 x15) x2).bind fun t478 => (if x15 < (x7.length : Int) then (poly_By.l0 k x0 x2 (x7.set (x15 : Int).toNat t478) x13 x14 (wrap64 (x15 + 1))) else (none))) else (none)) else (none)) else ((poly_Short.f k x7).bind fun t480 => (some t480))
def poly_By.f (k : Nat) (a0 : Int) (l1 : List Int) (a2 : Int) : Option (List Int) := if 0 ≤ (l1.length : Int) then (if ((l1.length : Int) : Int).toNat ≤ 35184372088832 then (poly_By.l0 k a0 a2 (List.replicate ((l1.length : Int) : Int).toNat 0) l1 (l1.length : Int) 0) else (none)) else (none)
theorem poly_By.mono_l : ∀ k, (∀ y0 y1 y2 y3 y4 y5, LeO (poly_By.l0 k y0 y1 y2 y3 y4 y5) (poly_By.l0 (k + 1) y0 y1 y2 y3 y4 y5))
  | 0 => fun _ _ _ _ _ _ r h => by simp [poly_By.l0] at h
  | k + 1 => by
    have ih0 := poly_By.mono_l k
    · intro y0 y1 y2 y3 y4 y5
      unfold poly_By.l0
      repeat' first
      | (with_reducible exact ih0 _ _ _ _ _ _)
      | (with_reducible exact poly_Short.mono _ _)
      | (with_reducible exact LeO.refl _)
      | (with_reducible exact LeO.none _)
      | (with_reducible refine LeO.ite ?_ ?_)
      | (with_reducible refine LeO.bind ?_ (fun _ => ?_))
      | exact ih0 _ _ _ _ _ _
      | exact poly_Short.mono _ _
      | exact LeO.none _
      | refine LeO.ite ?_ ?_
      | refine LeO.bind ?_ (fun _ => ?_)
theorem poly_By.mono : ∀ a0 a1 a2 k, LeO (poly_By.f k a0 a1 a2) (poly_By.f (k + 1) a0 a1 a2) := by
  intro a0 a1 a2 k
  have ih0 := poly_By.mono_l k
  unfold poly_By.f
  repeat' first
      | (with_reducible exact ih0 _ _ _ _ _ _)
      | (with_reducible exact poly_Short.mono _ _)
      | (with_reducible exact LeO.refl _)
      | (with_reducible exact LeO.none _)
      | (with_reducible refine LeO.ite ?_ ?_)
      | (with_reducible refine LeO.bind ?_ (fun _ => ?_))
      | exact ih0 _ _ _ _ _ _
      | exact poly_Short.mono _ _
      | exact LeO.none _
      | refine LeO.ite ?_ ?_
      | refine LeO.bind ?_ (fun _ => ?_)
set_option maxHeartbeats 8000000 in
set_option maxRecDepth 100000 in
theorem poly_By.calls (k : Nat) (a0 : Int) (A1 : Option Addr) (c1 : Nat) (l1 : List Int) (a2 : Int) (r : List Int) (w : World) (hr1 : Kd.C (Kd.int .u64) w A1 l1.length l1) (hc1 : l1.length ≤ c1) (h : poly_By.f k a0 l1 a2 = some r) :
    Calls Try.prog 136 #[.int .u64 a0, .slice A1 l1.length c1, .int .u64 a2] w fun e w' => ∃ v0_ : Value, e = .returned (v0_) ∧ Kd.R (Kd.int .u64) 22 w' w.heap.size (fun _ => True) v0_ r ∧ Below w.heap.size w w' := by
  have HR1 := Aside0.mk hr1
  have HC1 := Aside0.mk hc1
  clear hr1 hc1
  have HB := Aside0.mk (Below.refl w.heap.size w)
  have H : (if 0 ≤ (l1.length : Int) then (if ((l1.length : Int) : Int).toNat ≤ 35184372088832 then (poly_By.l0 k a0 a2 (List.replicate ((l1.length : Int) : Int).toNat 0) l1 (l1.length : Int) 0) else (none)) else (none)) = some r := h
  clear h
  by_cases c4 : 0 ≤ (l1.length : Int)
  · rw [if_pos c4] at H
    have c4b0 := eq_true c4
    have c4b1 : decide (0 ≤ (l1.length : Int)) = true := decide_eq_true c4
    clear c4
    by_cases c5 : ((l1.length : Int) : Int).toNat ≤ 35184372088832
    · rw [if_pos c5] at H
      have c5b0 := eq_true c5
      have c5b1 : decide (((l1.length : Int) : Int).toNat ≤ 35184372088832) = true := decide_eq_true c5
      clear c5
      obtain ⟨y474, hy474⟩ : ∃ y_ : List Int, y_ = (List.replicate ((l1.length : Int) : Int).toNat 0) := ⟨_, rfl⟩
      replace H : (poly_By.l0 k a0 a2 y474 l1 (l1.length : Int) 0) = some r := by first | (rw [hy474]; with_reducible exact H) | (have H2_ := (Option.bind_some _ _).symm.trans H; rw [hy474]; with_reducible exact H2_) | (have H2_ := (Option.bind_some _ _).symm.trans H; with_reducible exact H2_) | with_reducible exact H | (rw [hy474]; exact H) | exact H
      have Ny474 := Aside0.mk hy474
      clear hy474
      have H' := Aside0.mk H
      clear H
      go_enter Try.func136, Try.ntmps136
      go_wp2_with (first | ((with_reducible refine gate_dst (N := 12) rfl ?_); refine Kd.R_make (Kd.int .u64) _ 22 rfl (N := 12) rfl 31 _ _ rfl (l1.length : Int) rfl rfl Try.underlying31 (.int .u64 0) 8 info22 rfl (by decide) (by omega) 0 (ok := fun _ => True) (okp := fun _ => True) rfl (fun _ hk => hk) trivial (of_decide_eq_true (by first | (with_reducible assumption) | assumption)) (Nat.le_trans (Nat.mul_le_mul_right _ (of_decide_eq_true (by first | (with_reducible assumption) | assumption) : (l1.length : Int).toNat ≤ 35184372088832)) (by omega)) (Below.refl _ _) (Nat.le_refl _) ?_; intro v475 w6 ho7 hb hg_ hnew_; clear hg_ hnew_; (first | rw [← Ny474.out] at ho7 | (simp only [Int.reduceToNat] at ho7; rw [← Ny474.out] at ho7)); have n0_ := Aside0.mk (Kd.R_lower ho7 (below_size (by repeat (first | (with_reducible first | exact HB.out | apply below_alloc | apply pw_below_drewN | apply below_drew1) | exact HB.out)))); have n1_ := Aside0.mk (below_step (by repeat (first | (with_reducible first | exact HB.out | apply below_alloc | apply pw_below_drewN | apply below_drew1) | exact HB.out)) hb); clear HB; have HO476 := n0_; have HB := n1_; clear n0_ n1_; clear hb ho7))
      go_loopg [15] k (fun kq v15 w' => ∃ (x7_1 : List Int) (x15_1 : Int), v15 = .int .i64 x15_1 ∧ Aside0 (poly_By.l0 kq a0 a2 x7_1 l1 (l1.length : Int) x15_1 = some r) ∧ Aside0 (kq ≤ k) ∧ Aside0 (Kd.R (Kd.int .u64) 22 w' w.heap.size (fun _ => True) v475 x7_1) ∧ Aside0 (Below w.heap.size w w'))
      case atStart => exact ⟨(y474), (0), (by first | rfl | (simp; done) | (simp [*]; done)), H', ⟨Nat.le_refl _⟩, ⟨by (with_reducible repeat (first | apply Kd.R_alloc | apply Kd.R_drewN | apply Kd.R_drew)); exact HO476.out⟩, ⟨by repeat (first | (with_reducible first | exact HB.out | apply below_alloc | apply pw_below_drewN | apply below_drew1) | exact HB.out)⟩⟩
      case round =>
        clear H'
        try clear c1
        try clear p2
        try clear c4
        try clear c4b0
        try clear c4b1
        try clear c5
        try clear c5b0
        try clear c5b1
        obtain ⟨x7_1, x15_1, rfl, HA, HK1, HO_7, HB⟩ := hrel
        cases gk with
        | zero => exact absurd HA.out (by simp [poly_By.l0])
        | succ k1 =>
          have H := HA.out
          clear HA
          simp only [poly_By.l0] at H
          by_cases c8 : x15_1 < (l1.length : Int)
          · rw [if_pos c8] at H
            have c8b0 : decide (x15_1 < (l1.length : Int)) = true := decide_eq_true c8
            clear c8
            by_cases c9 : 0 ≤ x15_1
            · rw [if_pos c9] at H
              have c9b0 : decide (0 ≤ x15_1) = true := decide_eq_true c9
              clear c9
              by_cases c10 : x15_1 < (l1.length : Int)
              · rw [if_pos c10] at H
                have c10b0 : decide (x15_1 < (l1.length : Int)) = true := decide_eq_true c10
                clear c10
                replace H := Option.bind_eq_some_iff.mp H
                obtain ⟨t478, A110, H⟩ := H
                replace H : (if x15_1 < (x7_1.length : Int) then (poly_By.l0 k1 a0 a2 (x7_1.set (x15_1 : Int).toNat t478) l1 (l1.length : Int) (wrap64 (x15_1 + 1))) else (none)) = some r := H
                have A11 := Aside0.mk A110
                clear A110
                by_cases c12 : x15_1 < (x7_1.length : Int)
                · rw [if_pos c12] at H
                  have c12b0 : decide (x15_1 < (x7_1.length : Int)) = true := decide_eq_true c12
                  clear c12
                  obtain ⟨y479, hy479⟩ : ∃ y_ : List Int, y_ = (x7_1.set (x15_1 : Int).toNat t478) := ⟨_, rfl⟩
                  replace H : (poly_By.l0 k1 a0 a2 y479 l1 (l1.length : Int) (wrap64 (x15_1 + 1))) = some r := by first | (rw [hy479]; with_reducible exact H) | (have H2_ := (Option.bind_some _ _).symm.trans H; rw [hy479]; with_reducible exact H2_) | (have H2_ := (Option.bind_some _ _).symm.trans H; with_reducible exact H2_) | with_reducible exact H | (rw [hy479]; exact H) | exact H
                  have Ny479 := Aside0.mk hy479
                  clear hy479
                  have H' := Aside0.mk H
                  clear H
                  have p477 : 0 ≤ (x15_1 : Int) := of_decide_eq_true (by first | (with_reducible assumption) | assumption)
                  have q477 : x15_1 < (l1.length : Int) := of_decide_eq_true (by first | (with_reducible assumption) | assumption)
                  obtain ⟨ad477, e477, hx477_0⟩ := Kd.at_int HR1.out x15_1 p477 q477
                  cases e477
                  replace hx477_0 := (HB.out.cell (World.block_lt_of_cell? w _ hx477_0)).trans hx477_0
                  replace p477 := eq_true p477
                  replace q477 := eq_true q477
                  go_wp2_with (first | ((with_reducible refine gate_callee (f := 148) rfl ?_); refine goesL_ (some 25) rfl rfl Try.func148 (by kernel_rfl) rfl #[.int .u64 a0, .int .u64 (rd l1 x15_1), .int .u64 a2] rfl (by (try simp only [List.map_toArray, List.map_cons, List.map_nil]); first | done | rfl | (simp only [List.length_drop, List.length_take]; rfl)) ?_; (with_reducible refine (field_Times.calls a0 (rd l1 x15_1) a2 t478 _ A11.out).mono ?_); rintro e w' ⟨rfl, ⟨nd, rfl⟩⟩; refine ⟨_, rfl, ?_⟩; (try (rw [drewN_self wr]; generalize hq_ : World.drewN wr _ = wr; have n0_ : Aside0 (Kd.R (Kd.int .u64) 22 wr w.heap.size (fun _ => True) v475 x7_1) := ⟨by rw [← hq_]; exact (by (with_reducible repeat (first | apply Kd.R_alloc | apply Kd.R_drewN | apply Kd.R_drew)); exact HO_7.out)⟩; have n1_ : Aside0 (Below w.heap.size w wr) := ⟨by rw [← hq_]; exact (by repeat (first | (with_reducible first | exact HB.out | apply below_alloc | apply pw_below_drewN | apply below_drew1) | exact HB.out))⟩; clear HO_7 HB hq_; have HO_7 := n0_; have HB := n1_; clear n0_ n1_)); have p13 : 0 ≤ (x15_1 : Int) := of_decide_eq_true (by first | (with_reducible assumption) | assumption); have q13 : (x15_1 : Int) < ((x7_1.length : Int) : Int) := of_decide_eq_true (by first | (with_reducible assumption) | assumption); obtain ⟨go13, co13, eo13, gb13, gl13, cl13, HG13⟩ := Kd.R_form HO_7.out (by omega); (first | cases eo13 | (injection eo13 with ea_ en_ ec_; (first | subst ea_ | (injection ea_ with ea_; subst ea_)); subst ec_; clear en_)); have GB13 := Aside0.mk gb13; have GG13 := Aside0.mk HG13; clear gb13 gl13 HG13; obtain ⟨hx13_0, hf13_0⟩ := Kd.R_celln 0 HO_7.out (x15_1 : Int) p13 q13; replace p13 := eq_true p13; replace q13 := eq_true q13; obtain ⟨hy14_, hz14_⟩ := Kd.R_celln 0 HO_7.out (x15_1 : Int) (of_decide_eq_true (by first | (with_reducible assumption) | assumption)) (of_decide_eq_true (by first | (with_reducible assumption) | assumption)); have HP14 := Kd.R_putg HO_7.out (x15_1 : Int) t478) | ((with_reducible refine gate_store (t := 22) (p := 26) rfl ?_); refine store_event (t := 22) (p := 26) (v := ?vo_w15) (w1 := (wr.setCell ⟨go13, (x15_1 : Int).toNat, none⟩ (.int .u64 t478))) ?hg ?ho ?hn ?hr ?_; (case ho => rfl); (case hg => rfl); (case hn => rfl); (case hr => first | (go_simp; done) | (go_simp; rfl)); intro w15 hw; have hg : wr.grownBy w15 (some go13) := (by rw [hw]; exact HP14.2); have hp_ : Kd.R (Kd.int .u64) 22 w15 w.heap.size (fun _ => True) (.slice (some ⟨go13, 0, none⟩) x7_1.length co13) y479 := (by rw [hw, Ny479.out]; exact HP14.1); clear HP14; have n0_ := Aside0.mk (hp_); have n1_ := Aside0.mk ((by rw [hw]; exact below_set (HB.out) GB13.out : Below w.heap.size w w15)); clear HO_7; clear HB; have HO_7 := n0_; have HB := n1_; clear n0_ n1_; clear hg hw hp_))
                  go_roundg k1
                  case measure => have := HK1.out; omega
                  case rel => exact ⟨(y479), (wrap64 (x15_1 + 1)), (by first | rfl | (simp; done) | (simp [*]; done)), H', ⟨by have := HK1.out; omega⟩, ⟨by (with_reducible repeat (first | apply Kd.R_alloc | apply Kd.R_drewN | apply Kd.R_drew)); exact HO_7.out⟩, ⟨by repeat (first | (with_reducible first | exact HB.out | apply below_alloc | apply pw_below_drewN | apply below_drew1) | exact HB.out)⟩⟩
                · rw [if_neg c12] at H
                  exact absurd H (by simp)
              · rw [if_neg c10] at H
                exact absurd H (by simp)
            · rw [if_neg c9] at H
              exact absurd H (by simp)
          · rw [if_neg c8] at H
            have c8b0 : decide (x15_1 < (l1.length : Int)) = false := decide_eq_false c8
            clear c8
            replace H := Option.bind_eq_some_iff.mp H
            obtain ⟨t480, A160, H⟩ := H
            replace H : (some t480) = some r := H
            have A16 := Aside0.mk A160
            clear A160
            obtain rfl := Option.some.inj H
            obtain ⟨Ao17, co17, eo17⟩ := Kd.R_slice HO_7.out
            subst eo17
            go_wp2_with (first | ((with_reducible refine gate_callee (f := 127) rfl ?_); refine goesL_ (some 29) rfl rfl Try.func127 (by kernel_rfl) rfl #[.slice Ao17 x7_1.length co17] rfl (by (try simp only [List.map_toArray, List.map_cons, List.map_nil]); first | done | rfl | (simp only [List.length_drop, List.length_take]; rfl)) ?_; (with_reducible refine (poly_Short.calls k1 _ _ x7_1 t480 _ ?side1 ?side2 A16.out).mono ?_); (case side1 => repeat (first | exact (Kd.R_reads' HO_7.out).2.2 | (with_reducible refine Kd.C_alloc ?_ _) | (with_reducible refine Kd.C_drewN ?_ _) | (with_reducible refine Kd.C_drew ?_))); (case side2 => exact (Kd.R_reads' HO_7.out).2.1); rintro e w18 ⟨v481, rfl, ho0, hb⟩; refine ⟨_, rfl, ?_⟩; have n0_ := Aside0.mk (Kd.R_elder' (by (with_reducible repeat (first | apply Kd.R_alloc | apply Kd.R_drewN | apply Kd.R_drew)); exact HO_7.out) (Kd.R_base ho0) hb); have n1_ := Aside0.mk (Kd.R_lower (Kd.R_new' ho0 (Kd.R_lt (by (with_reducible repeat (first | apply Kd.R_alloc | apply Kd.R_drewN | apply Kd.R_drew)); exact HO_7.out))) (below_size (by repeat (first | (with_reducible first | exact HB.out | apply below_alloc | apply pw_below_drewN | apply below_drew1) | exact HB.out)))); have n2_ := Aside0.mk (below_step (by repeat (first | (with_reducible first | exact HB.out | apply below_alloc | apply pw_below_drewN | apply below_drew1) | exact HB.out)) hb); clear HO_7; clear HB; have HO_7 := n0_; have HO482 := n1_; have HB := n2_; clear n0_ n1_ n2_; (try clear hb); (try clear hb2); (try clear hk); (try clear hi); (try clear ho0)))
            go_ret
            exact ⟨_, by first | rfl | (simp [errW_none, errW_some] <;> rfl) | (simp [*, errW_none, errW_some] <;> rfl), by (with_reducible repeat (first | apply Kd.R_alloc | apply Kd.R_drewN | apply Kd.R_drew)); exact Kd.R_mono HO482.out (fun _ hk => trivial), by repeat (first | (with_reducible first | exact HB.out | apply below_alloc | apply pw_below_drewN | apply below_drew1) | exact HB.out)⟩
    · rw [if_neg c5] at H
      exact absurd H (by simp)
  · rw [if_neg c4] at H
    exact absurd H (by simp)

-- NOT PRINTED: function 62 (twice_Moved)

end Go.Proofs.Ytjjnfobeeflnhaa.J

/- What Go functions of the program compute, as plain Lean functions, and that the machine comes to just these answers (written by a program for this seat). -/
namespace Go.Proofs.Ytjjnfobeeflnhaa.J
open Go.RowKit Go.Proofs.YtjjnfobeeflnhaaW.PrintWords Go.Proofs.YtjjnfobeeflnhaaW.PrintLast Go.Proofs.YtjjnfobeeflnhaaW.PrintMore
attribute [local go_sem] max2_int min2_int max_two min_two max_three min_three max_four min_four   -- for this text's walks alone
set_option linter.unusedVariables false
set_option linter.unusedSimpArgs false

/-! ### poly_Times: function 157 -/
mutual
def poly_Times.j0 : Nat → Int → List Int → List Int → Bool → Option (List Int)
  | 0, _, _, _, _ => none
  | k + 1, x0, x1, x2, x19 => if x19 = true then (some ([] : List Int)) else (if 0 ≤ (wrap64 ((wrap64 ((x1.length : Int) + (x2.length : Int))) - 1)) then (if (wrap64 ((wrap64 ((x1.length : Int) + (x2.length : Int))) - 1) : Int).toNat ≤ 35184372088832 then (poly_Times.l0 k x0 x2 (List.replicate (wrap64 ((wrap64 ((x1.length : Int) + (x2.length : Int))) - 1) : Int).toNat 0) x1 (x1.length : Int) 0) else (none)) else (none))
def poly_Times.l0 : Nat → Int → List Int → List Int → List Int → Int → Int → Option (List Int)
  | 0, _, _, _, _, _, _ => none
  | k + 1, x0, x2, x7, x27, x28, x29 => if x29 < x28 then (if 0 ≤ x29 then (if x29 < (x27.length : Int) then (poly_Times.l1 k x0 x2 x7 x29 (rd x27 x29) x27 x28 x29 x2 (x2.length : Int) 0) else (none)) else (none)) else ((poly_Short.f k x7).bind fun t545 => (some t545))
def poly_Times.l1 : Nat → Int → List Int → List Int → Int → Int → List Int → Int → Int → List Int → Int → Int → Option (List Int)
  | 0, _, _, _, _, _, _, _, _, _, _, _ => none
  | k + 1, x0, x2, x7, x8, x9, x27, x28, x29, x34, x35, x36 => if x36 < x35 then (if 0 ≤ x36 then (if x36 < (x34.length : Int) then (if 0 ≤ (wrap64 (x8 + x36)) then (if (wrap64 (x8 + x36)) < (x7.length : Int) then ((field_Times.f x0 x9 (rd x34 x36)).bind fun t551 => ((field_Plus.f x0 (rd x7 (wrap64 (x8 + x36))) t551).bind fun t552 => (poly_Times.l1 k x0 x2 (x7.set ((wrap64 (x8 + x36)) : Int).toNat t552) x8 x9 x27 x28 x29 x34 x35 (wrap64 (x36 + 1))))) else (none)) else (none)) else (none)) else (none)) else (poly_Times.l0 k x0 x2 x7 x27 x28 (wrap64 (x29 + 1)))
end
def poly_Times.f (k : Nat) (a0 : Int) (l1 : List Int) (l2 : List Int) : Option (List Int) := if (l1.length : Int) = 0 then (poly_Times.j0 k a0 l1 l2 true) else (poly_Times.j0 k a0 l1 l2 ((l2.length : Int) == 0))
theorem poly_Times.mono_l : ∀ k, (∀ y0 y1 y2 y3, LeO (poly_Times.j0 k y0 y1 y2 y3) (poly_Times.j0 (k + 1) y0 y1 y2 y3)) ∧ (∀ y0 y1 y2 y3 y4 y5, LeO (poly_Times.l0 k y0 y1 y2 y3 y4 y5) (poly_Times.l0 (k + 1) y0 y1 y2 y3 y4 y5)) ∧ (∀ y0 y1 y2 y3 y4 y5 y6 y7 y8 y9 y10, LeO (poly_Times.l1 k y0 y1 y2 y3 y4 y5 y6 y7 y8 y9 y10) (poly_Times.l1 (k + 1) y0 y1 y2 y3 y4 y5 y6 y7 y8 y9 y10))
  | 0 => ⟨fun _ _ _ _ r h => by simp [poly_Times.j0] at h, fun _ _ _ _ _ _ r h => by simp [poly_Times.l0] at h, fun _ _ _ _ _ _ _ _ _ _ _ r h => by simp [poly_Times.l1] at h⟩
  | k + 1 => by
    obtain ⟨ih0, ih1, ih2⟩ := poly_Times.mono_l k
    refine ⟨?_, ?_, ?_⟩
    · intro y0 y1 y2 y3
      unfold poly_Times.j0
      repeat' first
      | (with_reducible exact ih0 _ _ _ _)
      | (with_reducible exact ih1 _ _ _ _ _ _)
      | (with_reducible exact ih2 _ _ _ _ _ _ _ _ _ _ _)
      | (with_reducible exact poly_Short.mono _ _)
      | (with_reducible exact LeO.refl _)
      | (with_reducible exact LeO.none _)
      | (with_reducible refine LeO.ite ?_ ?_)
      | (with_reducible refine LeO.bind ?_ (fun _ => ?_))
      | exact ih0 _ _ _ _
      | exact ih1 _ _ _ _ _ _
      | exact ih2 _ _ _ _ _ _ _ _ _ _ _
      | exact poly_Short.mono _ _
      | exact LeO.none _
      | refine LeO.ite ?_ ?_
      | refine LeO.bind ?_ (fun _ => ?_)
    · intro y0 y1 y2 y3 y4 y5
      unfold poly_Times.l0
      repeat' first
      | (with_reducible exact ih0 _ _ _ _)
      | (with_reducible exact ih1 _ _ _ _ _ _)
      | (with_reducible exact ih2 _ _ _ _ _ _ _ _ _ _ _)
      | (with_reducible exact poly_Short.mono _ _)
      | (with_reducible exact LeO.refl _)
      | (with_reducible exact LeO.none _)
      | (with_reducible refine LeO.ite ?_ ?_)
      | (with_reducible refine LeO.bind ?_ (fun _ => ?_))
      | exact ih0 _ _ _ _
      | exact ih1 _ _ _ _ _ _
      | exact ih2 _ _ _ _ _ _ _ _ _ _ _
      | exact poly_Short.mono _ _
      | exact LeO.none _
      | refine LeO.ite ?_ ?_
      | refine LeO.bind ?_ (fun _ => ?_)
    · intro y0 y1 y2 y3 y4 y5 y6 y7 y8 y9 y10
      unfold poly_Times.l1
      repeat' first
      | (with_reducible exact ih0 _ _ _ _)
      | (with_reducible exact ih1 _ _ _ _ _ _)
      | (with_reducible exact ih2 _ _ _ _ _ _ _ _ _ _ _)
      | (with_reducible exact poly_Short.mono _ _)
      | (with_reducible exact LeO.refl _)
      | (with_reducible exact LeO.none _)
      | (with_reducible refine LeO.ite ?_ ?_)
      | (with_reducible refine LeO.bind ?_ (fun _ => ?_))
      | exact ih0 _ _ _ _
      | exact ih1 _ _ _ _ _ _
      | exact ih2 _ _ _ _ _ _ _ _ _ _ _
      | exact poly_Short.mono _ _
      | exact LeO.none _
      | refine LeO.ite ?_ ?_
      | refine LeO.bind ?_ (fun _ => ?_)
theorem poly_Times.mono : ∀ a0 a1 a2 k, LeO (poly_Times.f k a0 a1 a2) (poly_Times.f (k + 1) a0 a1 a2) := by
  intro a0 a1 a2 k
  obtain ⟨ih0, ih1, ih2⟩ := poly_Times.mono_l k
  unfold poly_Times.f
  repeat' first
      | (with_reducible exact ih0 _ _ _ _)
      | (with_reducible exact ih1 _ _ _ _ _ _)
      | (with_reducible exact ih2 _ _ _ _ _ _ _ _ _ _ _)
      | (with_reducible exact poly_Short.mono _ _)
      | (with_reducible exact LeO.refl _)
      | (with_reducible exact LeO.none _)
      | (with_reducible refine LeO.ite ?_ ?_)
      | (with_reducible refine LeO.bind ?_ (fun _ => ?_))
      | exact ih0 _ _ _ _
      | exact ih1 _ _ _ _ _ _
      | exact ih2 _ _ _ _ _ _ _ _ _ _ _
      | exact poly_Short.mono _ _
      | exact LeO.none _
      | refine LeO.ite ?_ ?_
      | refine LeO.bind ?_ (fun _ => ?_)
def poly_Times.T10 : Bool × List (List Nat × List Nat) := (true, [([], []), ([], []), ([], []), ([1, 2], [1, 2]), ([], []), ([], []), ([], []), ([], []), ([6, 7], [6, 7]), ([5, 8], [5, 8]), ([9], [9]), ([], []), ([], []), ([], []), ([11, 12, 13], [11, 12, 13]), ([4, 10, 14, 14], [4, 10, 14]), ([0, 3, 0, 1, 2, 3, 4, 5, 6, 7, 8, 9, 10, 11, 12, 13, 14, 15], [0, 3]), ([16, 15, 15, 0, 1, 2, 3, 4, 5, 6, 7, 8, 9, 10, 11, 12, 13, 14, 15], [15, 16])])
def poly_Times.B10 : List Nat := [0, 0, 0, 6, 0, 0, 0, 0, 192, 480, 992, 0, 0, 0, 14336, 32752, 65535, 131071]
theorem poly_Times.tab10 : rtab .any (opsOf Try.f157 10) = poly_Times.T10 := by kernel_rfl
theorem poly_Times.bits10 : waitsOk poly_Times.T10.2 poly_Times.B10 = true := by kernel_rfl
set_option maxHeartbeats 8000000 in
set_option maxRecDepth 100000 in
theorem poly_Times.calls (k : Nat) (a0 : Int) (A1 : Option Addr) (c1 : Nat) (l1 : List Int) (A2 : Option Addr) (c2 : Nat) (l2 : List Int) (r : List Int) (w : World) (hr1 : Kd.C (Kd.int .u64) w A1 l1.length l1) (hc1 : l1.length ≤ c1) (hr2 : Kd.C (Kd.int .u64) w A2 l2.length l2) (hc2 : l2.length ≤ c2) (h : poly_Times.f k a0 l1 l2 = some r) :
    Calls Try.prog 157 #[.int .u64 a0, .slice A1 l1.length c1, .slice A2 l2.length c2] w fun e w' => ∃ v0_ : Value, e = .returned (v0_) ∧ Kd.R (Kd.int .u64) 22 w' w.heap.size (fun _ => True) v0_ r ∧ Below w.heap.size w w' := by
  have HR1 := Aside0.mk hr1
  have HC1 := Aside0.mk hc1
  clear hr1 hc1
  have HR2 := Aside0.mk hr2
  have HC2 := Aside0.mk hc2
  clear hr2 hc2
  have HB := Aside0.mk (Below.refl w.heap.size w)
  have H : (if (l1.length : Int) = 0 then (poly_Times.j0 k a0 l1 l2 true) else (poly_Times.j0 k a0 l1 l2 ((l2.length : Int) == 0))) = some r := h
  clear h
  have HC4 := Aside0.mk H
  clear H
  go_enter Try.func157, Try.ntmps157
  go_upto_region 1 with (fail)
  go_cut [19] (fun v19 wc => ∃ (kq : Nat) (x19_3 : Bool), v19 = .bool x19_3 ∧ Aside0 (poly_Times.j0 kq a0 l1 l2 x19_3 = some r) ∧ Aside0 (kq ≤ k) ∧ Aside0 (Below w.heap.size w wc))
  case first =>
    have H := HC4.out
    clear HC4
    by_cases c5 : (l1.length : Int) = 0
    · rw [if_pos c5] at H
      have c5b0 : ((l1.length : Int) == 0) = true := beq_iff_eq.mpr c5
      have c5b1 : ((l1.length : Int) != 0) = false := bne_eq_false_iff_eq.mpr c5
      clear c5
      (first | rw [c5b0] | (simp only [i64_w, i32_w]; rw [c5b0]) | skip)
      have H' := Aside0.mk H
      clear H
      go_wp2
      go_meet
      case rel => exact ⟨_, (true), (by first | rfl | (simp; done) | (simp [*]; done)), H', ⟨by first | omega | exact Nat.le_refl _⟩, ⟨by repeat (first | (with_reducible first | exact HB.out | apply below_alloc | apply pw_below_drewN | apply below_drew1) | exact HB.out)⟩⟩
    · rw [if_neg c5] at H
      have c5b0 : ((l1.length : Int) == 0) = false := beq_eq_false_iff_ne.mpr c5
      have c5b1 : ((l1.length : Int) != 0) = true := bne_iff_ne.mpr c5
      have c5b2 : ¬ (l1 = []) := fun h_ => c5 (by rw [h_]; rfl)
      (first | rw [c5b0] | (simp only [i64_w, i32_w]; rw [c5b0]) | skip)
      have H' := Aside0.mk H
      clear H
      go_wp2
      go_meet
      case rel => exact ⟨_, (((l2.length : Int) == 0)), (by first | rfl | (simp; done) | (simp [*]; done)), H', ⟨by first | omega | exact Nat.le_refl _⟩, ⟨by repeat (first | (with_reducible first | exact HB.out | apply below_alloc | apply pw_below_drewN | apply below_drew1) | exact HB.out)⟩⟩
  case rest =>
    clear HC4
    try clear c1
    try clear c2
    try clear p2
    try clear c5
    try clear c5b0
    try clear c5b1
    try clear c5b2
    obtain ⟨kq, x19_3, rfl, HA, HJ3, HB⟩ := hcut
    cases kq with
    | zero => exact absurd HA.out (by simp [poly_Times.j0])
    | succ kj3 =>
      have H := HA.out
      clear HA
      simp only [poly_Times.j0] at H
      by_cases c6 : x19_3 = true
      · subst c6
        have H1 : (some ([] : List Int)) = some r := by rw [if_pos rfl] at H; exact H
        clear H
        have H := H1
        clear H1
        obtain rfl := Option.some.inj H
        go_wp2
        go_ret
        exact ⟨_, by first | rfl | (simp [errW_none, errW_some] <;> rfl) | (simp [*, errW_none, errW_some] <;> rfl), by first | exact Kd.R_nil _ _ _ _ _ | exact Kd.N_nil _ _ _ _ _ | exact Kd.V_nil _ _ _ _ _ | exact Kd.Q_nil _ _ _ _ _ | exact Kd.S_nil _ _ _ _ _, by repeat (first | (with_reducible first | exact HB.out | apply below_alloc | apply pw_below_drewN | apply below_drew1) | exact HB.out)⟩
      · replace c6 := Bool.eq_false_iff.mpr c6
        subst c6
        have H1 : (if 0 ≤ (wrap64 ((wrap64 ((l1.length : Int) + (l2.length : Int))) - 1)) then (if (wrap64 ((wrap64 ((l1.length : Int) + (l2.length : Int))) - 1) : Int).toNat ≤ 35184372088832 then (poly_Times.l0 kj3 a0 l2 (List.replicate (wrap64 ((wrap64 ((l1.length : Int) + (l2.length : Int))) - 1) : Int).toNat 0) l1 (l1.length : Int) 0) else (none)) else (none)) = some r := by rw [if_neg (show ¬ (false = true) by decide)] at H; exact H
        clear H
        have H := H1
        clear H1
        obtain ⟨ji7, hji7⟩ : ∃ j_ : Int, (wrap64 ((wrap64 ((l1.length : Int) + (l2.length : Int))) - 1)) = j_ := ⟨_, rfl⟩
        replace H : (if 0 ≤ (ji7) then (if (ji7 : Int).toNat ≤ 35184372088832 then (poly_Times.l0 kj3 a0 l2 (List.replicate (ji7 : Int).toNat 0) l1 (l1.length : Int) 0) else (none)) else (none)) = some r := by first | (rw [hji7] at H; exact H) | (simp only [hji7] at H ⊢; exact H)
        have hji7w : (IntKind.i64.wrap ((wrap64 ((l1.length : Int) + (l2.length : Int))) - 1)) = ji7 := (i64_w _).trans hji7
        by_cases c8 : 0 ≤ (ji7)
        · rw [if_pos c8] at H
          have c8b0 := eq_true c8
          have c8b1 : decide (0 ≤ (ji7)) = true := decide_eq_true c8
          clear c8
          by_cases c9 : (ji7 : Int).toNat ≤ 35184372088832
          · rw [if_pos c9] at H
            have c9b0 := eq_true c9
            have c9b1 : decide ((ji7 : Int).toNat ≤ 35184372088832) = true := decide_eq_true c9
            clear c9
            obtain ⟨y542, hy542⟩ : ∃ y_ : List Int, y_ = (List.replicate (ji7 : Int).toNat 0) := ⟨_, rfl⟩
            replace H : (poly_Times.l0 kj3 a0 l2 y542 l1 (l1.length : Int) 0) = some r := by first | (rw [hy542]; with_reducible exact H) | (have H2_ := (Option.bind_some _ _).symm.trans H; rw [hy542]; with_reducible exact H2_) | (have H2_ := (Option.bind_some _ _).symm.trans H; with_reducible exact H2_) | with_reducible exact H | (rw [hy542]; exact H) | exact H
            have Ny542 := Aside0.mk hy542
            clear hy542
            have H' := Aside0.mk H
            clear H
            go_wp2_with (first | ((with_reducible refine gate_dst (N := 26) rfl ?_); (try (refine gate_guard (by rfl) ?_; dsimp only)); refine Kd.R_make (Kd.int .u64) _ 22 rfl (N := 26) rfl 31 _ _ rfl ji7 rfl rfl Try.underlying31 (.int .u64 0) 8 info22 rfl (by decide) (by omega) 0 (ok := fun _ => True) (okp := fun _ => True) rfl (fun _ hk => hk) trivial (of_decide_eq_true (by first | (with_reducible assumption) | assumption)) (Nat.le_trans (Nat.mul_le_mul_right _ (of_decide_eq_true (by first | (with_reducible assumption) | assumption) : ji7.toNat ≤ 35184372088832)) (by omega)) (Below.refl _ _) (Nat.le_refl _) ?_; intro v543 w10 ho11 hb hg_ hnew_; clear hg_ hnew_; (first | rw [← Ny542.out] at ho11 | (simp only [Int.reduceToNat] at ho11; rw [← Ny542.out] at ho11)); have n0_ := Aside0.mk (Kd.R_lower ho11 (below_size (by repeat (first | (with_reducible first | exact HB.out | apply below_alloc | apply pw_below_drewN | apply below_drew1) | exact HB.out)))); have n1_ := Aside0.mk (below_step (by repeat (first | (with_reducible first | exact HB.out | apply below_alloc | apply pw_below_drewN | apply below_drew1) | exact HB.out)) hb); clear HB; have HO544 := n0_; have HB := n1_; clear n0_ n1_; clear hb ho11))
            go_loopg [29] kj3 (fun kq v29 w' => ∃ (x7_2 : List Int) (x29_2 : Int), v29 = .int .i64 x29_2 ∧ Aside0 (poly_Times.l0 kq a0 l2 x7_2 l1 (l1.length : Int) x29_2 = some r) ∧ Aside0 (kq ≤ kj3) ∧ Aside0 (Kd.R (Kd.int .u64) 22 w' w.heap.size (fun _ => True) v543 x7_2) ∧ Aside0 (Below w.heap.size w w'))
            case atStart => exact ⟨(y542), (0), (by first | rfl | (simp; done) | (simp [*]; done)), H', ⟨Nat.le_refl _⟩, ⟨by (with_reducible repeat (first | apply Kd.R_alloc | apply Kd.R_drewN | apply Kd.R_drew)); exact HO544.out⟩, ⟨by repeat (first | (with_reducible first | exact HB.out | apply below_alloc | apply pw_below_drewN | apply below_drew1) | exact HB.out)⟩⟩
            case round =>
              clear H'
              try clear c1
              try clear c2
              try clear p2
              try clear c5
              try clear c5b0
              try clear c5b1
              try clear c5b2
              try clear c6
              try clear p6
              try clear c8
              try clear c8b0
              try clear c8b1
              try clear c9
              try clear c9b0
              try clear c9b1
              try clear p2
              obtain ⟨x7_2, x29_2, rfl, HA, HK2, HO_7, HB⟩ := hrel
              cases gk with
              | zero => exact absurd HA.out (by simp [poly_Times.l0])
              | succ k2 =>
                have H := HA.out
                clear HA
                simp only [poly_Times.l0] at H
                by_cases c12 : x29_2 < (l1.length : Int)
                · rw [if_pos c12] at H
                  have c12b0 : decide (x29_2 < (l1.length : Int)) = true := decide_eq_true c12
                  clear c12
                  by_cases c13 : 0 ≤ x29_2
                  · rw [if_pos c13] at H
                    have c13b0 : decide (0 ≤ x29_2) = true := decide_eq_true c13
                    clear c13
                    by_cases c14 : x29_2 < (l1.length : Int)
                    · rw [if_pos c14] at H
                      have c14b0 : decide (x29_2 < (l1.length : Int)) = true := decide_eq_true c14
                      clear c14
                      have H' := Aside0.mk H
                      clear H
                      have p548 : 0 ≤ (x29_2 : Int) := of_decide_eq_true (by first | (with_reducible assumption) | assumption)
                      have q548 : x29_2 < (l1.length : Int) := of_decide_eq_true (by first | (with_reducible assumption) | assumption)
                      obtain ⟨ad548, e548, hx548_0⟩ := Kd.at_int HR1.out x29_2 p548 q548
                      cases e548
                      replace hx548_0 := (HB.out.cell (World.block_lt_of_cell? w _ hx548_0)).trans hx548_0
                      replace p548 := eq_true p548
                      replace q548 := eq_true q548
                      go_wp2
                      go_loopg [36] k2 (fun kq v36 w' => ∃ (x7_3 : List Int) (x36_3 : Int), v36 = .int .i64 x36_3 ∧ Aside0 (poly_Times.l1 kq a0 l2 x7_3 x29_2 (rd l1 x29_2) l1 (l1.length : Int) x29_2 l2 (l2.length : Int) x36_3 = some r) ∧ Aside0 (kq ≤ k2) ∧ Aside0 (Kd.R (Kd.int .u64) 22 w' w.heap.size (fun _ => True) v543 x7_3) ∧ Aside0 (Below w.heap.size w w'))
                      case atStart => exact ⟨(x7_2), (0), (by first | rfl | (simp; done) | (simp [*]; done)), H', ⟨Nat.le_refl _⟩, ⟨by (with_reducible repeat (first | apply Kd.R_alloc | apply Kd.R_drewN | apply Kd.R_drew)); exact HO_7.out⟩, ⟨by repeat (first | (with_reducible first | exact HB.out | apply below_alloc | apply pw_below_drewN | apply below_drew1) | exact HB.out)⟩⟩
                      case round =>
                        clear H'
                        try clear c1
                        try clear c2
                        try clear p2
                        try clear c5
                        try clear c5b0
                        try clear c5b1
                        try clear c5b2
                        try clear p5
                        try clear q5
                        try clear hx5
                        try clear c6
                        try clear p6
                        try clear c8
                        try clear c8b0
                        try clear c8b1
                        try clear c9
                        try clear c9b0
                        try clear c9b1
                        try clear c12
                        try clear c12b0
                        try clear c13
                        try clear c13b0
                        try clear c14
                        try clear c14b0
                        try clear hx548_0
                        try clear p2
                        try clear p548
                        try clear p6
                        try clear q548
                        obtain ⟨x7_3, x36_3, rfl, HA, HK3, HO_7, HB⟩ := hrel
                        cases gk with
                        | zero => exact absurd HA.out (by simp [poly_Times.l1])
                        | succ k3 =>
                          have H := HA.out
                          clear HA
                          simp only [poly_Times.l1] at H
                          by_cases c15 : x36_3 < (l2.length : Int)
                          · rw [if_pos c15] at H
                            have c15b0 : decide (x36_3 < (l2.length : Int)) = true := decide_eq_true c15
                            clear c15
                            by_cases c16 : 0 ≤ x36_3
                            · rw [if_pos c16] at H
                              have c16b0 : decide (0 ≤ x36_3) = true := decide_eq_true c16
                              clear c16
                              by_cases c17 : x36_3 < (l2.length : Int)
                              · rw [if_pos c17] at H
                                have c17b0 : decide (x36_3 < (l2.length : Int)) = true := decide_eq_true c17
                                clear c17
                                obtain ⟨ji18, hji18⟩ : ∃ j_ : Int, (wrap64 (x29_2 + x36_3)) = j_ := ⟨_, rfl⟩
                                replace H : (if 0 ≤ (ji18) then (if (ji18) < (x7_3.length : Int) then ((field_Times.f a0 (rd l1 x29_2) (rd l2 x36_3)).bind fun t551 => ((field_Plus.f a0 (rd x7_3 (ji18)) t551).bind fun t552 => (poly_Times.l1 k3 a0 l2 (x7_3.set ((ji18) : Int).toNat t552) x29_2 (rd l1 x29_2) l1 (l1.length : Int) x29_2 l2 (l2.length : Int) (wrap64 (x36_3 + 1))))) else (none)) else (none)) = some r := by first | (rw [hji18] at H; exact H) | (simp only [hji18] at H ⊢; exact H)
                                have hji18w : (IntKind.i64.wrap (x29_2 + x36_3)) = ji18 := (i64_w _).trans hji18
                                by_cases c19 : 0 ≤ (ji18)
                                · rw [if_pos c19] at H
                                  have c19b0 : decide (0 ≤ (ji18)) = true := decide_eq_true c19
                                  clear c19
                                  by_cases c20 : (ji18) < (x7_3.length : Int)
                                  · rw [if_pos c20] at H
                                    have c20b0 : decide ((ji18) < (x7_3.length : Int)) = true := decide_eq_true c20
                                    clear c20
                                    replace H := Option.bind_eq_some_iff.mp H
                                    obtain ⟨t551, A210, H⟩ := H
                                    replace H : ((field_Plus.f a0 (rd x7_3 (ji18)) t551).bind fun t552 => (poly_Times.l1 k3 a0 l2 (x7_3.set ((ji18) : Int).toNat t552) x29_2 (rd l1 x29_2) l1 (l1.length : Int) x29_2 l2 (l2.length : Int) (wrap64 (x36_3 + 1)))) = some r := H
                                    have A21 := Aside0.mk A210
                                    clear A210
                                    replace H := Option.bind_eq_some_iff.mp H
                                    obtain ⟨t552, A220, H⟩ := H
                                    replace H : (poly_Times.l1 k3 a0 l2 (x7_3.set ((ji18) : Int).toNat t552) x29_2 (rd l1 x29_2) l1 (l1.length : Int) x29_2 l2 (l2.length : Int) (wrap64 (x36_3 + 1))) = some r := H
                                    have A22 := Aside0.mk A220
                                    clear A220
                                    obtain ⟨y553, hy553⟩ : ∃ y_ : List Int, y_ = (x7_3.set ((ji18) : Int).toNat t552) := ⟨_, rfl⟩
                                    replace H : (poly_Times.l1 k3 a0 l2 y553 x29_2 (rd l1 x29_2) l1 (l1.length : Int) x29_2 l2 (l2.length : Int) (wrap64 (x36_3 + 1))) = some r := by first | (rw [hy553]; with_reducible exact H) | (have H2_ := (Option.bind_some _ _).symm.trans H; rw [hy553]; with_reducible exact H2_) | (have H2_ := (Option.bind_some _ _).symm.trans H; with_reducible exact H2_) | with_reducible exact H | (rw [hy553]; exact H) | exact H
                                    have Ny553 := Aside0.mk hy553
                                    clear hy553
                                    have H' := Aside0.mk H
                                    clear H
                                    have p549 : 0 ≤ (x36_3 : Int) := of_decide_eq_true (by first | (with_reducible assumption) | assumption)
                                    have q549 : x36_3 < (l2.length : Int) := of_decide_eq_true (by first | (with_reducible assumption) | assumption)
                                    obtain ⟨ad549, e549, hx549_0⟩ := Kd.at_int HR2.out x36_3 p549 q549
                                    cases e549
                                    replace hx549_0 := (HB.out.cell (World.block_lt_of_cell? w _ hx549_0)).trans hx549_0
                                    replace p549 := eq_true p549
                                    replace q549 := eq_true q549
                                    try go_wp2
                                    have n0_ := Aside0.mk (Kd.R_drew HO_7.out)
                                    have n1_ := Aside0.mk (below_drew1 HB.out)
                                    clear HO_7
                                    clear HB
                                    have HO_7 := n0_
                                    have HB := n1_
                                    clear n0_ n1_
                                    obtain ⟨Ao25, co25, eo25⟩ := Kd.R_slice HO_7.out
                                    (first | subst eo25 | (injection eo25 with f1_ f2_ f3_; have f4_ := f1_.symm; have f5_ := f3_.symm; clear f1_ f2_ f3_; subst f4_; subst f5_))
                                    have p550 : 0 ≤ ((ji18) : Int) := of_decide_eq_true (by first | (with_reducible assumption) | assumption)
                                    have q550 : (ji18) < (x7_3.length : Int) := of_decide_eq_true (by first | (with_reducible assumption) | assumption)
                                    obtain ⟨ad550, e550, hx550_0⟩ := Kd.at_int (Kd.R_reads' HO_7.out).2.2 (ji18) p550 q550
                                    cases e550
                                    replace p550 := eq_true p550
                                    replace q550 := eq_true q550
                                    refine start_ (n := 18) (S := fun w' => w'.cell? (ad550.add ((ji18)).toNat) = some (.int .u64 (rd x7_3 (ji18)))) (ds := [17]) #[false, false, false, false, false, false, false, false, false, false, false, false, false, false, false, false, false, false] (by kernel_rfl) rfl rfl (hx550_0) (fun hHeld => ?_); refine with_tabW poly_Times.tab10 poly_Times.bits10 (fun HT_ HW_ => ?_)
                                    generalize wr.drew = w24 at HO_7 HB hx550_0 hHeld ⊢
                                    refine pure_ (i := 0) (N := some 41) (v := ?_) (a' := ?_) #[true, false, false, false, false, false, false, false, false, false, false, false, false, false, false, false, false, false] rfl rfl (any_of HT_.out (by kernel_rfl)) (fun _ _ _ h => h) (Or.inl ⟨by rfl, ?_⟩) ?_ ?_
                                    rotate_left
                                    · intro w'
                                      go_simp
                                      with_reducible rfl
                                    rotate_left
                                    · simp only [Act.put, List.setIfInBounds_toArray, List.set_cons_zero, List.set_cons_succ, i64_w, i32_w]
                                      rfl
                                    refine pure_ (i := 1) (N := some 42) (v := ?_) (a' := ?_) #[true, true, false, false, false, false, false, false, false, false, false, false, false, false, false, false, false, false] rfl rfl (any_of HT_.out (by kernel_rfl)) (fun _ _ _ h => h) (Or.inl ⟨by rfl, ?_⟩) ?_ ?_
                                    rotate_left
                                    · intro w'
                                      go_simp
                                      with_reducible rfl
                                    rotate_left
                                    · simp only [Act.put, List.setIfInBounds_toArray, List.set_cons_zero, List.set_cons_succ, i64_w, i32_w]
                                      rfl
                                    refine pure_ (i := 2) (N := some 43) (v := ?_) (a' := ?_) #[true, true, true, false, false, false, false, false, false, false, false, false, false, false, false, false, false, false] rfl rfl (any_of HT_.out (by kernel_rfl)) (fun _ _ _ h => h) (Or.inl ⟨by rfl, ?_⟩) ?_ ?_
                                    rotate_left
                                    · intro w'
                                      go_simp
                                      with_reducible rfl
                                    rotate_left
                                    · simp only [Act.put, List.setIfInBounds_toArray, List.set_cons_zero, List.set_cons_succ, i64_w, i32_w]
                                      rfl
                                    refine pure_ (i := 3) (N := some 44) (v := ?_) (a' := ?_) #[true, true, true, true, false, false, false, false, false, false, false, false, false, false, false, false, false, false] rfl rfl (any_of HT_.out (by kernel_rfl)) (fun _ _ _ h => h) (Or.inl ⟨by rfl, ?_⟩) ?_ ?_
                                    rotate_left
                                    · intro w'
                                      go_simp
                                      with_reducible rfl
                                    rotate_left
                                    · simp only [Act.put, List.setIfInBounds_toArray, List.set_cons_zero, List.set_cons_succ, i64_w, i32_w]
                                      rfl
                                    refine pure_ (i := 4) (N := some 45) (v := ?_) (a' := ?_) #[true, true, true, true, true, false, false, false, false, false, false, false, false, false, false, false, false, false] rfl rfl (any_of HT_.out (by kernel_rfl)) (fun _ _ _ h => h) (Or.inl ⟨by rfl, ?_⟩) ?_ ?_
                                    rotate_left
                                    · intro w'
                                      go_simp
                                      with_reducible rfl
                                    rotate_left
                                    · simp only [Act.put, List.setIfInBounds_toArray, List.set_cons_zero, List.set_cons_succ, i64_w, i32_w]
                                      rfl
                                    refine pure_ (i := 5) (N := some 46) (v := ?_) (a' := ?_) #[true, true, true, true, true, true, false, false, false, false, false, false, false, false, false, false, false, false] rfl rfl (any_of HT_.out (by kernel_rfl)) (fun _ _ _ h => h) (Or.inl ⟨by rfl, ?_⟩) ?_ ?_
                                    rotate_left
                                    · intro w'
                                      go_simp
                                      with_reducible rfl
                                    rotate_left
                                    · simp only [Act.put, List.setIfInBounds_toArray, List.set_cons_zero, List.set_cons_succ, i64_w, i32_w]
                                      rfl
                                    refine pure_ (i := 6) (N := some 47) (v := ?_) (a' := ?_) #[true, true, true, true, true, true, true, false, false, false, false, false, false, false, false, false, false, false] rfl rfl (any_of HT_.out (by kernel_rfl)) (fun _ _ _ h => h) (Or.inl ⟨by rfl, ?_⟩) ?_ ?_
                                    rotate_left
                                    · intro w'
                                      go_simp
                                      with_reducible rfl
                                    rotate_left
                                    · simp only [Act.put, List.setIfInBounds_toArray, List.set_cons_zero, List.set_cons_succ, i64_w, i32_w]
                                      rfl
                                    refine pure_ (i := 7) (N := some 48) (v := ?_) (a' := ?_) #[true, true, true, true, true, true, true, true, false, false, false, false, false, false, false, false, false, false] rfl rfl (any_of HT_.out (by kernel_rfl)) (fun _ _ _ h => h) (Or.inl ⟨by rfl, ?_⟩) ?_ ?_
                                    rotate_left
                                    · intro w'
                                      go_simp
                                      with_reducible rfl
                                    rotate_left
                                    · simp only [Act.put, List.setIfInBounds_toArray, List.set_cons_zero, List.set_cons_succ, i64_w, i32_w]
                                      rfl
                                    refine pure_ (i := 8) (N := some 49) (v := ?_) (a' := ?_) #[true, true, true, true, true, true, true, true, true, false, false, false, false, false, false, false, false, false] rfl rfl (any_of HT_.out (by kernel_rfl)) (fun _ _ _ h => h) (Or.inl ⟨by rfl, ?_⟩) ?_ ?_
                                    rotate_left
                                    · intro w'
                                      go_simp
                                      with_reducible rfl
                                    rotate_left
                                    · simp only [Act.put, List.setIfInBounds_toArray, List.set_cons_zero, List.set_cons_succ, i64_w, i32_w]
                                      rfl
                                    refine pure_ (i := 9) (N := some 50) (v := ?_) (a' := ?_) #[true, true, true, true, true, true, true, true, true, true, false, false, false, false, false, false, false, false] rfl rfl (any_of HT_.out (by kernel_rfl)) (fun _ _ _ h => h) (Or.inl ⟨by rfl, ?_⟩) ?_ ?_
                                    rotate_left
                                    · intro w'
                                      go_simp
                                      with_reducible rfl
                                    rotate_left
                                    · simp only [Act.put, List.setIfInBounds_toArray, List.set_cons_zero, List.set_cons_succ, i64_w, i32_w]
                                      rfl
                                    refine pure_ (i := 11) (N := some 52) (v := ?_) (a' := ?_) #[true, true, true, true, true, true, true, true, true, true, false, true, false, false, false, false, false, false] rfl rfl (any_of HT_.out (by kernel_rfl)) (fun _ _ _ h => h) (Or.inl ⟨by rfl, ?_⟩) ?_ ?_
                                    rotate_left
                                    · intro w'
                                      go_simp
                                      with_reducible rfl
                                    rotate_left
                                    · simp only [Act.put, List.setIfInBounds_toArray, List.set_cons_zero, List.set_cons_succ, i64_w, i32_w]
                                      rfl
                                    refine pure_ (i := 12) (N := some 53) (v := ?_) (a' := ?_) #[true, true, true, true, true, true, true, true, true, true, false, true, true, false, false, false, false, false] rfl rfl (any_of HT_.out (by kernel_rfl)) (fun _ _ _ h => h) (Or.inl ⟨by rfl, ?_⟩) ?_ ?_
                                    rotate_left
                                    · intro w'
                                      go_simp
                                      with_reducible rfl
                                    rotate_left
                                    · simp only [Act.put, List.setIfInBounds_toArray, List.set_cons_zero, List.set_cons_succ, i64_w, i32_w]
                                      rfl
                                    refine pure_ (i := 13) (N := some 54) (v := ?_) (a' := ?_) #[true, true, true, true, true, true, true, true, true, true, false, true, true, true, false, false, false, false] rfl rfl (any_of HT_.out (by kernel_rfl)) (fun _ _ _ h => h) (Or.inl ⟨by rfl, ?_⟩) ?_ ?_
                                    rotate_left
                                    · intro w'
                                      go_simp
                                      with_reducible rfl
                                    rotate_left
                                    · simp only [Act.put, List.setIfInBounds_toArray, List.set_cons_zero, List.set_cons_succ, i64_w, i32_w]
                                      rfl
                                    refine take_ (i := 10) (N := some 51) (v := ?_) (a' := ?_) #[true, true, true, true, true, true, true, true, true, true, true, true, true, true, false, false, false, false] rfl rfl (take_ofW HT_.out HW_.out (by kernel_rfl)) (fun _ _ _ h => h) (Or.inl ⟨by rfl, ?_⟩) hHeld ?_ ?_
                                    rotate_left
                                    · intro w' s0
                                      go_simp
                                      with_reducible rfl
                                    rotate_left
                                    · simp only [Act.put, List.setIfInBounds_toArray, List.set_cons_zero, List.set_cons_succ, i64_w, i32_w]
                                      rfl
                                    refine one_ (i := 14) (N := some 55) #[true, true, true, true, true, true, true, true, true, true, true, true, true, true, true, false, false, false] rfl rfl (one_of HT_.out (by kernel_rfl)) (by decide) (fun K hK => ?_)
                                    refine goes_ Try.func148 (by kernel_rfl) rfl #[.int .u64 a0, .int .u64 (rd l1 x29_2), .int .u64 (rd l2 x36_3)] (by rfl) rfl rfl (by (try simp only [List.map_toArray, List.map_cons, List.map_nil]); first | done | rfl | (simp only [List.length_drop, List.length_take]; rfl)) ?_
                                    with_reducible refine (field_Times.calls a0 (rd l1 x29_2) (rd l2 x36_3) t551 _ A21.out).mono ?_
                                    rintro e w' ⟨rfl, ⟨nd, rfl⟩⟩
                                    refine ⟨_, rfl, ?_⟩
                                    refine hK.out _ _ (hHeld) (fun hHeld => ?_)
                                    clear hK K
                                    refine norm_ (a' := ?_) ?_ ?_
                                    rotate_left
                                    · show Act.put _ (some 55) _ = _
                                      simp only [Act.put, List.setIfInBounds_toArray, List.set_cons_zero, List.set_cons_succ, i64_w, i32_w]
                                      rfl
                                    refine one_ (i := 15) (N := some 56) #[true, true, true, true, true, true, true, true, true, true, true, true, true, true, true, true, false, false] rfl rfl (one_of HT_.out (by kernel_rfl)) (by decide) (fun K hK => ?_)
                                    refine goes_ Try.func147 (by kernel_rfl) rfl #[.int .u64 a0, .int .u64 (rd x7_3 (ji18)), .int .u64 t551] (by rfl) rfl rfl (by (try simp only [List.map_toArray, List.map_cons, List.map_nil]); first | done | (simp only [hji18]; rfl) | rfl | (simp only [List.length_drop, List.length_take]; rfl)) ?_
                                    with_reducible refine (field_Plus.calls a0 (rd x7_3 (ji18)) t551 t552 _ A22.out).mono ?_
                                    rintro e w' ⟨rfl, ⟨nd, rfl⟩⟩
                                    refine ⟨_, rfl, ?_⟩
                                    have p23 : 0 ≤ ((ji18) : Int) := of_decide_eq_true (by first | (with_reducible assumption) | assumption)
                                    have q23 : ((ji18) : Int) < ((x7_3.length : Int) : Int) := of_decide_eq_true (by first | (with_reducible assumption) | assumption)
                                    obtain ⟨go23, co23, eo23, gb23, gl23, cl23, HG23⟩ := Kd.R_form HO_7.out (by omega)
                                    (first | cases eo23 | (injection eo23 with ea_ en_ ec_; (first | subst ea_ | (injection ea_ with ea_; subst ea_)); subst ec_; clear en_))
                                    have GB23 := Aside0.mk gb23
                                    have GG23 := Aside0.mk HG23
                                    clear gb23 gl23 HG23
                                    (first | simp only [add_plain] at hx550_0 | skip)
                                    obtain ⟨hx23_0, hf23_0⟩ := Kd.R_celln 0 HO_7.out ((ji18) : Int) p23 q23
                                    replace p23 := eq_true p23
                                    replace q23 := eq_true q23
                                    have HP26 := Kd.R_putn HO_7.out ((ji18) : Int) t552
                                    rw [← Ny553.out] at HP26
                                    have HQ26 := Aside0.mk HP26
                                    clear HP26
                                    refine hK.out _ _ (hHeld) (fun hHeld => ?_)
                                    clear hK K
                                    refine norm_ (a' := ?_) ?_ ?_
                                    rotate_left
                                    · show Act.put _ (some 56) _ = _
                                      simp only [Act.put, List.setIfInBounds_toArray, List.set_cons_zero, List.set_cons_succ, i64_w, i32_w]
                                      rfl
                                    refine pure_ (i := 16) (N := some 57) (v := ?_) (a' := ?_) #[true, true, true, true, true, true, true, true, true, true, true, true, true, true, true, true, true, false] rfl rfl (any_of HT_.out (by kernel_rfl)) (fun _ _ _ h => h) (Or.inl ⟨by rfl, ?_⟩) ?_ ?_
                                    rotate_left
                                    · intro w'
                                      go_simp
                                      with_reducible rfl
                                    rotate_left
                                    · simp only [Act.put, List.setIfInBounds_toArray, List.set_cons_zero, List.set_cons_succ, i64_w, i32_w]
                                      rfl
                                    refine last_ (i := 17) (N := none) #[true, true, true, true, true, true, true, true, true, true, true, true, true, true, true, true, true, true] rfl rfl (one_of HT_.out (by kernel_rfl)) (by decide) (fun K hK => ?_)
                                    refine skip_ (w1 := ?_) (by rfl) rfl ?_ ?_
                                    rotate_left
                                    · go_simp
                                      rfl
                                    refine hK.out _ _ ?_
                                    clear hK K
                                    refine done_ (done_of HT_.out (by kernel_rfl)) ?_
                                    try go_wp2
                                    go_roundg k3
                                    case measure => have := HJ3.out; have := HK2.out; have := HK3.out; omega
                                    case rel => exact ⟨(y553), (wrap64 (x36_3 + 1)), (by first | rfl | (simp; done) | (simp [*]; done)), H', ⟨by have := HJ3.out; have := HK2.out; have := HK3.out; omega⟩, ⟨by (with_reducible repeat (first | apply Kd.R_alloc | apply Kd.R_drewN | apply Kd.R_drew)); exact HQ26.out⟩, ⟨by repeat (first | (with_reducible first | exact HB.out | apply below_alloc | apply pw_below_drewN | apply below_drew1 | refine below_set ?_ GB23.out) | exact HB.out)⟩⟩
                                  · rw [if_neg c20] at H
                                    exact absurd H (by simp)
                                · rw [if_neg c19] at H
                                  exact absurd H (by simp)
                              · rw [if_neg c17] at H
                                exact absurd H (by simp)
                            · rw [if_neg c16] at H
                              exact absurd H (by simp)
                          · rw [if_neg c15] at H
                            have c15b0 : decide (x36_3 < (l2.length : Int)) = false := decide_eq_false c15
                            clear c15
                            have H' := Aside0.mk H
                            clear H
                            go_wp2
                            go_roundg k3
                            case measure => have := HJ3.out; have := HK2.out; have := HK3.out; omega
                            case rel => exact ⟨(x7_3), (wrap64 (x29_2 + 1)), (by first | rfl | (simp; done) | (simp [*]; done)), H', ⟨by have := HJ3.out; have := HK2.out; have := HK3.out; omega⟩, ⟨by (with_reducible repeat (first | apply Kd.R_alloc | apply Kd.R_drewN | apply Kd.R_drew)); exact HO_7.out⟩, ⟨by repeat (first | (with_reducible first | exact HB.out | apply below_alloc | apply pw_below_drewN | apply below_drew1) | exact HB.out)⟩⟩
                    · rw [if_neg c14] at H
                      exact absurd H (by simp)
                  · rw [if_neg c13] at H
                    exact absurd H (by simp)
                · rw [if_neg c12] at H
                  have c12b0 : decide (x29_2 < (l1.length : Int)) = false := decide_eq_false c12
                  clear c12
                  replace H := Option.bind_eq_some_iff.mp H
                  obtain ⟨t545, A270, H⟩ := H
                  replace H : (some t545) = some r := H
                  have A27 := Aside0.mk A270
                  clear A270
                  obtain rfl := Option.some.inj H
                  obtain ⟨Ao28, co28, eo28⟩ := Kd.R_slice HO_7.out
                  subst eo28
                  go_wp2_with (first | ((with_reducible refine gate_callee (f := 127) rfl ?_); refine goesL_ (some 61) rfl rfl Try.func127 (by kernel_rfl) rfl #[.slice Ao28 x7_2.length co28] rfl (by (try simp only [List.map_toArray, List.map_cons, List.map_nil]); first | done | rfl | (simp only [List.length_drop, List.length_take]; rfl)) ?_; (with_reducible refine (poly_Short.calls k2 _ _ x7_2 t545 _ ?side1 ?side2 A27.out).mono ?_); (case side1 => repeat (first | exact (Kd.R_reads' HO_7.out).2.2 | (with_reducible refine Kd.C_alloc ?_ _) | (with_reducible refine Kd.C_drewN ?_ _) | (with_reducible refine Kd.C_drew ?_))); (case side2 => exact (Kd.R_reads' HO_7.out).2.1); rintro e w29 ⟨v546, rfl, ho0, hb⟩; refine ⟨_, rfl, ?_⟩; have n0_ := Aside0.mk (Kd.R_elder' (by (with_reducible repeat (first | apply Kd.R_alloc | apply Kd.R_drewN | apply Kd.R_drew)); exact HO_7.out) (Kd.R_base ho0) hb); have n1_ := Aside0.mk (Kd.R_lower (Kd.R_new' ho0 (Kd.R_lt (by (with_reducible repeat (first | apply Kd.R_alloc | apply Kd.R_drewN | apply Kd.R_drew)); exact HO_7.out))) (below_size (by repeat (first | (with_reducible first | exact HB.out | apply below_alloc | apply pw_below_drewN | apply below_drew1) | exact HB.out)))); have n2_ := Aside0.mk (below_step (by repeat (first | (with_reducible first | exact HB.out | apply below_alloc | apply pw_below_drewN | apply below_drew1) | exact HB.out)) hb); clear HO_7; clear HB; have HO_7 := n0_; have HO547 := n1_; have HB := n2_; clear n0_ n1_ n2_; (try clear hb); (try clear hb2); (try clear hk); (try clear hi); (try clear ho0)))
                  go_ret
                  exact ⟨_, by first | rfl | (simp [errW_none, errW_some] <;> rfl) | (simp only [← hji7]; first | rfl | (simp [errW_none, errW_some] <;> rfl)) | (simp [*, errW_none, errW_some] <;> rfl), by (with_reducible repeat (first | apply Kd.R_alloc | apply Kd.R_drewN | apply Kd.R_drew)); exact Kd.R_mono HO547.out (fun _ hk => trivial), by repeat (first | (with_reducible first | exact HB.out | apply below_alloc | apply pw_below_drewN | apply below_drew1) | exact HB.out)⟩
          · rw [if_neg c9] at H
            exact absurd H (by simp)
        · rw [if_neg c8] at H
          exact absurd H (by simp)

/-! ### field_pow: function 171 -/
def field_pow.l0 : Nat → Int → Int → Int → Int → Option (Int)
  | 0, _, _, _, _ => none
  | k + 1, x0, x1, x2, x7 => if x2 > 0 then (if (Go.bits .and .u64 x2 1) = 1 then ((field_mul.f x0 x7 x1).bind fun t554 => ((field_mul.f x0 x1 x1).bind fun t555 => (field_pow.l0 k x0 t555 (x2 / 2) t554))) else ((field_mul.f x0 x1 x1).bind fun t556 => (field_pow.l0 k x0 t556 (x2 / 2) x7))) else (some x7)
def field_pow.f (k : Nat) (a0 : Int) (a1 : Int) (a2 : Int) : Option (Int) := if a0 = 0 then (none) else (field_pow.l0 k a0 a1 a2 ((1 : Int) % a0))
theorem field_pow.mono_l : ∀ k, (∀ y0 y1 y2 y3, LeO (field_pow.l0 k y0 y1 y2 y3) (field_pow.l0 (k + 1) y0 y1 y2 y3))
  | 0 => fun _ _ _ _ r h => by simp [field_pow.l0] at h
  | k + 1 => by
    have ih0 := field_pow.mono_l k
    · intro y0 y1 y2 y3
      unfold field_pow.l0
      repeat' first
      | (with_reducible exact ih0 _ _ _ _)
      | (with_reducible exact LeO.refl _)
      | (with_reducible exact LeO.none _)
      | (with_reducible refine LeO.ite ?_ ?_)
      | (with_reducible refine LeO.bind ?_ (fun _ => ?_))
      | exact ih0 _ _ _ _
      | exact LeO.none _
      | refine LeO.ite ?_ ?_
      | refine LeO.bind ?_ (fun _ => ?_)
theorem field_pow.mono : ∀ a0 a1 a2 k, LeO (field_pow.f k a0 a1 a2) (field_pow.f (k + 1) a0 a1 a2) := by
  intro a0 a1 a2 k
  have ih0 := field_pow.mono_l k
  unfold field_pow.f
  repeat' first
      | (with_reducible exact ih0 _ _ _ _)
      | (with_reducible exact LeO.refl _)
      | (with_reducible exact LeO.none _)
      | (with_reducible refine LeO.ite ?_ ?_)
      | (with_reducible refine LeO.bind ?_ (fun _ => ?_))
      | exact ih0 _ _ _ _
      | exact LeO.none _
      | refine LeO.ite ?_ ?_
      | refine LeO.bind ?_ (fun _ => ?_)
set_option maxHeartbeats 8000000 in
set_option maxRecDepth 100000 in
theorem field_pow.calls (k : Nat) (a0 : Int) (a1 : Int) (a2 : Int) (r : Int) (w : World) (h : field_pow.f k a0 a1 a2 = some r) :
    Calls Try.prog 171 #[.int .u64 a0, .int .u64 a1, .int .u64 a2] w fun e w' => e = .returned (.int .u64 r) ∧ Drawn0 w w' := by
  have H : (if a0 = 0 then (none) else (field_pow.l0 k a0 a1 a2 ((1 : Int) % a0))) = some r := h
  clear h
  by_cases c4 : a0 = 0
  · rw [if_pos c4] at H
    exact absurd H (by simp)
  · rw [if_neg c4] at H
    have c4b0 : (a0 == 0) = false := beq_eq_false_iff_ne.mpr c4
    have c4b1 : (a0 != 0) = true := bne_iff_ne.mpr c4
    have H' := Aside0.mk H
    clear H
    go_enter Try.func171, Try.ntmps171
    go_wp2
    go_loopg [1, 2, 7] k (fun kq v1 v2 v7 w' => ∃ (x1_1 : Int) (x2_1 : Int) (x7_1 : Int), v1 = .int .u64 x1_1 ∧ v2 = .int .u64 x2_1 ∧ v7 = .int .u64 x7_1 ∧ Aside0 (field_pow.l0 kq a0 x1_1 x2_1 x7_1 = some r) ∧ Aside0 (kq ≤ k) ∧ Drawn0 w w')
    case atStart => exact ⟨(a1), (a2), ((1 : Int) % a0), (by first | rfl | (simp; done) | (simp [*]; done)), (by first | rfl | (simp; done) | (simp [*]; done)), (by first | rfl | (simp; done) | (simp [*]; done)), H', ⟨Nat.le_refl _⟩, by repeat (first | exact Drawn0.refl _ | apply Drawn0.step)⟩
    case round =>
      clear H'
      try clear c1
      try clear p2
      try clear c4
      try clear c4b0
      try clear c4b1
      obtain ⟨x1_1, x2_1, x7_1, rfl, rfl, rfl, HA, HK1, ⟨m1, rfl⟩⟩ := hrel
      cases gk with
      | zero => exact absurd HA.out (by simp [field_pow.l0])
      | succ k1 =>
        have H := HA.out
        clear HA
        simp only [field_pow.l0] at H
        by_cases c5 : x2_1 > 0
        · rw [if_pos c5] at H
          have c5b0 : decide (0 < x2_1) = true := decide_eq_true c5
          clear c5
          by_cases c6 : (Go.bits .and .u64 x2_1 1) = 1
          · rw [if_pos c6] at H
            have c6b0 : ((Go.bits .and .u64 x2_1 1) == 1) = true := beq_iff_eq.mpr c6
            have c6b1 : ((Go.bits .and .u64 x2_1 1) != 1) = false := bne_eq_false_iff_eq.mpr c6
            clear c6
            replace H := Option.bind_eq_some_iff.mp H
            obtain ⟨t554, A70, H⟩ := H
            replace H : ((field_mul.f a0 x1_1 x1_1).bind fun t555 => (field_pow.l0 k1 a0 t555 (x2_1 / 2) t554)) = some r := H
            have A7 := Aside0.mk A70
            clear A70
            replace H := Option.bind_eq_some_iff.mp H
            obtain ⟨t555, A80, H⟩ := H
            replace H : (field_pow.l0 k1 a0 t555 (x2_1 / 2) t554) = some r := H
            have A8 := Aside0.mk A80
            clear A80
            have H' := Aside0.mk H
            clear H
            go_wp2_with (first | ((with_reducible refine gate_callee (f := 165) rfl ?_); refine goesL_ (some 20) rfl rfl Try.func165 (by kernel_rfl) rfl #[.int .u64 a0, .int .u64 x7_1, .int .u64 x1_1] rfl (by (try simp only [List.map_toArray, List.map_cons, List.map_nil]); first | done | rfl | (simp only [List.length_drop, List.length_take]; rfl)) ?_; (with_reducible refine (field_mul.calls a0 x7_1 x1_1 t554 _ A7.out).mono ?_); rintro e w' ⟨rfl, ⟨nd, rfl⟩⟩; refine ⟨_, rfl, ?_⟩) | ((with_reducible refine gate_callee (f := 165) rfl ?_); refine goesL_ (some 24) rfl rfl Try.func165 (by kernel_rfl) rfl #[.int .u64 a0, .int .u64 x1_1, .int .u64 x1_1] rfl (by (try simp only [List.map_toArray, List.map_cons, List.map_nil]); first | done | rfl | (simp only [List.length_drop, List.length_take]; rfl)) ?_; (with_reducible refine (field_mul.calls a0 x1_1 x1_1 t555 _ A8.out).mono ?_); rintro e w' ⟨rfl, ⟨nd, rfl⟩⟩; refine ⟨_, rfl, ?_⟩))
            go_roundg k1
            case measure => have := HK1.out; omega
            case rel => exact ⟨(t555), (x2_1 / 2), (t554), (by first | rfl | (simp; done) | (simp [*]; done)), (by first | rfl | (simp; done) | (simp [*]; done)), (by first | rfl | (simp; done) | (simp [*]; done)), H', ⟨by have := HK1.out; omega⟩, by repeat (first | exact Drawn0.refl _ | apply Drawn0.step)⟩
          · rw [if_neg c6] at H
            have c6b0 : ((Go.bits .and .u64 x2_1 1) == 1) = false := beq_eq_false_iff_ne.mpr c6
            have c6b1 : ((Go.bits .and .u64 x2_1 1) != 1) = true := bne_iff_ne.mpr c6
            replace H := Option.bind_eq_some_iff.mp H
            obtain ⟨t556, A90, H⟩ := H
            replace H : (field_pow.l0 k1 a0 t556 (x2_1 / 2) x7_1) = some r := H
            have A9 := Aside0.mk A90
            clear A90
            have H' := Aside0.mk H
            clear H
            go_wp2_with (first | ((with_reducible refine gate_callee (f := 165) rfl ?_); refine goesL_ (some 24) rfl rfl Try.func165 (by kernel_rfl) rfl #[.int .u64 a0, .int .u64 x1_1, .int .u64 x1_1] rfl (by (try simp only [List.map_toArray, List.map_cons, List.map_nil]); first | done | rfl | (simp only [List.length_drop, List.length_take]; rfl)) ?_; (with_reducible refine (field_mul.calls a0 x1_1 x1_1 t556 _ A9.out).mono ?_); rintro e w' ⟨rfl, ⟨nd, rfl⟩⟩; refine ⟨_, rfl, ?_⟩))
            go_roundg k1
            case measure => have := HK1.out; omega
            case rel => exact ⟨(t556), (x2_1 / 2), (x7_1), (by first | rfl | (simp; done) | (simp [*]; done)), (by first | rfl | (simp; done) | (simp [*]; done)), (by first | rfl | (simp; done) | (simp [*]; done)), H', ⟨by have := HK1.out; omega⟩, by repeat (first | exact Drawn0.refl _ | apply Drawn0.step)⟩
        · rw [if_neg c5] at H
          have c5b0 : decide (0 < x2_1) = false := decide_eq_false c5
          clear c5
          obtain rfl := Option.some.inj H
          go_wp2
          go_ret
          exact ⟨by first | rfl | (simp; done) | (simp [*]; done), by repeat (first | exact Drawn0.refl _ | apply Drawn0.step)⟩

/-! ### field_Over: function 159 -/
def field_Over.f (k : Nat) (a0 : Int) (a1 : Int) : Option (Int) := (field_pow.f k a0 a1 (IntKind.u64.wrap (a0 - 2))).bind fun t557 => (some t557)
theorem field_Over.mono : ∀ a0 a1 k, LeO (field_Over.f k a0 a1) (field_Over.f (k + 1) a0 a1) := by
  intro a0 a1 k
  unfold field_Over.f
  repeat' first
      | (with_reducible exact field_pow.mono _ _ _ _)
      | (with_reducible exact LeO.refl _)
      | (with_reducible exact LeO.none _)
      | (with_reducible refine LeO.ite ?_ ?_)
      | (with_reducible refine LeO.bind ?_ (fun _ => ?_))
      | exact field_pow.mono _ _ _ _
      | exact LeO.none _
      | refine LeO.ite ?_ ?_
      | refine LeO.bind ?_ (fun _ => ?_)
set_option maxHeartbeats 8000000 in
set_option maxRecDepth 100000 in
theorem field_Over.calls (k : Nat) (a0 : Int) (a1 : Int) (r : Int) (w : World) (h : field_Over.f k a0 a1 = some r) :
    Calls Try.prog 159 #[.int .u64 a0, .int .u64 a1] w fun e w' => e = .returned (.int .u64 r) ∧ Drawn0 w w' := by
  have H : ((field_pow.f k a0 a1 (IntKind.u64.wrap (a0 - 2))).bind fun t557 => (some t557)) = some r := h
  clear h
  replace H := Option.bind_eq_some_iff.mp H
  obtain ⟨t557, A30, H⟩ := H
  replace H : (some t557) = some r := H
  have A3 := Aside0.mk A30
  clear A30
  obtain rfl := Option.some.inj H
  go_enter Try.func159, Try.ntmps159
  go_wp2_with (first | ((with_reducible refine gate_callee (f := 171) rfl ?_); refine goesL_ (some 9) rfl rfl Try.func171 (by kernel_rfl) rfl #[.int .u64 a0, .int .u64 a1, .int .u64 (IntKind.u64.wrap (a0 - 2))] rfl (by (try simp only [List.map_toArray, List.map_cons, List.map_nil]); first | done | rfl | (simp only [List.length_drop, List.length_take]; rfl)) ?_; (with_reducible refine (field_pow.calls k a0 a1 (IntKind.u64.wrap (a0 - 2)) t557 _ A3.out).mono ?_); rintro e w' ⟨rfl, ⟨nd, rfl⟩⟩; refine ⟨_, rfl, ?_⟩))
  go_ret
  exact ⟨by first | rfl | (simp; done) | (simp [*]; done), by repeat (first | exact Drawn0.refl _ | apply Drawn0.step)⟩

end Go.Proofs.Ytjjnfobeeflnhaa.J

/- The program's words over the residues modulo a number: numbers, rows of coefficients, sums, products, values. -/
namespace Go.Proofs.Ytjjnfobeeflnhaa.L
open Go.RowKit Go.Proofs.YtjjnfobeeflnhaaW.PrintWords Go.Proofs.Ytjjnfobeeflnhaa.J
set_option linter.unusedVariables false
set_option linter.unusedSimpArgs false

section
variable {q : Nat} [NeZero q]
/-- The number that a residue is. -/
def nI (a : Fin q) : Int := (a.val : Int)
/-- A row of residues as numbers. -/
def oI (f : List (Fin q)) : List Int := f.map nI

theorem q_pos : 0 < q := Nat.pos_of_ne_zero (NeZero.ne q)
end
section
variable {q : Nat}
theorem nI_range (a : Fin q) : 0 ≤ nI a ∧ nI a < (q : Int) := by
  have := a.isLt
  unfold nI; omega
theorem nI_inj {a b : Fin q} (h : nI a = nI b) : a = b := Fin.ext (by unfold nI at h; omega)
end
section
variable {q : Nat} [NeZero q]
theorem nI_zero : nI (0 : Fin q) = 0 := by simp [nI]
theorem nI_eq_zero {a : Fin q} : nI a = 0 ↔ a = 0 := ⟨fun h => nI_inj (h.trans nI_zero.symm), fun h => by rw [h, nI_zero]⟩
theorem nI_one (h : 1 < q) : nI (1 : Fin q) = 1 := by
  have : ((1 : Fin q) : Nat) = 1 % q := rfl
  unfold nI; rw [this, Nat.mod_eq_of_lt h]; rfl
end
section
variable {q : Nat}
theorem nI_of {x : Int} (h0 : 0 ≤ x) (h1 : x < (q : Int)) : ∃ a : Fin q, nI a = x := ⟨⟨x.toNat, by omega⟩, by show ((x.toNat : Nat) : Int) = x; omega⟩
theorem nI_mul (a b : Fin q) : nI (a * b) = nI a * nI b % (q : Int) := by
  unfold nI; rw [Fin.val_mul]; simp
theorem nI_add (a b : Fin q) : nI (a + b) = (nI a + nI b) % (q : Int) := by
  unfold nI; rw [Fin.val_add]; simp
theorem nI_sub (a b : Fin q) : nI (a - b) = (nI a + (q : Int) - nI b) % (q : Int) := by
  have hb := b.isLt
  have e : (a - b).val = (q - b.val + a.val) % q := by rw [Fin.sub_def]
  unfold nI; rw [e]
  have : (a.val : Int) + (q : Int) - (b.val : Int) = ((q - b.val + a.val : Nat) : Int) := by omega
  rw [this]; simp

theorem oI_nil : oI ([] : List (Fin q)) = [] := rfl
theorem oI_cons (a : Fin q) (f : List (Fin q)) : oI (a :: f) = nI a :: oI f := rfl
theorem oI_append (f g : List (Fin q)) : oI (f ++ g) = oI f ++ oI g := by simp [oI]
theorem oI_length (f : List (Fin q)) : (oI f).length = f.length := by simp [oI]
theorem oI_of : ∀ {l : List Int}, (∀ c ∈ l, 0 ≤ c ∧ c < (q : Int)) → ∃ f : List (Fin q), oI f = l
  | [], _ => ⟨[], rfl⟩
  | a :: l, h => by
    obtain ⟨x, hx⟩ := nI_of (h a (by simp)).1 (h a (by simp)).2
    obtain ⟨f, hf⟩ := oI_of (l := l) (fun c hc => h c (by simp [hc]))
    exact ⟨x :: f, by rw [oI_cons, hx, hf]⟩
theorem oI_inj : ∀ {f g : List (Fin q)}, oI f = oI g → f = g
  | [], [], _ => rfl
  | [], _ :: _, h => by cases h
  | _ :: _, [], h => by cases h
  | a :: f, b :: g, h => by
    rw [oI_cons, oI_cons] at h
    injection h with h1 h2
    rw [nI_inj h1, oI_inj h2]
theorem oI_range (f : List (Fin q)) : ∀ c ∈ oI f, 0 ≤ c ∧ c < (q : Int) := by
  intro c hc
  obtain ⟨a, _, rfl⟩ := List.mem_map.1 hc
  exact nI_range a
end
section
variable {q : Nat} [NeZero q]
theorem oI_getD (f : List (Fin q)) (i : Nat) : (oI f).getD i 0 = nI (Fld.co f i) := by
  by_cases h : i < f.length
  · rw [Fld.co_lt h]; simp [oI, List.getD_eq_getElem?_getD, h]
  · rw [Fld.co_ge (by omega), nI_zero]; simp [oI, List.getD_eq_getElem?_getD, List.getElem?_eq_none (show f.length ≤ i by omega)]
theorem rd_oI (f : List (Fin q)) (i : Nat) : rd (oI f) (i : Int) = nI (Fld.co f i) := by
  rw [← oI_getD]; simp [rd]
end
section
variable {q : Nat}
theorem oI_take (f : List (Fin q)) (i : Nat) : (oI f).take i = oI (f.take i) := by simp [oI, List.map_take]
theorem oI_drop (f : List (Fin q)) (i : Nat) : (oI f).drop i = oI (f.drop i) := by simp [oI, List.map_drop]
theorem oI_set (f : List (Fin q)) (i : Nat) (a : Fin q) : (oI f).set i (nI a) = oI (f.set i a) := by simp [oI, List.map_set]
end
section
variable {q : Nat} [NeZero q]
theorem oI_zeros (n : Nat) : List.replicate n (0 : Int) = oI (List.replicate n (0 : Fin q)) := by simp [oI, nI_zero]
theorem short_oI (f : List (Fin q)) : shortI (oI f) = oI (Fld.trim f) := by
  induction f with
  | nil => rfl
  | cons a f ih =>
    have e : shortI (oI (a :: f)) = if shortI (oI f) = [] ∧ nI a = 0 then [] else nI a :: shortI (oI f) := rfl
    rw [e, ih, Fld.trim_cons]
    by_cases h : Fld.trim f = [] ∧ a = 0
    · rw [if_pos h, if_pos (by rw [h.1, h.2]; exact ⟨rfl, nI_zero⟩)]; rfl
    · rw [if_neg h, if_neg (fun h' => h ⟨oI_inj (h'.1.trans oI_nil.symm), nI_eq_zero.1 h'.2⟩)]; rfl

theorem co_set (f : List (Fin q)) (i : Nat) (a : Fin q) (hi : i < f.length) (s : Nat) : Fld.co (f.set i a) s = if s = i then a else Fld.co f s := by
  unfold Fld.co
  rw [List.getD_eq_getElem?_getD, List.getD_eq_getElem?_getD]
  by_cases h : s = i
  · subst h; rw [if_pos rfl, List.getElem?_set_self hi]; rfl
  · rw [if_neg h, List.getElem?_set_ne (by omega)]
theorem co_zeros (n s : Nat) : Fld.co (List.replicate n (0 : Fin q)) s = 0 := by
  unfold Fld.co
  rw [List.getD_eq_getElem?_getD, List.getElem?_replicate]
  split <;> rfl
theorem co_append (f g : List (Fin q)) (s : Nat) : Fld.co (f ++ g) s = if s < f.length then Fld.co f s else Fld.co g (s - f.length) := by
  unfold Fld.co
  rw [List.getD_eq_getElem?_getD, List.getD_eq_getElem?_getD, List.getD_eq_getElem?_getD]
  by_cases h : s < f.length
  · rw [if_pos h, List.getElem?_append_left h]
  · rw [if_neg h, List.getElem?_append_right (by omega)]
theorem co_take (f : List (Fin q)) (n s : Nat) : Fld.co (f.take n) s = if s < n then Fld.co f s else 0 := by
  unfold Fld.co
  rw [List.getD_eq_getElem?_getD, List.getD_eq_getElem?_getD]
  by_cases h : s < n
  · rw [if_pos h, List.getElem?_take_of_lt h]
  · rw [if_neg h, List.getElem?_eq_none (by simp; omega)]; rfl

/-! what the field's words tell -/
section
variable (hq : q ≤ 65537)
include hq
theorem times_fp (a b : Fin q) : field_Times.f (q : Int) (nI a) (nI b) = some (nI (a * b)) := by
  have hp := q_pos (q := q)
  rw [times_at (by omega) (by omega) (nI_range a).1 (nI_range a).2 (nI_range b).1 (nI_range b).2, nI_mul]
theorem mul_fp (a b : Fin q) : juntoref01_Mul.f (q : Int) (nI a) (nI b) = some (nI (a * b)) := by
  have hp := q_pos (q := q)
  rw [ref_mul (by omega) (by omega) (nI_range a).1 (nI_range a).2 (nI_range b).1 (nI_range b).2, nI_mul]
theorem plus_fp (a b : Fin q) : field_Plus.f (q : Int) (nI a) (nI b) = some (nI (a + b)) := by
  have hp := q_pos (q := q)
  rw [plus_at (by omega) (by omega) (nI_range a).1 (nI_range a).2 (nI_range b).1 (nI_range b).2, nI_add]
theorem add_fp (a b : Fin q) : juntoref01_Add.f (q : Int) (nI a) (nI b) = some (nI (a + b)) := by
  have hp := q_pos (q := q)
  rw [ref_add (by omega) (by omega) (nI_range a).1 (nI_range a).2 (nI_range b).1 (nI_range b).2, nI_add]
theorem fmul_fp (a b : Fin q) : field_mul.f (q : Int) (nI a) (nI b) = some (nI (a * b)) := by
  have := times_fp hq a b
  unfold field_Times.f at this
  generalize field_mul.f (q : Int) (nI a) (nI b) = o at this
  cases o with
  | none => cases this
  | some v => exact this
theorem minus_fp (a b : Fin q) : field_Minus.f (q : Int) (nI a) (nI b) = some (nI (a - b)) := by
  have hp := q_pos (q := q)
  have ha := nI_range a
  have hb := nI_range b
  unfold field_Minus.f
  rw [if_neg (by omega), u64_small (by omega) (by omega), Int.tmod_eq_emod_of_nonneg (by omega)]
  have e : ((q : Int) - nI b) % (q : Int) = nI (0 - b) := by rw [nI_sub, nI_zero, Int.zero_add]
  rw [e, plus_fp hq, Option.bind_some]
  congr 2
  grind
end

/-! rows -/
theorem short_fp (f : List (Fin q)) (hl : f.length ≤ 1000000000) : Ev (fun k => poly_Short.f k (oI f)) (oI (Fld.trim f)) := by
  rw [← short_oI]
  exact ⟨f.length + 1, fun k hk => short_spec (oI f) (by rw [oI_length]; omega) k (by rw [oI_length]; omega)⟩
theorem zip_fp (D : Int → Int → Int) (O : Fin q → Fin q → Fin q) (h : ∀ a b : Fin q, D (nI a) (nI b) = nI (O a b)) (f g : List (Fin q)) : zipI D (oI f) (oI g) = oI (Fld.trim (Fld.mk (max f.length g.length) (fun i => O (Fld.co f i) (Fld.co g i)))) := by
  unfold zipI
  rw [← short_oI, oI_length, oI_length]
  unfold Fld.mk oI
  rw [List.map_map]
  congr 1
  apply List.map_congr_left
  intro i _
  show D ((oI f).getD i 0) ((oI g).getD i 0) = nI (O (Fld.co f i) (Fld.co g i))
  rw [oI_getD, oI_getD, h]
theorem plusI_fp (hq : q ≤ 65537) (f g : List (Fin q)) : plusI (q : Int) (oI f) (oI g) = oI (Fld.trim (Fld.add f g)) :=
  zip_fp _ (· + ·) (fun a b => by rw [plus_fp hq]; rfl) f g
theorem plus_rows (hq : q ≤ 65537) (f g : List (Fin q)) (hf : f.length ≤ 1000000000) (hg : g.length ≤ 1000000000) : Ev (fun k => poly_Plus.f k (q : Int) (oI f) (oI g)) (oI (Fld.trim (Fld.add f g))) := by
  rw [← plusI_fp hq]
  exact ⟨2 * max f.length g.length + 2, fun k hk => plusI_spec (q : Int) (oI f) (oI g) (by rw [oI_length, oI_length]; omega) k (by rw [oI_length, oI_length]; omega)⟩

theorem at_fp (hq : q ≤ 65537) (f : List (Fin q)) (x : Fin q) : valV (q : Int) (nI x) (oI f) = nI (Fld.ev f x) := by
  induction f with
  | nil => exact nI_zero.symm
  | cons a f ih =>
    rw [Fld.ev_cons, nI_add, nI_mul, ← ih]; rfl
theorem at_rows (hq : q ≤ 65537) (f : List (Fin q)) (x : Fin q) : poly_At.f (q : Int) (oI f) (nI x) = some (nI (Fld.ev f x)) := by
  have hp := q_pos (q := q)
  rw [poly_at (by omega) (by omega) (nI_range x).1 (nI_range x).2 (oI f) (oI_range f), at_fp hq]
theorem eval_rows (h1 : 1 < q) (hq : q ≤ 65537) (f : List (Fin q)) (x : Fin q) (hf : f.length ≤ 1000000000) : Ev (fun k => juntoref02_Eval.f k (q : Int) (oI f) (nI x)) (nI (Fld.ev f x)) := by
  have := ref_eval (p := (q : Int)) (x := nI x) (by omega) (by omega) (nI_range x).1 (nI_range x).2 (oI f) (by rw [oI_length]; simp only [maxLen]; omega) (oI_range f)
  rwa [at_fp hq] at this

/-- A row that is filled from the front on. -/
def fill (n j : Nat) (F : Nat → Fin q) : List (Fin q) := Fld.mk n (fun i => if i < j then F i else 0)
theorem fill_zero (n : Nat) (F : Nat → Fin q) : fill n 0 F = List.replicate n 0 := by
  apply List.ext_getElem (by simp [fill, Fld.mk])
  intro i h1 h2
  simp [fill, Fld.mk]
theorem fill_length (n j : Nat) (F : Nat → Fin q) : (fill n j F).length = n := Fld.mk_length _ _
theorem fill_set (n j : Nat) (F : Nat → Fin q) : (fill n j F).set j (F j) = fill n (j + 1) F := by
  apply List.ext_getElem (by simp [fill, Fld.mk])
  intro i h1 h2
  simp only [fill, Fld.mk, List.getElem_set, List.getElem_map, List.getElem_range]
  by_cases h : j = i
  · rw [if_pos h, if_pos (by omega), h]
  · rw [if_neg h]
    by_cases h' : i < j
    · rw [if_pos h', if_pos (by omega)]
    · rw [if_neg h', if_neg (by omega)]
theorem fill_all (n : Nat) (F : Nat → Fin q) : fill n n F = Fld.mk n F := by
  apply List.ext_getElem (by simp [fill, Fld.mk])
  intro i h1 h2
  have : i < n := by simpa [fill, Fld.mk] using h1
  simp [fill, Fld.mk, this]

theorem by_loop (hq : q ≤ 65537) (f : List (Fin q)) (c : Fin q) (hf : f.length ≤ 1000000000) : ∀ (m i : Nat), i + m = f.length →
    Ev (fun k => poly_By.l0 k (q : Int) (nI c) (oI (fill f.length i fun j => Fld.co f j * c)) (oI f) (f.length : Int) (i : Int)) (oI (Fld.trim (Fld.mk f.length fun j => Fld.co f j * c)))
  | 0, i, hi => by
    obtain rfl : i = f.length := by omega
    refine Ev.step (f := fun k => (poly_Short.f k (oI (Fld.mk f.length fun j => Fld.co f j * c))).bind fun t => some t) (fun k => ?_) (Ev.bind (short_fp _ (by rw [Fld.mk_length]; exact hf)) (Ev.now _))
    simp only [poly_By.l0]
    rw [if_neg (by omega), fill_all]
  | m + 1, i, hi => by
    refine Ev.step (f := fun k => poly_By.l0 k (q : Int) (nI c) (oI (fill f.length (i + 1) fun j => Fld.co f j * c)) (oI f) (f.length : Int) ((i + 1 : Nat) : Int)) (fun k => ?_) (by_loop hq f c hf m (i + 1) (by omega))
    conv => lhs; simp only [poly_By.l0]
    rw [if_pos (by omega), if_pos (by omega), if_pos (by rw [oI_length]; omega), rd_oI, times_fp hq, Option.bind_some, if_pos (by rw [oI_length, fill_length]; omega), Int.toNat_natCast, oI_set, fill_set f.length i (fun j => Fld.co f j * c), w64_small (by omega) (by omega)]
    rfl
theorem by_rows (hq : q ≤ 65537) (f : List (Fin q)) (c : Fin q) (hf : f.length ≤ 1000000000) : Ev (fun k => poly_By.f k (q : Int) (oI f) (nI c)) (oI (Fld.trim (Fld.smul c f))) := by
  have e : Fld.Eqv (Fld.mk f.length fun j => Fld.co f j * c) (Fld.smul c f) := fun i => by
    rw [Fld.co_mk, Fld.co_smul]
    split
    · grind
    · rw [Fld.co_ge (f := f) (by omega)]; grind
  rw [← Fld.trim_congr e]
  have h := by_loop hq f c hf f.length 0 (by omega)
  rw [fill_zero, ← oI_zeros] at h
  refine Ev.congr (fun k => ?_) h
  unfold poly_By.f
  rw [oI_length, if_pos (by omega), if_pos (by omega), Int.toNat_natCast]
  rfl

/-! products -/
/-- What the first i rows of a product come to. -/
def part (f g : List (Fin q)) (i s : Nat) : Fin q := Fld.sm i (fun j => if j ≤ s then Fld.co f j * Fld.co g (s - j) else 0)
theorem part_all (f g : List (Fin q)) (n s : Nat) (h : f.length ≤ n) : part f g n s = Fld.co (Fld.mul f g) s := by
  rw [Fld.co_mul]
  unfold part Fld.cv
  have e : Fld.sm (max n (s + 1)) (fun j => if j ≤ s then Fld.co f j * Fld.co g (s - j) else 0) = Fld.sm n (fun j => if j ≤ s then Fld.co f j * Fld.co g (s - j) else 0) := Fld.sm_more (by omega) fun i h1 h2 => by
    rw [Fld.co_ge (f := f) (by omega)]; split <;> grind
  have e' : Fld.sm (max n (s + 1)) (fun j => if j ≤ s then Fld.co f j * Fld.co g (s - j) else 0) = Fld.sm (s + 1) (fun j => if j ≤ s then Fld.co f j * Fld.co g (s - j) else 0) := Fld.sm_more (by omega) fun i h1 h2 => by
    rw [if_neg (by omega)]
  rw [← e, e']
  exact Fld.sm_congr fun i hi => by rw [if_pos (by omega)]

/-- The row h stands at factor i, k of a product. -/
def At2 (f g h : List (Fin q)) (i k : Nat) : Prop := ∀ s, Fld.co h s = part f g i s + (if i ≤ s ∧ s < i + k then Fld.co f i * Fld.co g (s - i) else 0)
theorem At2.start (f g : List (Fin q)) (n : Nat) : At2 f g (List.replicate n 0) 0 0 := fun s => by
  rw [co_zeros, if_neg (by omega)]; show (0 : Fin q) = 0 + 0; grind
theorem At2.next {f g h : List (Fin q)} {i k : Nat} (H : At2 f g h i k) (hk : i + k < h.length) : At2 f g (h.set (i + k) (Fld.co h (i + k) + Fld.co f i * Fld.co g k)) i (k + 1) := fun s => by
  rw [co_set _ _ _ hk]
  by_cases e : s = i + k
  · subst e
    rw [if_pos rfl, H (i + k), if_neg (by omega), if_pos (by omega), show i + k - i = k by omega]; grind
  · rw [if_neg e, H s]
    by_cases e' : i ≤ s ∧ s < i + k
    · rw [if_pos e', if_pos (by omega)]
    · rw [if_neg e', if_neg (by omega)]
theorem At2.round {f g h : List (Fin q)} {i k : Nat} (H : At2 f g h i k) (hk : g.length ≤ k) : At2 f g h (i + 1) 0 := fun s => by
  rw [H s, if_neg (by omega : ¬ (i + 1 ≤ s ∧ s < i + 1 + 0))]
  have e : part f g (i + 1) s = part f g i s + (if i ≤ s then Fld.co f i * Fld.co g (s - i) else 0) := rfl
  rw [e]
  by_cases h1 : i ≤ s
  · by_cases h2 : s < i + k
    · rw [if_pos ⟨h1, h2⟩, if_pos h1]; grind
    · rw [if_neg (by omega), if_pos h1, Fld.co_ge (f := g) (by omega)]; grind
  · rw [if_neg (by omega), if_neg h1]; grind
theorem At2.last {f g h : List (Fin q)} {i : Nat} (H : At2 f g h i 0) (hi : f.length ≤ i) : Fld.trim h = Fld.trim (Fld.mul f g) := Fld.trim_congr fun s => by
  rw [H s, if_neg (by omega), part_all f g i s hi]; grind

theorem times_inner (hq : q ≤ 65537) (f g : List (Fin q)) (i : Nat) (hi : i < f.length) (hf : f.length ≤ 1000000) (hg : g.length ≤ 1000000) {r : List Int} (next : ∀ h : List (Fin q), h.length = f.length + g.length - 1 → At2 f g h (i + 1) 0 → Ev (fun k => poly_Times.l0 k (q : Int) (oI g) (oI h) (oI f) (f.length : Int) ((i + 1 : Nat) : Int)) r) : ∀ (m j : Nat) (h : List (Fin q)), j + m = g.length → h.length = f.length + g.length - 1 → At2 f g h i j →
    Ev (fun k => poly_Times.l1 k (q : Int) (oI g) (oI h) (i : Int) (nI (Fld.co f i)) (oI f) (f.length : Int) (i : Int) (oI g) (g.length : Int) (j : Int)) r
  | 0, j, h, hj, hh, H => by
    refine Ev.step (f := fun k => poly_Times.l0 k (q : Int) (oI g) (oI h) (oI f) (f.length : Int) ((i + 1 : Nat) : Int)) (fun k => ?_) (next h hh (H.round (by omega)))
    conv => lhs; simp only [poly_Times.l1]
    rw [if_neg (by omega), w64_small (by omega) (by omega)]
    rfl
  | m + 1, j, h, hj, hh, H => by
    refine Ev.step (f := fun k => poly_Times.l1 k (q : Int) (oI g) (oI (h.set (i + j) (Fld.co h (i + j) + Fld.co f i * Fld.co g j))) (i : Int) (nI (Fld.co f i)) (oI f) (f.length : Int) (i : Int) (oI g) (g.length : Int) ((j + 1 : Nat) : Int)) (fun k => ?_) (times_inner hq f g i hi hf hg next m (j + 1) _ (by omega) (by rw [List.length_set]; exact hh) (H.next (by omega)))
    conv => lhs; simp only [poly_Times.l1]
    have hw : wrap64 ((i : Int) + (j : Int)) = ((i + j : Nat) : Int) := by rw [w64_small (by omega) (by omega)]; omega
    rw [if_pos (by omega), if_pos (by omega), if_pos (by rw [oI_length]; omega), hw, if_pos (by omega), if_pos (by rw [oI_length]; omega), rd_oI, rd_oI, times_fp hq, Option.bind_some, plus_fp hq, Option.bind_some, Int.toNat_natCast, oI_set, w64_small (by omega) (by omega)]
    rfl
theorem times_outer (hq : q ≤ 65537) (f g : List (Fin q)) (hf : f.length ≤ 1000000) (hg : g.length ≤ 1000000) : ∀ (m i : Nat) (h : List (Fin q)), i + m = f.length → h.length = f.length + g.length - 1 → At2 f g h i 0 →
    Ev (fun k => poly_Times.l0 k (q : Int) (oI g) (oI h) (oI f) (f.length : Int) (i : Int)) (oI (Fld.trim (Fld.mul f g)))
  | 0, i, h, hi, hh, H => by
    rw [← H.last (by omega)]
    refine Ev.step (f := fun k => (poly_Short.f k (oI h)).bind fun t => some t) (fun k => ?_) (Ev.bind (short_fp _ (by omega)) (Ev.now _))
    simp only [poly_Times.l0]
    rw [if_neg (by omega)]
  | m + 1, i, h, hi, hh, H => by
    refine Ev.step (f := fun k => poly_Times.l1 k (q : Int) (oI g) (oI h) (i : Int) (nI (Fld.co f i)) (oI f) (f.length : Int) (i : Int) (oI g) (g.length : Int) 0) (fun k => ?_) (times_inner hq f g i (by omega) hf hg (fun h' hh' H' => times_outer hq f g hf hg m (i + 1) h' (by omega) hh' H') g.length 0 h (by omega) hh H)
    conv => lhs; simp only [poly_Times.l0]
    rw [if_pos (by omega), if_pos (by omega), if_pos (by rw [oI_length]; omega), rd_oI, oI_length]
theorem mul_nil_left (g : List (Fin q)) : Fld.mul [] g = [] := rfl
theorem times_rows (hq : q ≤ 65537) (f g : List (Fin q)) (hf : f.length ≤ 1000000) (hg : g.length ≤ 1000000) : Ev (fun k => poly_Times.f k (q : Int) (oI f) (oI g)) (oI (Fld.trim (Fld.mul f g))) := by
  by_cases h0 : f = [] ∨ g = []
  · have e : Fld.trim (Fld.mul f g) = [] := by
      rcases h0 with rfl | rfl
      · rfl
      · rw [Fld.trim_congr (Fld.mul_nil f)]; rfl
    rw [e]
    refine Ev.step (f := fun k => some []) (fun k => ?_) (Ev.now _)
    unfold poly_Times.f
    rcases h0 with rfl | rfl
    · rw [if_pos (by rfl)]
      simp only [poly_Times.j0, if_true]
    · by_cases hf0 : ((oI f).length : Int) = 0
      · rw [if_pos hf0]
        simp only [poly_Times.j0, if_true]
      · rw [if_neg hf0]
        simp [poly_Times.j0, oI_nil]
  · have hf0 : 0 < f.length := List.length_pos_iff.2 (fun e => h0 (.inl e))
    have hg0 : 0 < g.length := List.length_pos_iff.2 (fun e => h0 (.inr e))
    refine Ev.step (f := fun k => poly_Times.l0 k (q : Int) (oI g) (oI (List.replicate (f.length + g.length - 1) 0)) (oI f) (f.length : Int) ((0 : Nat) : Int)) (fun k => ?_) (times_outer hq f g hf hg f.length 0 _ (by omega) (by simp) (At2.start f g _))
    unfold poly_Times.f
    have hb : (((oI g).length : Int) == 0) = false := by rw [oI_length, beq_eq_false_iff_ne]; omega
    have hw : wrap64 (wrap64 (((oI f).length : Int) + ((oI g).length : Int)) - 1) = ((f.length + g.length - 1 : Nat) : Int) := by
      rw [oI_length, oI_length, w64_small (n := (f.length : Int) + (g.length : Int)) (by omega) (by omega), w64_small (by omega) (by omega)]; omega
    rw [if_neg (by rw [oI_length]; omega), hb]
    simp only [poly_Times.j0, Bool.false_eq_true, if_false]
    rw [hw, if_pos (by omega), Int.toNat_natCast, if_pos (by omega), ← oI_zeros, oI_length]
    rfl

/-! inverses -/
theorem pow_loop (hq : q ≤ 65537) : ∀ (n : Nat) (e : Nat) (a y : Fin q), e ≤ n → e ≤ 65537 → Ev (fun k => field_pow.l0 k (q : Int) (nI a) (e : Int) (nI y)) (nI (y * a ^ e))
  | 0, e, a, y, h, he => by
    obtain rfl : e = 0 := by omega
    rw [show y * a ^ 0 = y by grind]
    refine Ev.step (f := fun k => some (nI y)) (fun k => ?_) (Ev.now _)
    simp only [field_pow.l0]
    rw [if_neg (by omega)]
  | n + 1, e, a, y, h, he => by
    by_cases h0 : e = 0
    · subst h0
      rw [show y * a ^ 0 = y by grind]
      refine Ev.step (f := fun k => some (nI y)) (fun k => ?_) (Ev.now _)
      simp only [field_pow.l0]
      rw [if_neg (by omega)]
    · have hd : ((e : Int) / 2) = ((e / 2 : Nat) : Int) := by omega
      have hb : Go.bits .and .u64 (e : Int) 1 = ((e % 2 : Nat) : Int) := by rw [and_one_u64 (e : Int) (by omega) (by omega)]; omega
      by_cases h1 : e % 2 = 1
      · have ee : y * a ^ e = y * a * (a * a) ^ (e / 2) := by
          have : e = 2 * (e / 2) + 1 := by omega
          rw [Fld.pow_double]
          generalize e / 2 = z at *
          subst this
          grind
        rw [ee]
        refine Ev.step (f := fun k => field_pow.l0 k (q : Int) (nI (a * a)) ((e / 2 : Nat) : Int) (nI (y * a))) (fun k => ?_) (pow_loop hq n (e / 2) (a * a) (y * a) (by omega) (by omega))
        conv => lhs; simp only [field_pow.l0]
        rw [if_pos (by omega), hb, h1, if_pos (by rfl), fmul_fp hq, Option.bind_some, fmul_fp hq, Option.bind_some, hd]
      · have ee : y * a ^ e = y * (a * a) ^ (e / 2) := by
          have : e = 2 * (e / 2) := by omega
          rw [Fld.pow_double]
          generalize e / 2 = z at *
          subst this
          rfl
        rw [ee]
        refine Ev.step (f := fun k => field_pow.l0 k (q : Int) (nI (a * a)) ((e / 2 : Nat) : Int) (nI y)) (fun k => ?_) (pow_loop hq n (e / 2) (a * a) y (by omega) (by omega))
        conv => lhs; simp only [field_pow.l0]
        rw [if_pos (by omega), hb, if_neg (by omega), fmul_fp hq, Option.bind_some, hd]
theorem over_fp (h1 : 2 < q) (hq : q ≤ 65537) (a : Fin q) : Ev (fun k => field_Over.f k (q : Int) (nI a)) (nI (Fld.inv a)) := by
  unfold field_Over.f field_pow.f
  rw [u64_small (by omega) (by omega)]
  have e : ((q : Int) - 2) = ((q - 2 : Nat) : Int) := by omega
  have e1 : (1 : Int) % (q : Int) = nI (1 : Fin q) := by rw [nI_one (by omega), Int.emod_eq_of_lt (by omega) (by omega)]
  have e2 : Fld.inv a = 1 * a ^ (q - 2) := by unfold Fld.inv; grind
  rw [e, e1, e2]
  refine Ev.bind (f := fun k t => some t) (a := nI (1 * a ^ (q - 2))) ?_ (Ev.now _)
  refine Ev.congr (fun k => if_neg (by omega)) (pow_loop hq (q - 2) (q - 2) a 1 (Nat.le_refl _) (by omega))
end

end Go.Proofs.Ytjjnfobeeflnhaa.L

/- Rows drawn from a tape, rows without noughts at the end, rows compared: what the words tell. -/
namespace Go.Proofs.Ytjjnfobeeflnhaa.L
open Go.RowKit Go.Proofs.YtjjnfobeeflnhaaW.PrintWords Go.Proofs.Ytjjnfobeeflnhaa.J
set_option linter.unusedVariables false
set_option linter.unusedSimpArgs false

/-! rows compared -/
theorem rd_getD (l : List Int) (i : Nat) : rd l (i : Int) = l.getD i 0 := by simp [rd]
theorem same_loop (a b : List Int) (hl : a.length = b.length) (hs : a.length ≤ maxLen) : ∀ (m i : Nat), i + m = a.length → Ev (fun k => juntoref01_Same.l0 k a b (a.length : Int) (i : Int)) (decide (a.drop i = b.drop i))
  | 0, i, hi => by
    have e : a.drop i = b.drop i := by rw [List.drop_of_length_le (by omega), List.drop_of_length_le (by omega)]
    rw [decide_eq_true e]
    refine Ev.step (f := fun k => some true) (fun k => ?_) (Ev.now _)
    simp only [juntoref01_Same.l0]
    rw [if_neg (by omega)]
  | m + 1, i, hi => by
    have hm : (a.length : Int) ≤ 9223372036854775807 := by simp only [maxLen] at hs; omega
    have h1 : i < a.length := by omega
    have h2 : i < b.length := by omega
    have ra : rd a (i : Int) = a[i] := by simp [rd, List.getD_eq_getElem?_getD, h1]
    have rb : rd b (i : Int) = b[i] := by simp [rd, List.getD_eq_getElem?_getD, h2]
    by_cases e : a[i] = b[i]
    · have e2 : decide (a.drop i = b.drop i) = decide (a.drop (i + 1) = b.drop (i + 1)) := by
        rw [List.drop_eq_getElem_cons h1, List.drop_eq_getElem_cons h2, e]
        exact decide_eq_decide.2 ⟨fun h => (List.cons.inj h).2, fun h => by rw [h]⟩
      rw [e2]
      refine Ev.step (f := fun k => juntoref01_Same.l0 k a b (a.length : Int) ((i + 1 : Nat) : Int)) (fun k => ?_) (same_loop a b hl hs m (i + 1) (by omega))
      conv => lhs; simp only [juntoref01_Same.l0]
      rw [if_pos (by omega), if_pos (by omega), if_pos (by omega), if_pos (by omega), ra, rb, if_pos e, w64_small (by omega) (by omega)]
      rfl
    · have e2 : decide (a.drop i = b.drop i) = false := by
        rw [List.drop_eq_getElem_cons h1, List.drop_eq_getElem_cons h2]
        exact decide_eq_false fun h => e (List.cons.inj h).1
      rw [e2]
      refine Ev.step (f := fun k => some false) (fun k => ?_) (Ev.now _)
      simp only [juntoref01_Same.l0]
      rw [if_pos (by omega), if_pos (by omega), if_pos (by omega), if_pos (by omega), ra, rb, if_neg e]
theorem same_at (a b : List Int) (hs : a.length ≤ maxLen) : Ev (fun k => juntoref01_Same.f k a b) (decide (a = b)) := by
  unfold juntoref01_Same.f
  by_cases h : a.length = b.length
  · have := same_loop a b h hs a.length 0 (by omega)
    rw [List.drop_zero, List.drop_zero] at this
    exact Ev.congr (fun k => if_pos (by omega)) this
  · rw [decide_eq_false (fun e => h (by rw [e]))]
    exact Ev.congr (fun k => if_neg (by omega)) (Ev.now _)
theorem same_self (a : List Int) (hs : a.length ≤ maxLen) : Ev (fun k => juntoref01_Same.f k a a) true := by
  have := same_at a a hs
  rwa [decide_eq_true rfl] at this

/-! rows without noughts at the end -/
theorem trim_loop (l : List Int) (hl : l.length < 17592186044416) : ∀ (n : Nat), n ≤ l.length → Ev (fun k => juntoref02_Trim.l0 k l (n : Int)) (shortI (l.take n))
  | 0, _ => by
    refine Ev.step (f := fun k => some []) (fun k => ?_) (Ev.now _)
    simp only [juntoref02_Trim.l0]
    rw [if_neg (by omega)]
    simp
  | n + 1, hn => by
    have hw : wrap64 (((n + 1 : Nat) : Int) - 1) = (n : Int) := by unfold wrap64; omega
    have hr : rd l (n : Int) = l[n] := by simp [rd, List.getD_eq_getElem?_getD, show n < l.length by omega]
    rw [List.take_succ_eq_append_getElem (by omega), shortI_snoc]
    by_cases hz : l[n] = 0
    · rw [if_pos hz]
      refine Ev.step (f := fun k => juntoref02_Trim.l0 k l (n : Int)) (fun k => ?_) (trim_loop l hl n (by omega))
      conv => lhs; simp only [juntoref02_Trim.l0]
      rw [hw, if_pos (by omega), if_pos (by omega), if_pos (by omega), hr, if_pos hz]
    · rw [if_neg hz]
      refine Ev.step (f := fun k => some (l.take n ++ [l[n]])) (fun k => ?_) (Ev.now _)
      conv => lhs; simp only [juntoref02_Trim.l0]
      rw [hw, if_pos (by omega), if_pos (by omega), if_pos (by omega), hr, if_neg hz, Option.bind_some, if_pos (by omega), if_pos (by omega)]
      rw [show (((n + 1 : Nat) : Int)).toNat = n + 1 by omega, List.take_succ_eq_append_getElem (by omega)]
      rw [if_pos (by simp; omega)]; rfl
theorem trim_at (l : List Int) (hl : l.length < 17592186044416) : Ev (fun k => juntoref02_Trim.f k l) (shortI l) := by
  have := trim_loop l hl l.length (Nat.le_refl _)
  rw [List.take_length] at this
  exact this
section
variable {q : Nat} [NeZero q]
theorem trim_fp (f : List (Fin q)) (hl : f.length ≤ 1000000000) : Ev (fun k => juntoref02_Trim.f k (oI f)) (oI (Fld.trim f)) := by
  rw [← short_oI]
  exact trim_at _ (by rw [oI_length]; omega)

/-! rows drawn from a tape -/
/-- The residue of a number. -/
def resid (q : Nat) [NeZero q] (x : Int) : Fin q := Fin.ofNat q (x % (q : Int)).toNat
theorem nI_resid (x : Int) : nI (resid q x) = x % (q : Int) := by
  have hp := q_pos (q := q)
  have h0 : 0 ≤ x % (q : Int) := Int.emod_nonneg _ (by omega)
  have h1 : x % (q : Int) < (q : Int) := Int.emod_lt_of_pos _ (by omega)
  unfold nI resid
  simp only [Fin.ofNat]
  rw [Nat.mod_eq_of_lt (by omega)]
  omega
theorem resid_zero : resid q 0 = 0 := nI_inj (by rw [nI_resid, nI_zero]; simp)
/-- The first n numbers of a tape. -/
def drawn (q : Nat) [NeZero q] (tape : List Int) (n : Nat) : List (Fin q) := Fld.mk n (fun i => resid q (tape.getD i 0))
theorem fill_skip {n j : Nat} {F : Nat → Fin q} (h : F j = 0) : fill n j F = fill n (j + 1) F := by
  unfold fill Fld.mk
  apply List.map_congr_left
  intro i _
  by_cases e : i = j
  · subst e; rw [if_neg (by omega), if_pos (by omega), h]
  · by_cases e' : i < j
    · rw [if_pos e', if_pos (by omega)]
    · rw [if_neg e', if_neg (by omega)]
theorem take_loop (hq : q ≤ 65537) (tape : List Int) (hs : tape.length ≤ 17592186044415) (hu : ∀ c ∈ tape, 0 ≤ c) (n : Nat) (hn : n ≤ 1000000000) : ∀ (m i : Nat), i + m = n →
    Ev (fun k => field_Take.l0 k (q : Int) tape (n : Int) (oI (fill n i fun j => resid q (tape.getD j 0))) (n : Int) (i : Int)) (oI (drawn q tape n), tape.drop n)
  | 0, i, hi => by
    obtain rfl : i = n := by omega
    have hp := q_pos (q := q)
    have e : fill i i (fun j => resid q (tape.getD j 0)) = drawn q tape i := fill_all _ _
    rw [e]
    refine Ev.step (f := fun k => some (oI (drawn q tape i), tape.drop i)) (fun k => ?_) (Ev.now _)
    have hd : tape.drop (mn (i : Int) (tape.length : Int)).toNat = tape.drop i := by
      by_cases h : i ≤ tape.length
      · have : (mn (i : Int) (tape.length : Int)).toNat = i := by unfold mn; split <;> omega
        rw [this]
      · have : (mn (i : Int) (tape.length : Int)).toNat = tape.length := by unfold mn; split <;> omega
        rw [this, List.drop_of_length_le (Nat.le_refl _), List.drop_of_length_le (by omega)]
    have h0 : 0 ≤ mn (i : Int) (tape.length : Int) := by unfold mn; split <;> omega
    have h1 : mn (i : Int) (tape.length : Int) ≤ (tape.length : Int) := by unfold mn; split <;> omega
    simp only [field_Take.l0]
    rw [if_neg (by omega), Option.bind_some, if_pos h0, if_pos h1, hd, if_pos (by simp; omega)]
    rfl
  | m + 1, i, hi => by
    have hp := q_pos (q := q)
    refine Ev.step (f := fun k => field_Take.l0 k (q : Int) tape (n : Int) (oI (fill n (i + 1) fun j => resid q (tape.getD j 0))) (n : Int) ((i + 1 : Nat) : Int)) (fun k => ?_) (take_loop hq tape hs hu n hn m (i + 1) (by omega))
    conv => lhs; simp only [field_Take.l0]
    rw [if_pos (by omega), w64_small (n := (i : Int) + 1) (by omega) (by omega)]
    by_cases h : i < tape.length
    · have h0 : 0 ≤ tape.getD i 0 := by
        rw [List.getD_eq_getElem?_getD, List.getElem?_eq_getElem h]; exact hu _ (List.getElem_mem h)
      rw [if_pos (by omega), if_pos (by omega), if_neg (by omega), if_pos (by rw [oI_length, fill_length]; omega), rd_getD, Int.tmod_eq_emod_of_nonneg h0, ← nI_resid, Int.toNat_natCast, oI_set, fill_set n i (fun j => resid q (tape.getD j 0))]
      rfl
    · have e : resid q (tape.getD i 0) = 0 := by
        rw [List.getD_eq_getElem?_getD, List.getElem?_eq_none (by omega)]; exact resid_zero
      rw [if_neg (by omega), fill_skip (F := fun j => resid q (tape.getD j 0)) e]
      rfl
theorem take_fp (hq : q ≤ 65537) (tape : List Int) (hs : tape.length ≤ 17592186044415) (hu : ∀ c ∈ tape, 0 ≤ c) (n : Nat) (hn : n ≤ 1000000000) : Ev (fun k => field_Take.f k (q : Int) tape (n : Int)) (oI (drawn q tape n), tape.drop n) := by
  have h := take_loop hq tape hs hu n hn n 0 (by omega)
  rw [fill_zero, ← oI_zeros] at h
  refine Ev.congr (fun k => ?_) h
  unfold field_Take.f
  rw [if_pos (by omega), Int.toNat_natCast, if_pos (by omega), Option.bind_some]
  simp
theorem draw_end (tape : List Int) (hs : tape.length ≤ 17592186044415) (x : List Int) (n : Nat) : ((some (([] : List Int) : List Int)).bind fun y243 => (if 0 ≤ (mn (n : Int) (tape.length : Int)) then (if (mn (n : Int) (tape.length : Int)) ≤ (tape.length : Int) then (if y243.length + (tape.drop ((mn (n : Int) (tape.length : Int)) : Int).toNat).length < 17592186044416 then (some (x, (y243 ++ (tape.drop ((mn (n : Int) (tape.length : Int)) : Int).toNat)))) else (none)) else (none)) else (none))) = some (x, tape.drop n) := by
  have hd : tape.drop (mn (n : Int) (tape.length : Int)).toNat = tape.drop n := by
    by_cases h : n ≤ tape.length
    · have : (mn (n : Int) (tape.length : Int)).toNat = n := by unfold mn; split <;> omega
      rw [this]
    · have : (mn (n : Int) (tape.length : Int)).toNat = tape.length := by unfold mn; split <;> omega
      rw [this, List.drop_of_length_le (Nat.le_refl _), List.drop_of_length_le (by omega)]
  have h0 : 0 ≤ mn (n : Int) (tape.length : Int) := by unfold mn; split <;> omega
  have h1 : mn (n : Int) (tape.length : Int) ≤ (tape.length : Int) := by unfold mn; split <;> omega
  rw [Option.bind_some, if_pos h0, if_pos h1, hd, if_pos (by simp; omega)]
  rfl
theorem fill_past {n i : Nat} {F : Nat → Fin q} (h : ∀ j, i ≤ j → F j = 0) : fill n i F = Fld.mk n F := by
  unfold fill Fld.mk
  apply List.map_congr_left
  intro j _
  by_cases e : j < i
  · rw [if_pos e]
  · rw [if_neg e, h j (by omega)]
theorem draw_loop (hq : q ≤ 65537) (tape : List Int) (hs : tape.length ≤ 17592186044415) (hu : ∀ c ∈ tape, 0 ≤ c) (n : Nat) (hn : n ≤ 1000000000) : ∀ (m i : Nat), i + m = n →
    Ev (fun k => juntoref01_Draw.l0 k (q : Int) tape (n : Int) (oI (fill n i fun j => resid q (tape.getD j 0))) (i : Int)) (oI (drawn q tape n), tape.drop n)
  | 0, i, hi => by
    obtain rfl : i = n := by omega
    have hp := q_pos (q := q)
    have e : fill i i (fun j => resid q (tape.getD j 0)) = drawn q tape i := fill_all _ _
    rw [e]
    refine Ev.step (f := fun k => some (oI (drawn q tape i), tape.drop i)) (fun k => ?_) (Ev.now _)
    simp only [juntoref01_Draw.l0]
    rw [if_neg (by omega)]
    exact draw_end tape hs _ i
  | m + 1, i, hi => by
    have hp := q_pos (q := q)
    by_cases h : i < tape.length
    · refine Ev.step (f := fun k => juntoref01_Draw.l0 k (q : Int) tape (n : Int) (oI (fill n (i + 1) fun j => resid q (tape.getD j 0))) ((i + 1 : Nat) : Int)) (fun k => ?_) (draw_loop hq tape hs hu n hn m (i + 1) (by omega))
      conv => lhs; simp only [juntoref01_Draw.l0]
      have h0 : 0 ≤ tape.getD i 0 := by
        rw [List.getD_eq_getElem?_getD, List.getElem?_eq_getElem h]; exact hu _ (List.getElem_mem h)
      rw [if_pos (by omega), w64_small (n := (i : Int) + 1) (by omega) (by omega), if_pos (by omega), if_pos (by omega), if_neg (by omega), if_pos (by rw [oI_length, fill_length]; omega), rd_getD, Int.tmod_eq_emod_of_nonneg h0, ← nI_resid, Int.toNat_natCast, oI_set, fill_set n i (fun j => resid q (tape.getD j 0))]
      rfl
    · have e : fill n i (fun j => resid q (tape.getD j 0)) = drawn q tape n := fill_past fun j hj => by
        rw [List.getD_eq_getElem?_getD, List.getElem?_eq_none (by omega)]; exact resid_zero
      rw [e]
      refine Ev.step (f := fun k => some (oI (drawn q tape n), tape.drop n)) (fun k => ?_) (Ev.now _)
      simp only [juntoref01_Draw.l0]
      rw [if_pos (by omega), if_neg (by omega)]
      exact draw_end tape hs _ n
theorem draw_fp (hq : q ≤ 65537) (tape : List Int) (hs : tape.length ≤ 17592186044415) (hu : ∀ c ∈ tape, 0 ≤ c) (n : Nat) (hn : n ≤ 1000000000) : Ev (fun k => juntoref01_Draw.f k (q : Int) tape (n : Int)) (oI (drawn q tape n), tape.drop n) := by
  have h := draw_loop hq tape hs hu n hn n 0 (by omega)
  rw [fill_zero, ← oI_zeros] at h
  refine Ev.congr (fun k => ?_) h
  unfold juntoref01_Draw.f
  rw [if_pos (by omega), Int.toNat_natCast, if_pos (by omega)]
  rfl
end

end Go.Proofs.Ytjjnfobeeflnhaa.L

/- Small facts about numbers that came in, setups and rows. -/
namespace Go.Proofs.Ytjjnfobeeflnhaa.L
open Go.RowKit Go.Proofs.YtjjnfobeeflnhaaW.PrintWords Go.Proofs.Ytjjnfobeeflnhaa.J

theorem u64_wf {n : Int} (h : (Lit.int .u64 n).wf = true) : 0 ≤ n ∧ n < 18446744073709551616 := by
  simp [Lit.wf, IntKind.min, IntKind.max, IntKind.signed, IntKind.bits] at h
  omega

theorem setupV_two {p n t : Int} (h : setupV p n t ≠ 0) : setupV p n t = 2 := by
  unfold setupV at h ⊢
  split
  · rename_i h'
    rw [if_pos h'] at h
    exact absurd rfl h
  · rfl

theorem belowV_zero {p : Int} {l : List Int} (h : belowV p l = 0) : ∀ x ∈ l, x < p := by
  unfold belowV at h
  split at h
  · assumption
  · cases h

theorem i64_wf {n : Int} (h : (Lit.int .i64 n).wf = true) : -9223372036854775808 ≤ n ∧ n < 9223372036854775808 := by
  simp [Lit.wf, IntKind.min, IntKind.max, IntKind.signed, IntKind.bits] at h
  omega
/-- A setup that is one: its numbers. -/
theorem setupV_small {p n t : Int} (h : setupV p n t = 0) : 3 ≤ p ∧ p ≤ 65537 ∧ 1 ≤ n ∧ n ≤ 13 ∧ 0 ≤ t ∧ t ≤ 3 ∧ 4 * t + 1 ≤ n ∧ n < p := by
  obtain ⟨hp, h1, h2, h4, h5, h6⟩ := setupV_ok h
  have hp2 := (isP_iff p).1 hp
  omega

end Go.Proofs.Ytjjnfobeeflnhaa.L

/- What Go functions of the program compute, as plain Lean functions, and that the machine comes to just these answers (written by a program for this seat). -/
namespace Go.Proofs.Ytjjnfobeeflnhaa.J
open Go.RowKit Go.Proofs.YtjjnfobeeflnhaaW.PrintWords Go.Proofs.YtjjnfobeeflnhaaW.PrintLast Go.Proofs.YtjjnfobeeflnhaaW.PrintMore
attribute [local go_sem] max2_int min2_int max_two min_two max_three min_three max_four min_four   -- for this text's walks alone
set_option linter.unusedVariables false
set_option linter.unusedSimpArgs false

/-! ### share_Make: function 68 -/
def share_Make.f (k : Nat) (a0_0 : Int) (a0_1 : Int) (a0_2 : Int) (a1 : Int) (a2 : Int) (l3 : List Int) : Option (List Int × List Int × Int) := (share_Setup.f k a0_0 a0_1 a0_2).bind fun t517 => (if t517 = 0 then (if a1 ≥ a0_0 then (some (([] : List Int), ([] : List Int), 2)) else (if a2 < 0 then (some (([] : List Int), ([] : List Int), 2)) else (if a2 ≥ a0_1 then (some (([] : List Int), ([] : List Int), 2)) else ((share_Draw.f k a0_0 a1 a2 l3).bind fun bt518 => (some (bt518.1, bt518.2, 0)))))) else (some (([] : List Int), ([] : List Int), t517)))
theorem share_Make.mono : ∀ a0 a1 a2 a3 a4 a5 k, LeO (share_Make.f k a0 a1 a2 a3 a4 a5) (share_Make.f (k + 1) a0 a1 a2 a3 a4 a5) := by
  intro a0 a1 a2 a3 a4 a5 k
  unfold share_Make.f
  repeat' first
      | (with_reducible exact share_Draw.mono _ _ _ _ _)
      | (with_reducible exact share_Setup.mono _ _ _ _)
      | (with_reducible exact LeO.refl _)
      | (with_reducible exact LeO.none _)
      | (with_reducible refine LeO.ite ?_ ?_)
      | (with_reducible refine LeO.bind ?_ (fun _ => ?_))
      | exact share_Draw.mono _ _ _ _ _
      | exact share_Setup.mono _ _ _ _
      | exact LeO.none _
      | refine LeO.ite ?_ ?_
      | refine LeO.bind ?_ (fun _ => ?_)
set_option maxHeartbeats 8000000 in
set_option maxRecDepth 100000 in
theorem share_Make.calls (k : Nat) (a0_0 : Int) (a0_1 : Int) (a0_2 : Int) (a1 : Int) (a2 : Int) (A3 : Option Addr) (c3 : Nat) (l3 : List Int) (r1 : List Int) (r2 : List Int) (r3 : Int) (w : World) (hr3 : Kd.C (Kd.int .u64) w A3 l3.length l3) (hc3 : l3.length ≤ c3) (h : share_Make.f k a0_0 a0_1 a0_2 a1 a2 l3 = some (r1, r2, r3)) :
    Calls Try.prog 68 #[.agg #[.int .u64 a0_0, .int .i64 a0_1, .int .i64 a0_2], .int .u64 a1, .int .i64 a2, .slice A3 l3.length c3] w fun e w' => ∃ v0_ v1_ : Value, e = .returned (.tuple #[v0_, v1_, .int .i64 r3]) ∧ Kd.R (Kd.int .u64) 22 w' w.heap.size (fun k_ => some k_ ≠ (v1_ : Value).ownBlock) v0_ r1 ∧ Kd.R (Kd.int .u64) 22 w' w.heap.size (fun k_ => some k_ ≠ (v0_ : Value).ownBlock) v1_ r2 ∧ Below w.heap.size w w' := by
  have hu24 := Try.underlying24
  have HR3 := Aside0.mk hr3
  have HC3 := Aside0.mk hc3
  clear hr3 hc3
  have HB := Aside0.mk (Below.refl w.heap.size w)
  have H : ((share_Setup.f k a0_0 a0_1 a0_2).bind fun t517 => (if t517 = 0 then (if a1 ≥ a0_0 then (some (([] : List Int), ([] : List Int), 2)) else (if a2 < 0 then (some (([] : List Int), ([] : List Int), 2)) else (if a2 ≥ a0_1 then (some (([] : List Int), ([] : List Int), 2)) else ((share_Draw.f k a0_0 a1 a2 l3).bind fun bt518 => (some (bt518.1, bt518.2, 0)))))) else (some (([] : List Int), ([] : List Int), t517)))) = some (r1, r2, r3) := h
  clear h
  replace H := Option.bind_eq_some_iff.mp H
  obtain ⟨t517, A50, H⟩ := H
  replace H : (if t517 = 0 then (if a1 ≥ a0_0 then (some (([] : List Int), ([] : List Int), 2)) else (if a2 < 0 then (some (([] : List Int), ([] : List Int), 2)) else (if a2 ≥ a0_1 then (some (([] : List Int), ([] : List Int), 2)) else ((share_Draw.f k a0_0 a1 a2 l3).bind fun bt518 => (some (bt518.1, bt518.2, 0)))))) else (some (([] : List Int), ([] : List Int), t517))) = some (r1, r2, r3) := H
  have A5 := Aside0.mk A50
  clear A50
  by_cases c6 : t517 = 0
  · rw [if_pos c6] at H
    have c6b0 : (t517 == 0) = true := beq_iff_eq.mpr c6
    have c6b1 : (t517 != 0) = false := bne_eq_false_iff_eq.mpr c6
    clear c6
    by_cases c7 : a1 ≥ a0_0
    · rw [if_pos c7] at H
      have c7b0 : decide (a0_0 ≤ a1) = true := decide_eq_true c7
      clear c7
      simp only [Option.some.injEq, Prod.mk.injEq] at H
      obtain ⟨rfl, rfl, rfl⟩ := H
      go_enter Try.func68, Try.ntmps68
      go_wp2_with (first | ((with_reducible refine gate_dst (N := 4) rfl ?_); refine box_event ?hg (N := 4) ?hd (cs := #[.int .u64 a0_0, .int .i64 a0_1, .int .i64 a0_2]) (t := 24) ?hr ?_; (case hd => rfl); (case hg => rfl); (case hr => first | (go_simp; done) | (go_simp; rfl)); intro gb516 hg w8 hbox hb; have n0_ := Aside0.mk (below_step (by repeat (first | (with_reducible first | exact HB.out | apply below_alloc | apply pw_below_drewN | apply below_drew1) | exact HB.out)) hb); have n1_ := Aside0.mk (hbox); have n2_ := Aside0.mk ((by rw [hg]; exact (below_size (by repeat (first | (with_reducible first | exact HB.out | apply below_alloc | apply pw_below_drewN | apply below_drew1) | exact HB.out))) : w.heap.size ≤ gb516)); have n3_ := Aside0.mk ((by rw [hg]; exact (below_size (by repeat (first | (with_reducible first | exact HB.out | apply below_alloc | apply pw_below_drewN | apply below_drew1) | exact HB.out))) : w.heap.size ≤ gb516)); clear HB; have HB := n0_; have BK516 := n1_; have GW516 := n2_; have GE516 := n3_; clear n0_ n1_ n2_ n3_; clear hb hbox hg; have hcz9_0 : w8.cell? ⟨gb516, 0, none⟩ = some (.int .u64 a0_0) := (blk_cell BK516.out 0).trans rfl; have hcz9_1 : w8.cell? ⟨gb516, 1, none⟩ = some (.int .i64 a0_1) := (blk_cell BK516.out 1).trans rfl; have hcz9_2 : w8.cell? ⟨gb516, 2, none⟩ = some (.int .i64 a0_2) := (blk_cell BK516.out 2).trans rfl; have hfz9_0 := blk_frozen BK516.out 0; have hfz9_1 := blk_frozen BK516.out 1; have hfz9_2 := blk_frozen BK516.out 2) | ((with_reducible refine gate_callee (f := 64) rfl ?_); refine goesL_ (some 15) rfl rfl Try.func64 (by kernel_rfl) rfl #[.agg #[.int .u64 a0_0, .int .i64 a0_1, .int .i64 a0_2]] rfl (by (try simp only [List.map_toArray, List.map_cons, List.map_nil]); first | done | rfl | (simp only [List.length_drop, List.length_take]; rfl)) ?_; (with_reducible refine (share_Setup.calls k a0_0 a0_1 a0_2 t517 _ A5.out).mono ?_); rintro e w10 ⟨rfl, hb⟩; refine ⟨_, rfl, ?_⟩; have n0_ := Aside0.mk (blk_below (g := gb516) (o := .cells #[.int .u64 a0_0, .int .i64 a0_1, .int .i64 a0_2] 24 (0, 0)) (by (with_reducible repeat (first | refine blk_drewN ?_ _ | refine blk_drew ?_ | refine blk_alloc ?_ _)); exact BK516.out) hb); have n1_ := Aside0.mk (below_step (by repeat (first | (with_reducible first | exact HB.out | apply below_alloc | apply pw_below_drewN | apply below_drew1 | refine below_set ?_ GE516.out) | exact HB.out)) hb); clear BK516; clear HB; have BK516 := n0_; have HB := n1_; clear n0_ n1_; (try clear hb); (try clear hb2); (try clear hk); (try clear hi); have hcz11_0 : w10.cell? ⟨gb516, 0, none⟩ = some (.int .u64 a0_0) := (blk_cell BK516.out 0).trans rfl; have hcz11_1 : w10.cell? ⟨gb516, 1, none⟩ = some (.int .i64 a0_1) := (blk_cell BK516.out 1).trans rfl; have hcz11_2 : w10.cell? ⟨gb516, 2, none⟩ = some (.int .i64 a0_2) := (blk_cell BK516.out 2).trans rfl; have hfz11_0 := blk_frozen BK516.out 0; have hfz11_1 := blk_frozen BK516.out 1; have hfz11_2 := blk_frozen BK516.out 2))
      go_ret3
      exact ⟨_, _, by first | rfl | (simp [errW_none, errW_some] <;> rfl) | (simp [*, errW_none, errW_some] <;> rfl), by first | exact Kd.R_nil _ _ _ _ _ | exact Kd.N_nil _ _ _ _ _ | exact Kd.V_nil _ _ _ _ _ | exact Kd.Q_nil _ _ _ _ _ | exact Kd.S_nil _ _ _ _ _, by first | exact Kd.R_nil _ _ _ _ _ | exact Kd.N_nil _ _ _ _ _ | exact Kd.V_nil _ _ _ _ _ | exact Kd.Q_nil _ _ _ _ _ | exact Kd.S_nil _ _ _ _ _, by repeat (first | (with_reducible first | exact HB.out | apply below_alloc | apply pw_below_drewN | apply below_drew1 | refine below_set ?_ GE516.out) | exact HB.out)⟩
    · rw [if_neg c7] at H
      have c7b0 : decide (a0_0 ≤ a1) = false := decide_eq_false c7
      clear c7
      by_cases c12 : a2 < 0
      · rw [if_pos c12] at H
        have c12b0 : decide (a2 < 0) = true := decide_eq_true c12
        clear c12
        simp only [Option.some.injEq, Prod.mk.injEq] at H
        obtain ⟨rfl, rfl, rfl⟩ := H
        go_enter Try.func68, Try.ntmps68
        go_wp2_with (first | ((with_reducible refine gate_dst (N := 4) rfl ?_); refine box_event ?hg (N := 4) ?hd (cs := #[.int .u64 a0_0, .int .i64 a0_1, .int .i64 a0_2]) (t := 24) ?hr ?_; (case hd => rfl); (case hg => rfl); (case hr => first | (go_simp; done) | (go_simp; rfl)); intro gb516 hg w13 hbox hb; have n0_ := Aside0.mk (below_step (by repeat (first | (with_reducible first | exact HB.out | apply below_alloc | apply pw_below_drewN | apply below_drew1) | exact HB.out)) hb); have n1_ := Aside0.mk (hbox); have n2_ := Aside0.mk ((by rw [hg]; exact (below_size (by repeat (first | (with_reducible first | exact HB.out | apply below_alloc | apply pw_below_drewN | apply below_drew1) | exact HB.out))) : w.heap.size ≤ gb516)); have n3_ := Aside0.mk ((by rw [hg]; exact (below_size (by repeat (first | (with_reducible first | exact HB.out | apply below_alloc | apply pw_below_drewN | apply below_drew1) | exact HB.out))) : w.heap.size ≤ gb516)); clear HB; have HB := n0_; have BK516 := n1_; have GW516 := n2_; have GE516 := n3_; clear n0_ n1_ n2_ n3_; clear hb hbox hg; have hcz14_0 : w13.cell? ⟨gb516, 0, none⟩ = some (.int .u64 a0_0) := (blk_cell BK516.out 0).trans rfl; have hcz14_1 : w13.cell? ⟨gb516, 1, none⟩ = some (.int .i64 a0_1) := (blk_cell BK516.out 1).trans rfl; have hcz14_2 : w13.cell? ⟨gb516, 2, none⟩ = some (.int .i64 a0_2) := (blk_cell BK516.out 2).trans rfl; have hfz14_0 := blk_frozen BK516.out 0; have hfz14_1 := blk_frozen BK516.out 1; have hfz14_2 := blk_frozen BK516.out 2) | ((with_reducible refine gate_callee (f := 64) rfl ?_); refine goesL_ (some 15) rfl rfl Try.func64 (by kernel_rfl) rfl #[.agg #[.int .u64 a0_0, .int .i64 a0_1, .int .i64 a0_2]] rfl (by (try simp only [List.map_toArray, List.map_cons, List.map_nil]); first | done | rfl | (simp only [List.length_drop, List.length_take]; rfl)) ?_; (with_reducible refine (share_Setup.calls k a0_0 a0_1 a0_2 t517 _ A5.out).mono ?_); rintro e w15 ⟨rfl, hb⟩; refine ⟨_, rfl, ?_⟩; have n0_ := Aside0.mk (blk_below (g := gb516) (o := .cells #[.int .u64 a0_0, .int .i64 a0_1, .int .i64 a0_2] 24 (0, 0)) (by (with_reducible repeat (first | refine blk_drewN ?_ _ | refine blk_drew ?_ | refine blk_alloc ?_ _)); exact BK516.out) hb); have n1_ := Aside0.mk (below_step (by repeat (first | (with_reducible first | exact HB.out | apply below_alloc | apply pw_below_drewN | apply below_drew1 | refine below_set ?_ GE516.out) | exact HB.out)) hb); clear BK516; clear HB; have BK516 := n0_; have HB := n1_; clear n0_ n1_; (try clear hb); (try clear hb2); (try clear hk); (try clear hi); have hcz16_0 : w15.cell? ⟨gb516, 0, none⟩ = some (.int .u64 a0_0) := (blk_cell BK516.out 0).trans rfl; have hcz16_1 : w15.cell? ⟨gb516, 1, none⟩ = some (.int .i64 a0_1) := (blk_cell BK516.out 1).trans rfl; have hcz16_2 : w15.cell? ⟨gb516, 2, none⟩ = some (.int .i64 a0_2) := (blk_cell BK516.out 2).trans rfl; have hfz16_0 := blk_frozen BK516.out 0; have hfz16_1 := blk_frozen BK516.out 1; have hfz16_2 := blk_frozen BK516.out 2))
        go_ret3
        exact ⟨_, _, by first | rfl | (simp [errW_none, errW_some] <;> rfl) | (simp [*, errW_none, errW_some] <;> rfl), by first | exact Kd.R_nil _ _ _ _ _ | exact Kd.N_nil _ _ _ _ _ | exact Kd.V_nil _ _ _ _ _ | exact Kd.Q_nil _ _ _ _ _ | exact Kd.S_nil _ _ _ _ _, by first | exact Kd.R_nil _ _ _ _ _ | exact Kd.N_nil _ _ _ _ _ | exact Kd.V_nil _ _ _ _ _ | exact Kd.Q_nil _ _ _ _ _ | exact Kd.S_nil _ _ _ _ _, by repeat (first | (with_reducible first | exact HB.out | apply below_alloc | apply pw_below_drewN | apply below_drew1 | refine below_set ?_ GE516.out) | exact HB.out)⟩
      · rw [if_neg c12] at H
        have c12b0 : decide (a2 < 0) = false := decide_eq_false c12
        clear c12
        by_cases c17 : a2 ≥ a0_1
        · rw [if_pos c17] at H
          have c17b0 : decide (a0_1 ≤ a2) = true := decide_eq_true c17
          clear c17
          simp only [Option.some.injEq, Prod.mk.injEq] at H
          obtain ⟨rfl, rfl, rfl⟩ := H
          go_enter Try.func68, Try.ntmps68
          go_wp2_with (first | ((with_reducible refine gate_dst (N := 4) rfl ?_); refine box_event ?hg (N := 4) ?hd (cs := #[.int .u64 a0_0, .int .i64 a0_1, .int .i64 a0_2]) (t := 24) ?hr ?_; (case hd => rfl); (case hg => rfl); (case hr => first | (go_simp; done) | (go_simp; rfl)); intro gb516 hg w18 hbox hb; have n0_ := Aside0.mk (below_step (by repeat (first | (with_reducible first | exact HB.out | apply below_alloc | apply pw_below_drewN | apply below_drew1) | exact HB.out)) hb); have n1_ := Aside0.mk (hbox); have n2_ := Aside0.mk ((by rw [hg]; exact (below_size (by repeat (first | (with_reducible first | exact HB.out | apply below_alloc | apply pw_below_drewN | apply below_drew1) | exact HB.out))) : w.heap.size ≤ gb516)); have n3_ := Aside0.mk ((by rw [hg]; exact (below_size (by repeat (first | (with_reducible first | exact HB.out | apply below_alloc | apply pw_below_drewN | apply below_drew1) | exact HB.out))) : w.heap.size ≤ gb516)); clear HB; have HB := n0_; have BK516 := n1_; have GW516 := n2_; have GE516 := n3_; clear n0_ n1_ n2_ n3_; clear hb hbox hg; have hcz19_0 : w18.cell? ⟨gb516, 0, none⟩ = some (.int .u64 a0_0) := (blk_cell BK516.out 0).trans rfl; have hcz19_1 : w18.cell? ⟨gb516, 1, none⟩ = some (.int .i64 a0_1) := (blk_cell BK516.out 1).trans rfl; have hcz19_2 : w18.cell? ⟨gb516, 2, none⟩ = some (.int .i64 a0_2) := (blk_cell BK516.out 2).trans rfl; have hfz19_0 := blk_frozen BK516.out 0; have hfz19_1 := blk_frozen BK516.out 1; have hfz19_2 := blk_frozen BK516.out 2) | ((with_reducible refine gate_callee (f := 64) rfl ?_); refine goesL_ (some 15) rfl rfl Try.func64 (by kernel_rfl) rfl #[.agg #[.int .u64 a0_0, .int .i64 a0_1, .int .i64 a0_2]] rfl (by (try simp only [List.map_toArray, List.map_cons, List.map_nil]); first | done | rfl | (simp only [List.length_drop, List.length_take]; rfl)) ?_; (with_reducible refine (share_Setup.calls k a0_0 a0_1 a0_2 t517 _ A5.out).mono ?_); rintro e w20 ⟨rfl, hb⟩; refine ⟨_, rfl, ?_⟩; have n0_ := Aside0.mk (blk_below (g := gb516) (o := .cells #[.int .u64 a0_0, .int .i64 a0_1, .int .i64 a0_2] 24 (0, 0)) (by (with_reducible repeat (first | refine blk_drewN ?_ _ | refine blk_drew ?_ | refine blk_alloc ?_ _)); exact BK516.out) hb); have n1_ := Aside0.mk (below_step (by repeat (first | (with_reducible first | exact HB.out | apply below_alloc | apply pw_below_drewN | apply below_drew1 | refine below_set ?_ GE516.out) | exact HB.out)) hb); clear BK516; clear HB; have BK516 := n0_; have HB := n1_; clear n0_ n1_; (try clear hb); (try clear hb2); (try clear hk); (try clear hi); have hcz21_0 : w20.cell? ⟨gb516, 0, none⟩ = some (.int .u64 a0_0) := (blk_cell BK516.out 0).trans rfl; have hcz21_1 : w20.cell? ⟨gb516, 1, none⟩ = some (.int .i64 a0_1) := (blk_cell BK516.out 1).trans rfl; have hcz21_2 : w20.cell? ⟨gb516, 2, none⟩ = some (.int .i64 a0_2) := (blk_cell BK516.out 2).trans rfl; have hfz21_0 := blk_frozen BK516.out 0; have hfz21_1 := blk_frozen BK516.out 1; have hfz21_2 := blk_frozen BK516.out 2))
          go_ret3
          exact ⟨_, _, by first | rfl | (simp [errW_none, errW_some] <;> rfl) | (simp [*, errW_none, errW_some] <;> rfl), by first | exact Kd.R_nil _ _ _ _ _ | exact Kd.N_nil _ _ _ _ _ | exact Kd.V_nil _ _ _ _ _ | exact Kd.Q_nil _ _ _ _ _ | exact Kd.S_nil _ _ _ _ _, by first | exact Kd.R_nil _ _ _ _ _ | exact Kd.N_nil _ _ _ _ _ | exact Kd.V_nil _ _ _ _ _ | exact Kd.Q_nil _ _ _ _ _ | exact Kd.S_nil _ _ _ _ _, by repeat (first | (with_reducible first | exact HB.out | apply below_alloc | apply pw_below_drewN | apply below_drew1 | refine below_set ?_ GE516.out) | exact HB.out)⟩
        · rw [if_neg c17] at H
          have c17b0 : decide (a0_1 ≤ a2) = false := decide_eq_false c17
          clear c17
          replace H := Option.bind_eq_some_iff.mp H
          obtain ⟨⟨t518, t519⟩, A220, H⟩ := H
          replace H : (some (t518, t519, 0)) = some (r1, r2, r3) := H
          have A22 := Aside0.mk A220
          clear A220
          simp only [Option.some.injEq, Prod.mk.injEq] at H
          obtain ⟨rfl, rfl, rfl⟩ := H
          go_enter Try.func68, Try.ntmps68
          go_wp2_with (first | ((with_reducible refine gate_dst (N := 4) rfl ?_); refine box_event ?hg (N := 4) ?hd (cs := #[.int .u64 a0_0, .int .i64 a0_1, .int .i64 a0_2]) (t := 24) ?hr ?_; (case hd => rfl); (case hg => rfl); (case hr => first | (go_simp; done) | (go_simp; rfl)); intro gb516 hg w23 hbox hb; have n0_ := Aside0.mk (below_step (by repeat (first | (with_reducible first | exact HB.out | apply below_alloc | apply pw_below_drewN | apply below_drew1) | exact HB.out)) hb); have n1_ := Aside0.mk (hbox); have n2_ := Aside0.mk ((by rw [hg]; exact (below_size (by repeat (first | (with_reducible first | exact HB.out | apply below_alloc | apply pw_below_drewN | apply below_drew1) | exact HB.out))) : w.heap.size ≤ gb516)); have n3_ := Aside0.mk ((by rw [hg]; exact (below_size (by repeat (first | (with_reducible first | exact HB.out | apply below_alloc | apply pw_below_drewN | apply below_drew1) | exact HB.out))) : w.heap.size ≤ gb516)); clear HB; have HB := n0_; have BK516 := n1_; have GW516 := n2_; have GE516 := n3_; clear n0_ n1_ n2_ n3_; clear hb hbox hg; have hcz24_0 : w23.cell? ⟨gb516, 0, none⟩ = some (.int .u64 a0_0) := (blk_cell BK516.out 0).trans rfl; have hcz24_1 : w23.cell? ⟨gb516, 1, none⟩ = some (.int .i64 a0_1) := (blk_cell BK516.out 1).trans rfl; have hcz24_2 : w23.cell? ⟨gb516, 2, none⟩ = some (.int .i64 a0_2) := (blk_cell BK516.out 2).trans rfl; have hfz24_0 := blk_frozen BK516.out 0; have hfz24_1 := blk_frozen BK516.out 1; have hfz24_2 := blk_frozen BK516.out 2) | ((with_reducible refine gate_callee (f := 64) rfl ?_); refine goesL_ (some 15) rfl rfl Try.func64 (by kernel_rfl) rfl #[.agg #[.int .u64 a0_0, .int .i64 a0_1, .int .i64 a0_2]] rfl (by (try simp only [List.map_toArray, List.map_cons, List.map_nil]); first | done | rfl | (simp only [List.length_drop, List.length_take]; rfl)) ?_; (with_reducible refine (share_Setup.calls k a0_0 a0_1 a0_2 t517 _ A5.out).mono ?_); rintro e w25 ⟨rfl, hb⟩; refine ⟨_, rfl, ?_⟩; have n0_ := Aside0.mk (blk_below (g := gb516) (o := .cells #[.int .u64 a0_0, .int .i64 a0_1, .int .i64 a0_2] 24 (0, 0)) (by (with_reducible repeat (first | refine blk_drewN ?_ _ | refine blk_drew ?_ | refine blk_alloc ?_ _)); exact BK516.out) hb); have n1_ := Aside0.mk (below_step (by repeat (first | (with_reducible first | exact HB.out | apply below_alloc | apply pw_below_drewN | apply below_drew1 | refine below_set ?_ GE516.out) | exact HB.out)) hb); clear BK516; clear HB; have BK516 := n0_; have HB := n1_; clear n0_ n1_; (try clear hb); (try clear hb2); (try clear hk); (try clear hi); have hcz26_0 : w25.cell? ⟨gb516, 0, none⟩ = some (.int .u64 a0_0) := (blk_cell BK516.out 0).trans rfl; have hcz26_1 : w25.cell? ⟨gb516, 1, none⟩ = some (.int .i64 a0_1) := (blk_cell BK516.out 1).trans rfl; have hcz26_2 : w25.cell? ⟨gb516, 2, none⟩ = some (.int .i64 a0_2) := (blk_cell BK516.out 2).trans rfl; have hfz26_0 := blk_frozen BK516.out 0; have hfz26_1 := blk_frozen BK516.out 1; have hfz26_2 := blk_frozen BK516.out 2) | ((with_reducible refine gate_callee (f := 125) rfl ?_); refine goesL_ (some 39) rfl rfl Try.func125 (by kernel_rfl) rfl #[.int .u64 a0_0, .int .u64 a1, .int .i64 a2, .slice A3 l3.length c3] rfl (by (try simp only [List.map_toArray, List.map_cons, List.map_nil]); first | done | rfl | (simp only [List.length_drop, List.length_take]; rfl)) ?_; (with_reducible refine (share_Draw.calls k a0_0 a1 a2 _ _ l3 t518 t519 _ ?side1 ?side2 A22.out).mono ?_); (case side1 => repeat (first | exact (Kd.C_below HR3.out HB.out) | (with_reducible refine Kd.C_alloc ?_ _) | (with_reducible refine Kd.C_drewN ?_ _) | (with_reducible refine Kd.C_drew ?_))); (case side2 => exact HC3.out); rintro e w27 ⟨v520, v522, rfl, ho0, ho1, hb⟩; refine ⟨_, rfl, ?_⟩; have n0_ := Aside0.mk (Kd.R_lower ho0 (below_size (by repeat (first | (with_reducible first | exact HB.out | apply below_alloc | apply pw_below_drewN | apply below_drew1 | refine below_set ?_ GE516.out) | exact HB.out)))); have n1_ := Aside0.mk (Kd.R_lower ho1 (below_size (by repeat (first | (with_reducible first | exact HB.out | apply below_alloc | apply pw_below_drewN | apply below_drew1 | refine below_set ?_ GE516.out) | exact HB.out)))); have n2_ := Aside0.mk (blk_below (g := gb516) (o := .cells #[.int .u64 a0_0, .int .i64 a0_1, .int .i64 a0_2] 24 (0, 0)) (by (with_reducible repeat (first | refine blk_drewN ?_ _ | refine blk_drew ?_ | refine blk_alloc ?_ _)); exact BK516.out) hb); have n3_ := Aside0.mk (below_step (by repeat (first | (with_reducible first | exact HB.out | apply below_alloc | apply pw_below_drewN | apply below_drew1 | refine below_set ?_ GE516.out) | exact HB.out)) hb); clear BK516; clear HB; have HO521 := n0_; have HO523 := n1_; have BK516 := n2_; have HB := n3_; clear n0_ n1_ n2_ n3_; (try clear hb); (try clear hb2); (try clear hk); (try clear hi); (try clear ho0); (try clear ho1)))
          go_ret3
          exact ⟨_, _, by first | rfl | (simp [errW_none, errW_some] <;> rfl) | (simp [*, errW_none, errW_some] <;> rfl), by (with_reducible repeat (first | apply Kd.R_alloc | apply Kd.R_drewN | apply Kd.R_drew)); exact HO521.out, by (with_reducible repeat (first | apply Kd.R_alloc | apply Kd.R_drewN | apply Kd.R_drew)); exact HO523.out, by repeat (first | (with_reducible first | exact HB.out | apply below_alloc | apply pw_below_drewN | apply below_drew1 | refine below_set ?_ GE516.out) | exact HB.out)⟩
  · rw [if_neg c6] at H
    have c6b0 : (t517 == 0) = false := beq_eq_false_iff_ne.mpr c6
    have c6b1 : (t517 != 0) = true := bne_iff_ne.mpr c6
    simp only [Option.some.injEq, Prod.mk.injEq] at H
    obtain ⟨rfl, rfl, rfl⟩ := H
    go_enter Try.func68, Try.ntmps68
    go_wp2_with (first | ((with_reducible refine gate_dst (N := 4) rfl ?_); refine box_event ?hg (N := 4) ?hd (cs := #[.int .u64 a0_0, .int .i64 a0_1, .int .i64 a0_2]) (t := 24) ?hr ?_; (case hd => rfl); (case hg => rfl); (case hr => first | (go_simp; done) | (go_simp; rfl)); intro gb516 hg w28 hbox hb; have n0_ := Aside0.mk (below_step (by repeat (first | (with_reducible first | exact HB.out | apply below_alloc | apply pw_below_drewN | apply below_drew1) | exact HB.out)) hb); have n1_ := Aside0.mk (hbox); have n2_ := Aside0.mk ((by rw [hg]; exact (below_size (by repeat (first | (with_reducible first | exact HB.out | apply below_alloc | apply pw_below_drewN | apply below_drew1) | exact HB.out))) : w.heap.size ≤ gb516)); have n3_ := Aside0.mk ((by rw [hg]; exact (below_size (by repeat (first | (with_reducible first | exact HB.out | apply below_alloc | apply pw_below_drewN | apply below_drew1) | exact HB.out))) : w.heap.size ≤ gb516)); clear HB; have HB := n0_; have BK516 := n1_; have GW516 := n2_; have GE516 := n3_; clear n0_ n1_ n2_ n3_; clear hb hbox hg; have hcz29_0 : w28.cell? ⟨gb516, 0, none⟩ = some (.int .u64 a0_0) := (blk_cell BK516.out 0).trans rfl; have hcz29_1 : w28.cell? ⟨gb516, 1, none⟩ = some (.int .i64 a0_1) := (blk_cell BK516.out 1).trans rfl; have hcz29_2 : w28.cell? ⟨gb516, 2, none⟩ = some (.int .i64 a0_2) := (blk_cell BK516.out 2).trans rfl; have hfz29_0 := blk_frozen BK516.out 0; have hfz29_1 := blk_frozen BK516.out 1; have hfz29_2 := blk_frozen BK516.out 2) | ((with_reducible refine gate_callee (f := 64) rfl ?_); refine goesL_ (some 15) rfl rfl Try.func64 (by kernel_rfl) rfl #[.agg #[.int .u64 a0_0, .int .i64 a0_1, .int .i64 a0_2]] rfl (by (try simp only [List.map_toArray, List.map_cons, List.map_nil]); first | done | rfl | (simp only [List.length_drop, List.length_take]; rfl)) ?_; (with_reducible refine (share_Setup.calls k a0_0 a0_1 a0_2 t517 _ A5.out).mono ?_); rintro e w30 ⟨rfl, hb⟩; refine ⟨_, rfl, ?_⟩; have n0_ := Aside0.mk (blk_below (g := gb516) (o := .cells #[.int .u64 a0_0, .int .i64 a0_1, .int .i64 a0_2] 24 (0, 0)) (by (with_reducible repeat (first | refine blk_drewN ?_ _ | refine blk_drew ?_ | refine blk_alloc ?_ _)); exact BK516.out) hb); have n1_ := Aside0.mk (below_step (by repeat (first | (with_reducible first | exact HB.out | apply below_alloc | apply pw_below_drewN | apply below_drew1 | refine below_set ?_ GE516.out) | exact HB.out)) hb); clear BK516; clear HB; have BK516 := n0_; have HB := n1_; clear n0_ n1_; (try clear hb); (try clear hb2); (try clear hk); (try clear hi)))
    go_ret3
    exact ⟨_, _, by first | rfl | (simp [errW_none, errW_some] <;> rfl) | (simp [*, errW_none, errW_some] <;> rfl), by first | exact Kd.R_nil _ _ _ _ _ | exact Kd.N_nil _ _ _ _ _ | exact Kd.V_nil _ _ _ _ _ | exact Kd.Q_nil _ _ _ _ _ | exact Kd.S_nil _ _ _ _ _, by first | exact Kd.R_nil _ _ _ _ _ | exact Kd.N_nil _ _ _ _ _ | exact Kd.V_nil _ _ _ _ _ | exact Kd.Q_nil _ _ _ _ _ | exact Kd.S_nil _ _ _ _ _, by repeat (first | (with_reducible first | exact HB.out | apply below_alloc | apply pw_below_drewN | apply below_drew1 | refine below_set ?_ GE516.out) | exact HB.out)⟩

end Go.Proofs.Ytjjnfobeeflnhaa.J

/- What Go functions of the program compute, as plain Lean functions, and that the machine comes to just these answers (written by a program for this seat). -/
namespace Go.Proofs.Ytjjnfobeeflnhaa.J
open Go.RowKit Go.Proofs.YtjjnfobeeflnhaaW.PrintWords Go.Proofs.YtjjnfobeeflnhaaW.PrintLast Go.Proofs.YtjjnfobeeflnhaaW.PrintMore
attribute [local go_sem] max2_int min2_int max_two min_two max_three min_three max_four min_four   -- for this text's walks alone
set_option linter.unusedVariables false
set_option linter.unusedSimpArgs false

/-! ### juntoref04_Make: function 70 -/
def juntoref04_Make.f (k : Nat) (a0_0 : Int) (a0_1 : Int) (a0_2 : Int) (a1 : Int) (a2 : Int) (l3 : List Int) : Option (List Int × List Int) := (juntoref01_Draw.f k a0_0 l3 a2).bind fun bt643 => ((some (([a1] : List Int) : List Int)).bind fun y649 => (if y649.length + bt643.1.length < 17592186044416 then ((juntoref02_Trim.f k (y649 ++ bt643.1)).bind fun t655 => (some (t655, bt643.2))) else (none)))
theorem juntoref04_Make.mono : ∀ a0 a1 a2 a3 a4 a5 k, LeO (juntoref04_Make.f k a0 a1 a2 a3 a4 a5) (juntoref04_Make.f (k + 1) a0 a1 a2 a3 a4 a5) := by
  intro a0 a1 a2 a3 a4 a5 k
  unfold juntoref04_Make.f
  repeat' first
      | (with_reducible exact juntoref01_Draw.mono _ _ _ _)
      | (with_reducible exact juntoref02_Trim.mono _ _)
      | (with_reducible exact LeO.refl _)
      | (with_reducible exact LeO.none _)
      | (with_reducible refine LeO.ite ?_ ?_)
      | (with_reducible refine LeO.bind ?_ (fun _ => ?_))
      | exact juntoref01_Draw.mono _ _ _ _
      | exact juntoref02_Trim.mono _ _
      | exact LeO.none _
      | refine LeO.ite ?_ ?_
      | refine LeO.bind ?_ (fun _ => ?_)
set_option maxHeartbeats 8000000 in
set_option maxRecDepth 100000 in
theorem juntoref04_Make.calls (k : Nat) (a0_0 : Int) (a0_1 : Int) (a0_2 : Int) (a1 : Int) (a2 : Int) (A3 : Option Addr) (c3 : Nat) (l3 : List Int) (r1 : List Int) (r2 : List Int) (w : World) (hr3 : Kd.C (Kd.int .u64) w A3 l3.length l3) (hc3 : l3.length ≤ c3) (h : juntoref04_Make.f k a0_0 a0_1 a0_2 a1 a2 l3 = some (r1, r2)) :
    Calls Try.prog 70 #[.agg #[.int .u64 a0_0, .int .i64 a0_1, .int .i64 a0_2], .int .u64 a1, .int .i64 a2, .slice A3 l3.length c3] w fun e w' => ∃ v0_ v1_ : Value, e = .returned (.tuple #[v0_, v1_]) ∧ Kd.R (Kd.int .u64) 22 w' w.heap.size (fun k_ => some k_ ≠ (v1_ : Value).ownBlock) v0_ r1 ∧ Kd.R (Kd.int .u64) 22 w' w.heap.size (fun k_ => some k_ ≠ (v0_ : Value).ownBlock) v1_ r2 ∧ Below w.heap.size w w' := by
  have hu24 := Try.underlying24
  have HR3 := Aside0.mk hr3
  have HC3 := Aside0.mk hc3
  clear hr3 hc3
  have HB := Aside0.mk (Below.refl w.heap.size w)
  have H : ((juntoref01_Draw.f k a0_0 l3 a2).bind fun bt643 => ((some (([a1] : List Int) : List Int)).bind fun y649 => (if y649.length + bt643.1.length < 17592186044416 then ((juntoref02_Trim.f k (y649 ++ bt643.1)).bind fun t655 => (some (t655, bt643.2))) else (none)))) = some (r1, r2) := h
  clear h
  replace H := Option.bind_eq_some_iff.mp H
  obtain ⟨⟨t643, t644⟩, A50, H⟩ := H
  replace H : ((some (([a1] : List Int) : List Int)).bind fun y649 => (if y649.length + t643.length < 17592186044416 then ((juntoref02_Trim.f k (y649 ++ t643)).bind fun t655 => (some (t655, t644))) else (none))) = some (r1, r2) := H
  have A5 := Aside0.mk A50
  clear A50
  obtain ⟨y649, hy649⟩ : ∃ y_ : List Int, y_ = (([a1] : List Int)) := ⟨_, rfl⟩
  replace H : (if y649.length + t643.length < 17592186044416 then ((juntoref02_Trim.f k (y649 ++ t643)).bind fun t655 => (some (t655, t644))) else (none)) = some (r1, r2) := by first | (rw [hy649]; with_reducible exact H) | (have H2_ := (Option.bind_some _ _).symm.trans H; rw [hy649]; with_reducible exact H2_) | (have H2_ := (Option.bind_some _ _).symm.trans H; with_reducible exact H2_) | with_reducible exact H | (rw [hy649]; exact H) | exact H
  have Ny649 := Aside0.mk hy649
  clear hy649
  by_cases c6 : y649.length + t643.length < 17592186044416
  · rw [if_pos c6] at H
    have LMc6 := Aside0.mk c6
    clear c6
    obtain ⟨y652, hy652⟩ : ∃ y_ : List Int, y_ = (y649 ++ t643) := ⟨_, rfl⟩
    replace H : ((juntoref02_Trim.f k y652).bind fun t655 => (some (t655, t644))) = some (r1, r2) := by first | (rw [hy652]; with_reducible exact H) | (have H2_ := (Option.bind_some _ _).symm.trans H; rw [hy652]; with_reducible exact H2_) | (have H2_ := (Option.bind_some _ _).symm.trans H; with_reducible exact H2_) | with_reducible exact H | (rw [hy652]; exact H) | exact H
    have Ny652 := Aside0.mk hy652
    clear hy652
    replace H := Option.bind_eq_some_iff.mp H
    obtain ⟨t655, A70, H⟩ := H
    replace H : (some (t655, t644)) = some (r1, r2) := H
    have A7 := Aside0.mk A70
    clear A70
    simp only [Option.some.injEq, Prod.mk.injEq] at H
    obtain ⟨rfl, rfl⟩ := H
    go_enter Try.func70, Try.ntmps70
    go_wp2_with (first | ((with_reducible refine gate_dst (N := 4) rfl ?_); refine box_event ?hg (N := 4) ?hd (cs := #[.int .u64 a0_0, .int .i64 a0_1, .int .i64 a0_2]) (t := 24) ?hr ?_; (case hd => rfl); (case hg => rfl); (case hr => first | (go_simp; done) | (go_simp; rfl)); intro gb642 hg w8 hbox hb; have n0_ := Aside0.mk (below_step (by repeat (first | (with_reducible first | exact HB.out | apply below_alloc | apply pw_below_drewN | apply below_drew1) | exact HB.out)) hb); have n1_ := Aside0.mk (hbox); have n2_ := Aside0.mk ((by rw [hg]; exact (below_size (by repeat (first | (with_reducible first | exact HB.out | apply below_alloc | apply pw_below_drewN | apply below_drew1) | exact HB.out))) : w.heap.size ≤ gb642)); have n3_ := Aside0.mk ((by rw [hg]; exact (below_size (by repeat (first | (with_reducible first | exact HB.out | apply below_alloc | apply pw_below_drewN | apply below_drew1) | exact HB.out))) : w.heap.size ≤ gb642)); clear HB; have HB := n0_; have BK642 := n1_; have GW642 := n2_; have GE642 := n3_; clear n0_ n1_ n2_ n3_; clear hb hbox hg; have hcz9_0 : w8.cell? ⟨gb642, 0, none⟩ = some (.int .u64 a0_0) := (blk_cell BK642.out 0).trans rfl; have hcz9_1 : w8.cell? ⟨gb642, 1, none⟩ = some (.int .i64 a0_1) := (blk_cell BK642.out 1).trans rfl; have hcz9_2 : w8.cell? ⟨gb642, 2, none⟩ = some (.int .i64 a0_2) := (blk_cell BK642.out 2).trans rfl; have hfz9_0 := blk_frozen BK642.out 0; have hfz9_1 := blk_frozen BK642.out 1; have hfz9_2 := blk_frozen BK642.out 2) | ((with_reducible refine gate_callee (f := 128) rfl ?_); refine goesL_ (some 17) rfl rfl Try.func128 (by kernel_rfl) rfl #[.int .u64 a0_0, .slice A3 l3.length c3, .int .i64 a2] rfl (by (try simp only [List.map_toArray, List.map_cons, List.map_nil]); first | done | rfl | (simp only [List.length_drop, List.length_take]; rfl)) ?_; (with_reducible refine (juntoref01_Draw.calls k a0_0 _ _ l3 a2 t643 t644 _ ?side1 ?side2 A5.out).mono ?_); (case side1 => repeat (first | exact (Kd.C_below HR3.out HB.out) | (with_reducible refine Kd.C_alloc ?_ _) | (with_reducible refine Kd.C_drewN ?_ _) | (with_reducible refine Kd.C_drew ?_))); (case side2 => exact HC3.out); rintro e w10 ⟨v645, v647, rfl, ho0, ho1, hb⟩; refine ⟨_, rfl, ?_⟩; have n0_ := Aside0.mk (Kd.R_lower ho0 (below_size (by repeat (first | (with_reducible first | exact HB.out | apply below_alloc | apply pw_below_drewN | apply below_drew1 | refine below_set ?_ GE642.out) | exact HB.out)))); have n1_ := Aside0.mk (Kd.R_lower ho1 (below_size (by repeat (first | (with_reducible first | exact HB.out | apply below_alloc | apply pw_below_drewN | apply below_drew1 | refine below_set ?_ GE642.out) | exact HB.out)))); have n2_ := Aside0.mk (blk_below (g := gb642) (o := .cells #[.int .u64 a0_0, .int .i64 a0_1, .int .i64 a0_2] 24 (0, 0)) (by (with_reducible repeat (first | refine blk_drewN ?_ _ | refine blk_drew ?_ | refine blk_alloc ?_ _)); exact BK642.out) hb); have n3_ := Aside0.mk (below_step (by repeat (first | (with_reducible first | exact HB.out | apply below_alloc | apply pw_below_drewN | apply below_drew1 | refine below_set ?_ GE642.out) | exact HB.out)) hb); clear BK642; clear HB; have HO646 := n0_; have HO648 := n1_; have BK642 := n2_; have HB := n3_; clear n0_ n1_ n2_ n3_; (try clear hb); (try clear hb2); (try clear hk); (try clear hi); (try clear ho0); (try clear ho1)) | ((with_reducible refine gate_dst (N := 21) rfl ?_); refine Kd.R_lit (Kd.int .u64) _ 22 ?hg (N := 21) ?hd (xs := ([a1] : List Int)) (inner := [.int .u64 a1]) (ok := fun _ => True) (okp := fun _ => True) ?hr ?hp (fun _ hk => hk) trivial (Below.refl _ _) (Nat.le_refl _) (by simp) ?_; (case hd => rfl); (case hg => rfl); (case hr => first | (go_simp; done) | (go_simp; rfl)); (case hp => exact (Reps.one (show Kd.M (Kd.int .u64) _ _ _ a1 [.int .u64 a1] from rfl) (Reps.none _ _))); intro v650 w11 ho12 hb hg_ hnew_; clear hg_ hnew_; (first | rw [← Ny649.out] at ho12 | (simp only [Int.reduceToNat] at ho12; rw [← Ny649.out] at ho12)); have n0_ := Aside0.mk (Kd.R_elder' (by (with_reducible repeat (first | apply Kd.R_alloc | apply Kd.R_drewN | apply Kd.R_drew)); exact HO646.out) (Kd.R_base ho12) hb); have n1_ := Aside0.mk (Kd.R_elder' (by (with_reducible repeat (first | apply Kd.R_alloc | apply Kd.R_drewN | apply Kd.R_drew)); exact HO648.out) (Kd.R_base ho12) hb); have n2_ := Aside0.mk (Kd.R_lower (Kd.R_new' (Kd.R_new' ho12 (Kd.R_lt (by (with_reducible repeat (first | apply Kd.R_alloc | apply Kd.R_drewN | apply Kd.R_drew)); exact HO646.out))) (Kd.R_lt (by (with_reducible repeat (first | apply Kd.R_alloc | apply Kd.R_drewN | apply Kd.R_drew)); exact HO648.out))) (below_size (by repeat (first | (with_reducible first | exact HB.out | apply below_alloc | apply pw_below_drewN | apply below_drew1 | refine below_set ?_ GE642.out) | exact HB.out)))); have n3_ := Aside0.mk (blk_below (g := gb642) (o := .cells #[.int .u64 a0_0, .int .i64 a0_1, .int .i64 a0_2] 24 (0, 0)) (by (with_reducible repeat (first | refine blk_drewN ?_ _ | refine blk_drew ?_ | refine blk_alloc ?_ _)); exact BK642.out) hb); have n4_ := Aside0.mk (below_step (by repeat (first | (with_reducible first | exact HB.out | apply below_alloc | apply pw_below_drewN | apply below_drew1 | refine below_set ?_ GE642.out) | exact HB.out)) hb); clear HO646; clear HO648; clear BK642; clear HB; have HO646 := n0_; have HO648 := n1_; have HO651 := n2_; have BK642 := n3_; have HB := n4_; clear n0_ n1_ n2_ n3_ n4_; clear hb ho12; obtain ⟨Ao14, co14, eo14⟩ := Kd.R_slice HO646.out; subst eo14) | ((with_reducible refine gate_builtin (b := .append) (xs := #[.tmp 21, .tmp 22]) rfl ?_); at_builtin; refine Kd.R_append_rows (Kd.int .u64) (w0 := w) w.heap.size rfl (.tmp 21) (.tmp 22) 31 22 (.int .u64 0) 8 rfl Try.underlying31 info22 rfl (by decide) (by omega) v650 y649 t643 _ _ _ (fun k_ => some k_ ≠ (.slice Ao14 t643.length co14 : Value).ownBlock ∧ some k_ ≠ (v647 : Value).ownBlock) (fun _ => False) rfl rfl ?aO ?aR (fun _ _ h => h) (fun _ h => h.elim) ?aF ?aB ?aS ?aL ?_; (case aR => repeat (first | exact (Kd.R_reads' HO646.out).2.2 | (with_reducible refine Kd.C_alloc ?_ _) | (with_reducible refine Kd.C_drewN ?_ _) | (with_reducible refine Kd.C_drew ?_))); (case aB => exact (by repeat (first | (with_reducible first | exact HB.out | apply below_alloc | apply pw_below_drewN | apply below_drew1 | refine below_set ?_ GE642.out) | exact HB.out))); (case aF => exact (fun k_ hk => ⟨Kd.fresh' (Kd.R_lt (by (with_reducible repeat (first | apply Kd.R_alloc | apply Kd.R_drewN | apply Kd.R_drew)); exact HO646.out)) k_ hk, Kd.fresh' (Kd.R_lt (by (with_reducible repeat (first | apply Kd.R_alloc | apply Kd.R_drewN | apply Kd.R_drew)); exact HO648.out)) k_ hk⟩)); (case aO => exact (by (with_reducible repeat (first | apply Kd.R_alloc | apply Kd.R_drewN | apply Kd.R_drew)); exact Kd.R_mono HO651.out (fun _ hk => ⟨hk.1.2, hk.2⟩))); (case aS => exact (below_size (by repeat (first | (with_reducible first | exact HB.out | apply below_alloc | apply pw_below_drewN | apply below_drew1 | refine below_set ?_ GE642.out) | exact HB.out)))); (case aL => have := LMc6.out; omega); intro v653 w13 ho hb hg hat; rw [← Ny652.out] at ho; have n0_ := Aside0.mk (blk_grown (g := gb642) (o := .cells #[.int .u64 a0_0, .int .i64 a0_1, .int .i64 a0_2] 24 (0, 0)) (by (with_reducible repeat (first | refine blk_drewN ?_ _ | refine blk_drew ?_ | refine blk_alloc ?_ _)); exact BK642.out) hg (Kd.R_ne HO651.out BK642.out (by decide))); have n1_ := Aside0.mk (Kd.R_after (ok := (fun k_ => some k_ ≠ (v647 : Value).ownBlock)) (by (with_reducible repeat (first | apply Kd.R_alloc | apply Kd.R_drewN | apply Kd.R_drew)); exact HO646.out) hg hat); have n2_ := Aside0.mk (Kd.R_after (ok := (fun k_ => some k_ ≠ (.slice Ao14 t643.length co14 : Value).ownBlock)) (by (with_reducible repeat (first | apply Kd.R_alloc | apply Kd.R_drewN | apply Kd.R_drew)); exact HO648.out) hg hat); have n3_ := Aside0.mk (hb); have n4_ := Aside0.mk (ho); clear BK642; clear HO646; clear HO648; clear HB; clear HO651; have BK642 := n0_; have HO646 := n1_; have HO648 := n2_; have HB := n3_; have HO654 := n4_; clear n0_ n1_ n2_ n3_ n4_; clear ho hb hg hat; obtain ⟨Ao15, co15, eo15⟩ := Kd.R_slice HO654.out; subst eo15) | ((with_reducible refine gate_callee (f := 60) rfl ?_); refine goesL_ (some 24) rfl rfl Try.func60 (by kernel_rfl) rfl #[.slice Ao15 y652.length co15] rfl (by (try simp only [List.map_toArray, List.map_cons, List.map_nil]); first | done | rfl | (simp only [List.length_drop, List.length_take]; rfl)) ?_; (with_reducible refine (juntoref02_Trim.calls k _ _ y652 t655 _ ?side1 ?side2 A7.out).mono ?_); (case side1 => repeat (first | exact (Kd.R_reads' HO654.out).2.2 | (with_reducible refine Kd.C_alloc ?_ _) | (with_reducible refine Kd.C_drewN ?_ _) | (with_reducible refine Kd.C_drew ?_))); (case side2 => exact (Kd.R_reads' HO654.out).2.1); rintro e w16 ⟨v656, rfl, ho0, hb⟩; refine ⟨_, rfl, ?_⟩; have n0_ := Aside0.mk (Kd.R_elder' (by (with_reducible repeat (first | apply Kd.R_alloc | apply Kd.R_drewN | apply Kd.R_drew)); exact HO646.out) (Kd.R_base ho0) hb); have n1_ := Aside0.mk (Kd.R_elder' (by (with_reducible repeat (first | apply Kd.R_alloc | apply Kd.R_drewN | apply Kd.R_drew)); exact HO648.out) (Kd.R_base ho0) hb); have n2_ := Aside0.mk (Kd.R_elder' (by (with_reducible repeat (first | apply Kd.R_alloc | apply Kd.R_drewN | apply Kd.R_drew)); exact HO654.out) (Kd.R_base ho0) hb); have n3_ := Aside0.mk (Kd.R_lower (Kd.R_new' (Kd.R_new' (Kd.R_new' ho0 (Kd.R_lt (by (with_reducible repeat (first | apply Kd.R_alloc | apply Kd.R_drewN | apply Kd.R_drew)); exact HO646.out))) (Kd.R_lt (by (with_reducible repeat (first | apply Kd.R_alloc | apply Kd.R_drewN | apply Kd.R_drew)); exact HO648.out))) (Kd.R_lt (by (with_reducible repeat (first | apply Kd.R_alloc | apply Kd.R_drewN | apply Kd.R_drew)); exact HO654.out))) (below_size (by repeat (first | (with_reducible first | exact HB.out | apply below_alloc | apply pw_below_drewN | apply below_drew1 | refine below_set ?_ GE642.out) | exact HB.out)))); have n4_ := Aside0.mk (blk_below (g := gb642) (o := .cells #[.int .u64 a0_0, .int .i64 a0_1, .int .i64 a0_2] 24 (0, 0)) (by (with_reducible repeat (first | refine blk_drewN ?_ _ | refine blk_drew ?_ | refine blk_alloc ?_ _)); exact BK642.out) hb); have n5_ := Aside0.mk (below_step (by repeat (first | (with_reducible first | exact HB.out | apply below_alloc | apply pw_below_drewN | apply below_drew1 | refine below_set ?_ GE642.out) | exact HB.out)) hb); clear HO646; clear HO648; clear HO654; clear BK642; clear HB; have HO646 := n0_; have HO648 := n1_; have HO654 := n2_; have HO657 := n3_; have BK642 := n4_; have HB := n5_; clear n0_ n1_ n2_ n3_ n4_ n5_; (try clear hb); (try clear hb2); (try clear hk); (try clear hi); (try clear ho0)))
    go_ret2
    exact ⟨_, _, by first | rfl | (simp [errW_none, errW_some] <;> rfl) | (simp [*, errW_none, errW_some] <;> rfl), by (with_reducible repeat (first | apply Kd.R_alloc | apply Kd.R_drewN | apply Kd.R_drew)); exact Kd.R_mono HO657.out (fun _ hk => hk.1.2), by (with_reducible repeat (first | apply Kd.R_alloc | apply Kd.R_drewN | apply Kd.R_drew)); exact Kd.R_mono HO648.out (fun _ hk => hk.2), by repeat (first | (with_reducible first | exact HB.out | apply below_alloc | apply pw_below_drewN | apply below_drew1 | refine below_set ?_ GE642.out) | exact HB.out)⟩
  · rw [if_neg c6] at H
    exact absurd H (by simp)

end Go.Proofs.Ytjjnfobeeflnhaa.J

/- Both ways to draw a sharing polynomial answer alike, and what they answer. -/
namespace Go.Proofs.Ytjjnfobeeflnhaa.L
open Go.RowKit Go.Proofs.YtjjnfobeeflnhaaW.PrintWords Go.Proofs.Ytjjnfobeeflnhaa.J
set_option linter.unusedVariables false
set_option linter.unusedSimpArgs false

section
variable {q : Nat} [NeZero q]
theorem drawn_length (tape : List Int) (n : Nat) : (drawn q tape n).length = n := Fld.mk_length _ _
theorem share_draw (hq : q ≤ 65537) (s : Fin q) (d : Nat) (hd : d ≤ 1000) (tape : List Int) (hs : tape.length ≤ 17592186044415) (hu : ∀ c ∈ tape, 0 ≤ c) : Ev (fun k => share_Draw.f k (q : Int) (nI s) (d : Int) tape) (oI (Fld.trim (s :: drawn q tape d)), tape.drop d) := by
  unfold share_Draw.f
  refine Ev.bind (take_fp hq tape hs hu d (by omega)) (Ev.bind (Ev.now _) ?_)
  refine Ev.congr (fun k => if_pos ?_) ?_
  · rw [oI_length, drawn_length]; show 1 + d < _; omega
  · exact Ev.bind (short_fp (s :: drawn q tape d) (by rw [List.length_cons, drawn_length]; omega)) (Ev.now _)
theorem ref_make (hq : q ≤ 65537) (n t : Int) (s : Fin q) (d : Nat) (hd : d ≤ 1000) (tape : List Int) (hs : tape.length ≤ 17592186044415) (hu : ∀ c ∈ tape, 0 ≤ c) : Ev (fun k => juntoref04_Make.f k (q : Int) n t (nI s) (d : Int) tape) (oI (Fld.trim (s :: drawn q tape d)), tape.drop d) := by
  unfold juntoref04_Make.f
  refine Ev.bind (draw_fp hq tape hs hu d (by omega)) (Ev.bind (Ev.now _) ?_)
  refine Ev.congr (fun k => if_pos ?_) ?_
  · rw [oI_length, drawn_length]; show 1 + d < _; omega
  · exact Ev.bind (trim_fp (s :: drawn q tape d) (by rw [List.length_cons, drawn_length]; omega)) (Ev.now _)
theorem share_make_ok (hq : q ≤ 65537) (n t : Int) (h0 : setupV (q : Int) n t = 0) (s : Fin q) (d : Nat) (hn : (d : Int) < n) (tape : List Int) (hs : tape.length ≤ 17592186044415) (hu : ∀ c ∈ tape, 0 ≤ c) : Ev (fun k => share_Make.f k (q : Int) n t (nI s) (d : Int) tape) (oI (Fld.trim (s :: drawn q tape d)), tape.drop d, 0) := by
  have hh := setupV_small h0
  have hr := nI_range s
  unfold share_Make.f
  refine Ev.bind (share_setup _ n t) ?_
  simp only [h0, if_true]
  simp only [show ¬ (nI s ≥ (q : Int)) by omega, show ¬ ((d : Int) < 0) by omega, show ¬ ((d : Int) ≥ n) by omega, if_false]
  exact Ev.bind (share_draw hq s d (by omega) tape hs hu) (Ev.now _)
end
theorem share_make_bad (p n t v d : Int) (tape : List Int) (h : setupV p n t ≠ 0 ∨ v ≥ p ∨ d < 0 ∨ d ≥ n) : Ev (fun k => share_Make.f k p n t v d tape) ([], [], 2) := by
  unfold share_Make.f
  refine Ev.bind (share_setup p n t) ?_
  by_cases h0 : setupV p n t = 0
  · simp only [h0, if_true]
    by_cases h1 : v ≥ p
    · simp only [h1, if_true]; exact Ev.now _
    by_cases h2 : d < 0
    · simp only [h1, h2, if_true, if_false]; exact Ev.now _
    have h3 : d ≥ n := by rcases h with h | h | h | h <;> first | exact absurd h0 h | omega
    simp only [h1, h2, h3, if_true, if_false]
    exact Ev.now _
  · simp only [h0, if_false]
    rw [setupV_two h0]
    exact Ev.now _

end Go.Proofs.Ytjjnfobeeflnhaa.L

/- Both ways to draw a mask answer alike, and what they answer. -/
namespace Go.Proofs.Ytjjnfobeeflnhaa.L
open Go.RowKit Go.Proofs.YtjjnfobeeflnhaaW.PrintWords Go.Proofs.Ytjjnfobeeflnhaa.J
set_option linter.unusedVariables false
set_option linter.unusedSimpArgs false

section
variable {q : Nat} [NeZero q]
/-- The rows drawn from a tape, w numbers each. -/
def more (q : Nat) [NeZero q] (w : Nat) : Nat → List Int → List (List (Fin q))
  | 0, _ => []
  | m + 1, tape => Fld.trim (drawn q tape w) :: more q w m (tape.drop w)
/-- What is left of the tape. -/
def past (w : Nat) : Nat → List Int → List Int
  | 0, tape => tape
  | m + 1, tape => past w m (tape.drop w)
theorem more_length (w m : Nat) : ∀ tape, (more q w m tape).length = m := by
  induction m with
  | zero => intro _; rfl
  | succ m ih => intro tape; rw [more, List.length_cons, ih]
theorem more_rows (w m : Nat) : ∀ tape, ∀ f ∈ more q w m tape, f.length ≤ w := by
  induction m with
  | zero => intro _ f hf; cases hf
  | succ m ih =>
    intro tape f hf
    rw [more] at hf
    rcases List.mem_cons.1 hf with rfl | h
    · have := Fld.trim_length_le (drawn q tape w)
      rwa [drawn_length] at this
    · exact ih _ f h
theorem past_length (w m : Nat) : ∀ tape : List Int, (past w m tape).length ≤ tape.length := by
  induction m with
  | zero => intro tape; exact Nat.le_refl _
  | succ m ih =>
    intro tape
    have := ih (tape.drop w)
    rw [List.length_drop] at this
    rw [past]; omega
theorem make_loop (hq : q ≤ 65537) (n : Int) (t : Nat) (ht : t ≤ 3) (m : Nat) : ∀ (i : Nat) (tape : List Int) (out : List (List Int)), i + m = t → out.length = i + 1 → tape.length ≤ 17592186044415 → (∀ c ∈ tape, 0 ≤ c) →
    Ev (fun k => twice_Make.l0 k tape out (t : Int) (i : Int) (q : Int) n (t : Int)) (out ++ (more q (t + 1) m tape).map oI, past (t + 1) m tape, 0) := by
  induction m with
  | zero =>
    intro i tape out hi ho hs hu
    rw [more, past, List.map_nil, List.append_nil]
    refine Ev.step (f := fun k => some (out, tape, 0)) (fun k => ?_) (Ev.now _)
    simp only [twice_Make.l0]
    rw [if_neg (by omega)]
  | succ m ih =>
    intro i tape out hi ho hs hu
    have hw : wrap64 ((i : Int) + 1) = ((i + 1 : Nat) : Int) := by rw [w64_small (by omega) (by omega)]; omega
    have hw2 : wrap64 ((t : Int) + 1) = ((t + 1 : Nat) : Int) := by rw [w64_small (by omega) (by omega)]; omega
    rw [more, past, List.map_cons, ← List.singleton_append, ← List.append_assoc]
    refine Ev.step (f := fun k => (field_Take.f k (q : Int) tape ((t + 1 : Nat) : Int)).bind fun bt159 => ((poly_Short.f k bt159.1).bind fun t165 => (if out.length < 5864062014805 then (twice_Make.l0 k bt159.2 (out ++ [t165]) (t : Int) ((i + 1 : Nat) : Int) (q : Int) n (t : Int)) else (none)))) (fun k => ?_) (Ev.bind (take_fp hq tape hs hu (t + 1) (by omega)) (Ev.bind (short_fp _ (by rw [drawn_length]; omega)) ?_))
    · conv => lhs; simp only [twice_Make.l0]
      rw [if_pos (by omega), hw2, hw]
    · refine Ev.congr (fun k => if_pos (by omega)) (ih (i + 1) (tape.drop (t + 1)) _ (by omega) (by rw [List.length_append, ho]; rfl) (by rw [List.length_drop]; omega) (fun c hc => hu c (List.mem_of_mem_drop hc)))
theorem rmake_loop (hq : q ≤ 65537) (n : Int) (t : Nat) (ht : t ≤ 3) (m : Nat) : ∀ (i : Nat) (tape : List Int) (out : List (List Int)), i + m = t → out.length = i + 1 → tape.length ≤ 17592186044415 → (∀ c ∈ tape, 0 ≤ c) →
    Ev (fun k => juntoref07_Make.l0 k tape out (t : Int) (i : Int) (q : Int) n (t : Int)) (out ++ (more q (t + 1) m tape).map oI, past (t + 1) m tape) := by
  induction m with
  | zero =>
    intro i tape out hi ho hs hu
    rw [more, past, List.map_nil, List.append_nil]
    refine Ev.step (f := fun k => some (out, tape)) (fun k => ?_) (Ev.now _)
    simp only [juntoref07_Make.l0]
    rw [if_neg (by omega)]
  | succ m ih =>
    intro i tape out hi ho hs hu
    have hw : wrap64 ((i : Int) + 1) = ((i + 1 : Nat) : Int) := by rw [w64_small (by omega) (by omega)]; omega
    have hw2 : wrap64 ((t : Int) + 1) = ((t + 1 : Nat) : Int) := by rw [w64_small (by omega) (by omega)]; omega
    rw [more, past, List.map_cons, ← List.singleton_append, ← List.append_assoc]
    refine Ev.step (f := fun k => (juntoref01_Draw.f k (q : Int) tape ((t + 1 : Nat) : Int)).bind fun bt159 => ((juntoref02_Trim.f k bt159.1).bind fun t165 => (if out.length < 5864062014805 then (juntoref07_Make.l0 k bt159.2 (out ++ [t165]) (t : Int) ((i + 1 : Nat) : Int) (q : Int) n (t : Int)) else (none)))) (fun k => ?_) (Ev.bind (draw_fp hq tape hs hu (t + 1) (by omega)) (Ev.bind (trim_fp _ (by rw [drawn_length]; omega)) ?_))
    · conv => lhs; simp only [juntoref07_Make.l0]
      rw [if_pos (by omega), hw2, hw]
    · refine Ev.congr (fun k => if_pos (by omega)) (ih (i + 1) (tape.drop (t + 1)) _ (by omega) (by rw [List.length_append, ho]; rfl) (by rw [List.length_drop]; omega) (fun c hc => hu c (List.mem_of_mem_drop hc)))
/-- The mask that a secret and a tape determine. -/
def maskF (q : Nat) [NeZero q] (s : Fin q) (t : Nat) (tape : List Int) : List (List (Fin q)) := Fld.trim (s :: drawn q tape t) :: more q (t + 1) t (tape.drop t)
theorem mask_length (s : Fin q) (t : Nat) (tape : List Int) : (maskF q s t tape).length = t + 1 := by rw [maskF, List.length_cons, more_length]
theorem mask_rows (s : Fin q) (t : Nat) (tape : List Int) : ∀ f ∈ maskF q s t tape, f.length ≤ t + 1 := by
  intro f hf
  rcases List.mem_cons.1 hf with rfl | h
  · have := Fld.trim_length_le (s :: drawn q tape t)
    rwa [List.length_cons, drawn_length] at this
  · exact more_rows _ _ _ f h
theorem twice_make_ok (hq : q ≤ 65537) (n : Int) (t : Nat) (h0 : setupV (q : Int) n (t : Int) = 0) (s : Fin q) (tape : List Int) (hs : tape.length ≤ 17592186044415) (hu : ∀ c ∈ tape, 0 ≤ c) : Ev (fun k => twice_Make.f k (q : Int) n (t : Int) (nI s) tape) ((maskF q s t tape).map oI, past (t + 1) t (tape.drop t), 0) := by
  have hh := setupV_small h0
  have hr := nI_range s
  unfold twice_Make.f
  refine Ev.bind (share_setup _ n _) ?_
  simp only [h0, if_true]
  simp only [show ¬ (nI s ≥ (q : Int)) by omega, if_false]
  refine Ev.bind (share_draw hq s t (by omega) tape hs hu) ?_
  exact make_loop hq n t (by omega) t 0 (tape.drop t) [oI (Fld.trim (s :: drawn q tape t))] (by omega) rfl (by rw [List.length_drop]; omega) (fun c hc => hu c (List.mem_of_mem_drop hc))
theorem ref_mask (hq : q ≤ 65537) (n : Int) (t : Nat) (ht : t ≤ 3) (s : Fin q) (tape : List Int) (hs : tape.length ≤ 17592186044415) (hu : ∀ c ∈ tape, 0 ≤ c) : Ev (fun k => juntoref07_Make.f k (q : Int) n (t : Int) (nI s) tape) ((maskF q s t tape).map oI, past (t + 1) t (tape.drop t)) := by
  unfold juntoref07_Make.f
  refine Ev.bind (draw_fp hq tape hs hu t (by omega)) (Ev.bind (Ev.now _) ?_)
  refine Ev.congr (fun k => if_pos ?_) ?_
  · rw [oI_length, drawn_length]; show 1 + t < _; omega
  · refine Ev.bind (trim_fp (s :: drawn q tape t) (by rw [List.length_cons, drawn_length]; omega)) ?_
    exact rmake_loop hq n t (by omega) t 0 (tape.drop t) [oI (Fld.trim (s :: drawn q tape t))] (by omega) rfl (by rw [List.length_drop]; omega) (fun c hc => hu c (List.mem_of_mem_drop hc))
end
theorem twice_make_bad (p n t v : Int) (tape : List Int) (h : setupV p n t ≠ 0 ∨ v ≥ p) : Ev (fun k => twice_Make.f k p n t v tape) ([], [], 2) := by
  unfold twice_Make.f
  refine Ev.bind (share_setup p n t) ?_
  by_cases h0 : setupV p n t = 0
  · simp only [h0, if_true]
    have h1 : v ≥ p := by rcases h with h | h <;> first | exact absurd h0 h | omega
    simp only [h1, if_true]
    exact Ev.now _
  · simp only [h0, if_false]
    rw [setupV_two h0]
    exact Ev.now _

end Go.Proofs.Ytjjnfobeeflnhaa.L

/- Both checks of a mask answer alike, and what they answer. -/
namespace Go.Proofs.Ytjjnfobeeflnhaa.L
open Go.RowKit Go.Proofs.YtjjnfobeeflnhaaW.PrintWords Go.Proofs.Ytjjnfobeeflnhaa.J
set_option linter.unusedVariables false
set_option linter.unusedSimpArgs false

def rowsV (p : Int) : List (List Int) → Int
  | [] => 0
  | f :: fs => if belowV p f = 0 then rowsV p fs else belowV p f

/-- What both checks answer: 0, 2 or 4. -/
def checkV (p n t : Int) (l : List (List Int)) : Int :=
  if setupV p n t = 0 then (if (l.length : Int) = t + 1 ∧ ∀ f ∈ l, (f.length : Int) ≤ t + 1 then rowsV p l else 4) else setupV p n t

theorem checks_go (p : Int) : ∀ (l : List (List Int)), (∀ f ∈ l, f.length ≤ maxLen) → Ev (fun k => twice_Check.go k p l) (rowsV p l)
  | [], _ => Ev.now _
  | f :: fs, h => by
    unfold twice_Check.go rowsV
    refine Ev.bind (field_below p f (h f (List.mem_cons_self ..))) ?_
    by_cases h0 : belowV p f = 0
    · rw [if_pos h0]
      simp only [h0, if_true]
      exact checks_go p fs (fun g hg => h g (List.mem_cons_of_mem _ hg))
    · rw [if_neg h0]
      simp only [h0, if_false]
      exact Ev.now _

theorem twice_check (p n t : Int) (l : List (List Int)) (hl : ∀ f ∈ l, f.length ≤ maxLen) : Ev (fun k => twice_Check.f k p n t l) (checkV p n t l) := by
  unfold twice_Check.f checkV
  refine Ev.bind (share_setup p n t) ?_
  by_cases h0 : setupV p n t = 0
  · obtain ⟨_, _, _, h4, h5, _⟩ := setupV_ok h0
    simp only [h0, if_true]
    rw [w64_small (by omega) (by omega)]
    by_cases h1 : (l.length : Int) = t + 1
    · simp only [h1, if_true, true_and]
      by_cases h2 : ∀ f ∈ l, (f.length : Int) ≤ t + 1
      · have ha : (l.any fun f => decide (t + 1 < (f.length : Int))) = false := by
          rw [List.any_eq_false]
          intro f hf
          have := h2 f hf
          simp only [decide_eq_true_eq]
          omega
        rw [if_pos h2]
        simp only [ha, Bool.false_eq_true, if_false]
        exact checks_go p l hl
      · have ha : (l.any fun f => decide (t + 1 < (f.length : Int))) = true := by
          rw [List.any_eq_true]
          apply Classical.byContradiction
          intro hc
          refine h2 fun f hf => ?_
          rcases Int.lt_or_le (t + 1) (f.length : Int) with h' | h'
          · exact absurd ⟨f, hf, by simpa using h'⟩ hc
          · exact h'
        rw [if_neg h2]
        simp only [ha, if_true]
        exact Ev.now _
    · simp only [h1, if_false, false_and]
      exact Ev.now _
  · simp only [h0, if_false]
    exact Ev.now _

theorem rd_L3_at (l : List (List Int)) (i : Nat) (h : i < l.length) : rd_L3 l (i : Int) = l[i] := by
  simp [rd_L3, List.getD_eq_getElem?_getD, h]

theorem ref_rows (p n t : Int) (l : List (List Int)) (hs : l.length ≤ maxLen) (hl : ∀ f ∈ l, f.length ≤ maxLen) : ∀ (m i : Nat), i + m = l.length → Ev (fun k => juntoref07_Check.l1 k l (l.length : Int) (i : Int) p n t) (rowsV p (l.drop i))
  | 0, i, hi => by
    rw [List.drop_of_length_le (by omega)]
    refine Ev.step (f := fun k => some 0) (fun k => ?_) (Ev.now _)
    simp only [juntoref07_Check.l1]
    rw [if_neg (by omega)]
  | m + 1, i, hi => by
    have hm : (l.length : Int) ≤ 9223372036854775807 := by simp only [maxLen] at hs; omega
    have hlt : i < l.length := by omega
    rw [List.drop_eq_getElem_cons hlt]
    unfold rowsV
    refine Ev.step (f := fun k => (juntoref01_Within.f k p l[i]).bind fun t111 => (if t111 = 0 then (juntoref07_Check.l1 k l (l.length : Int) ((i + 1 : Nat) : Int) p n t) else (some t111))) (fun k => ?_) ?_
    · conv => lhs; simp only [juntoref07_Check.l1]
      rw [if_pos (by omega), if_pos (by omega), if_pos (by omega), rd_L3_at l i hlt, w64_small (by omega) (by omega)]
      rfl
    · refine Ev.bind (ref_within p l[i] (hl _ (List.getElem_mem hlt))) ?_
      by_cases h0 : belowV p l[i] = 0
      · rw [if_pos h0]
        simp only [h0, if_true]
        exact ref_rows p n t l hs hl m (i + 1) (by omega)
      · rw [if_neg h0]
        simp only [h0, if_false]
        exact Ev.now _

theorem ref_sizes (p n t : Int) (l : List (List Int)) (ht : 0 ≤ t ∧ t ≤ 13) (hs : l.length ≤ maxLen) (hl : ∀ f ∈ l, f.length ≤ maxLen) : ∀ (m i : Nat), i + m = l.length → Ev (fun k => juntoref07_Check.l0 k l l (l.length : Int) (i : Int) p n t) (if ∀ f ∈ l.drop i, (f.length : Int) ≤ t + 1 then rowsV p l else 4)
  | 0, i, hi => by
    rw [List.drop_of_length_le (by omega), if_pos (fun f hf => by simp at hf)]
    refine Ev.step (f := fun k => juntoref07_Check.l1 k l (l.length : Int) 0 p n t) (fun k => ?_) ?_
    · conv => lhs; simp only [juntoref07_Check.l0]
      rw [if_neg (by omega)]
    · exact ref_rows p n t l hs hl l.length 0 (by omega)
  | m + 1, i, hi => by
    have hm : (l.length : Int) ≤ 9223372036854775807 := by simp only [maxLen] at hs; omega
    have hlt : i < l.length := by omega
    rw [List.drop_eq_getElem_cons hlt]
    by_cases hg : (l[i].length : Int) > t + 1
    · rw [if_neg (fun h' => by have := h' _ (List.mem_cons_self ..); omega)]
      refine Ev.step (f := fun k => some 4) (fun k => ?_) (Ev.now _)
      simp only [juntoref07_Check.l0]
      rw [if_pos (by omega), if_pos (by omega), if_pos (by omega), rd_L3_at l i hlt, w64_small (n := t + 1) (by omega) (by omega), if_pos hg]
    · refine Ev.step (f := fun k => juntoref07_Check.l0 k l l (l.length : Int) ((i + 1 : Nat) : Int) p n t) (fun k => ?_) ?_
      · conv => lhs; simp only [juntoref07_Check.l0]
        rw [if_pos (by omega), if_pos (by omega), if_pos (by omega), rd_L3_at l i hlt, w64_small (n := t + 1) (by omega) (by omega), if_neg hg, w64_small (by omega) (by omega)]
        rfl
      · have hi2 : (∀ f ∈ l[i] :: l.drop (i + 1), (f.length : Int) ≤ t + 1) ↔ ∀ f ∈ l.drop (i + 1), (f.length : Int) ≤ t + 1 := by
          constructor
          · exact fun h f hf => h f (List.mem_cons_of_mem _ hf)
          · intro h f hf
            rcases List.mem_cons.1 hf with rfl | hf
            · omega
            · exact h f hf
        simp only [hi2]
        exact ref_sizes p n t l ht hs hl m (i + 1) (by omega)

theorem ref_check (p n t : Int) (l : List (List Int)) (hs : l.length ≤ maxLen) (hl : ∀ f ∈ l, f.length ≤ maxLen) : Ev (fun k => juntoref07_Check.f k p n t l) (checkV p n t l) := by
  unfold juntoref07_Check.f checkV
  refine Ev.bind (ref_setup p n t) ?_
  by_cases h0 : setupV p n t = 0
  · obtain ⟨_, _, _, h4, h5, _⟩ := setupV_ok h0
    simp only [h0, if_true]
    rw [w64_small (by omega) (by omega)]
    by_cases h1 : (l.length : Int) = t + 1
    · refine Ev.congr (fun k => if_pos h1) ?_
      have := ref_sizes p n t l (by omega) hs hl l.length 0 (by omega)
      rw [List.drop_zero] at this
      have e : ((l.length : Int) = t + 1 ∧ ∀ f ∈ l, (f.length : Int) ≤ t + 1) = (∀ f ∈ l, (f.length : Int) ≤ t + 1) := propext ⟨fun h => h.2, fun h => ⟨h1, h⟩⟩
      simp only [e]
      exact this
    · simp only [h1, if_false, false_and]
      exact Ev.now _
  · simp only [h0, if_false]
    exact Ev.now _

end Go.Proofs.Ytjjnfobeeflnhaa.L

/- The chapter's example holds; a number or an error as the law asks it. -/
namespace Go.Proofs.Ytjjnfobeeflnhaa.L
open Go.RowKit Go.Proofs.YtjjnfobeeflnhaaW.PrintWords Go.Proofs.Ytjjnfobeeflnhaa.J

theorem alive07 : Ev (fun k => juntolaw07_alive.f k) true := Ev.of juntolaw07_alive.mono (k := 40) (by decide +kernel)

theorem number_same (v : Int) : juntolaw07_number.f v 0 v 0 = some true := by simp [juntolaw07_number.f]
theorem number_bad (e : Int) (h : e ≠ 0) : juntolaw07_number.f 0 e 0 e = some true := by simp [juntolaw07_number.f, h]

end Go.Proofs.Ytjjnfobeeflnhaa.L

/- What the law's own words ask of an answer. -/
namespace Go.Proofs.Ytjjnfobeeflnhaa.L
open Go.RowKit Go.Proofs.YtjjnfobeeflnhaaW.PrintWords Go.Proofs.Ytjjnfobeeflnhaa.J

theorem exact_loop (l : List (List Int)) (hn : l.length ≤ 1000000) (hl : ∀ f ∈ l, f.length ≤ maxLen) (m : Nat) : ∀ i : Nat, i + m = l.length → Ev (fun k => juntolaw07_exact.l0 k l l (l.length : Int) (i : Int)) true := by
  induction m with
  | zero =>
    intro i hi
    refine Ev.step (f := fun k => some true) (fun k => ?_) (Ev.now _)
    simp only [juntolaw07_exact.l0]
    rw [if_neg (by omega)]
  | succ m ih =>
    intro i hi
    have hlt : i < l.length := by omega
    have hr : rd_L3 l (i : Int) = l[i] := by simp [rd_L3, List.getD_eq_getElem?_getD, hlt]
    have hw : wrap64 ((i : Int) + 1) = ((i + 1 : Nat) : Int) := by rw [w64_small (by omega) (by omega)]; omega
    refine Ev.step (f := fun k => (juntoref01_Same.f k l[i] l[i]).bind fun t181 => (if t181 = true then (juntolaw07_exact.l0 k l l (l.length : Int) ((i + 1 : Nat) : Int)) else (some false))) (fun k => ?_) (Ev.bind (same_self _ (hl _ (List.getElem_mem hlt))) ?_)
    · conv => lhs; simp only [juntolaw07_exact.l0]
      rw [if_pos (by omega), if_pos (by omega), if_pos (by omega), if_pos (by omega), hr, hw]
    · simp only [if_true]
      exact ih (i + 1) (by omega)
theorem exact_self (l : List (List Int)) (hn : l.length ≤ 1000000) (hl : ∀ f ∈ l, f.length ≤ maxLen) : Ev (fun k => juntolaw07_exact.f k l l) true :=
  Ev.congr (fun k => if_pos rfl) (exact_loop l hn hl l.length 0 (by omega))
theorem is07_same (l : List (List Int)) (hn : l.length ≤ 1000000) (hl : ∀ f ∈ l, f.length ≤ maxLen) : Ev (fun k => juntolaw07_is.f k l 0 l 0) true := by
  unfold juntolaw07_is.f
  simp only [if_true]
  exact Ev.bind (exact_self l hn hl) (Ev.now _)
theorem is07_bad (e : Int) (h : e ≠ 0) : Ev (fun k => juntolaw07_is.f k [] e [] e) true := by
  unfold juntolaw07_is.f
  simp only [h, if_true, if_false]
  exact Ev.now _
theorem list07_same (l : List Int) (hl : l.length ≤ maxLen) : Ev (fun k => juntolaw07_list.f k l 0 l 0) true := by
  unfold juntolaw07_list.f
  simp only [if_true]
  exact Ev.bind (same_self l hl) (Ev.now _)
theorem list07_bad (e : Int) (h : e ≠ 0) : Ev (fun k => juntolaw07_list.f k [] e [] e) true := by
  unfold juntolaw07_list.f
  simp only [h, if_true, if_false]
  exact Ev.now _

end Go.Proofs.Ytjjnfobeeflnhaa.L

/- The statement TwiceMakes as plain Lean. -/
namespace Go.Proofs.Ytjjnfobeeflnhaa.L
open Go.RowKit Go.Proofs.YtjjnfobeeflnhaaW.PrintWords Go.Proofs.Ytjjnfobeeflnhaa.J
set_option linter.unusedVariables false
set_option linter.unusedSimpArgs false

theorem tmakes_bad (p n t v : Int) (tape : List Int) : Ev (fun k => juntolaw07_TwiceMakes.j1 k v tape [] [] 2 2 p n t) true := by
  refine Ev.step (f := fun k => (juntolaw07_is.f k [] 2 [] 2).bind fun t305 => (if t305 = true then ((juntolaw07_alive.f k).bind fun t306 => (some t306)) else (some false))) (fun k => ?_) (Ev.bind (is07_bad 2 (by decide)) ?_)
  · simp [juntolaw07_TwiceMakes.j1]
  · simp only [if_true]
    exact Ev.bind alive07 (Ev.now _)

theorem twiceMakes (x0_0 : Int) (x0_1 : Int) (x0_2 : Int) (x1 : Int) (x2 : List Int) (w0_0 : (Lit.int .u64 x0_0).wf = true) (w0_1 : (Lit.int .i64 x0_1).wf = true) (w0_2 : (Lit.int .i64 x0_2).wf = true) (w1 : (Lit.int .u64 x1).wf = true)
    (w2 : x2.length ≤ maxLen ∧ x2.length * 8 ≤ 140737488351232 ∧ ∀ x2' ∈ x2, (Lit.int .u64 x2').wf = true) : ∃ k, juntolaw07_TwiceMakes.f k x0_0 x0_1 x0_2 x1 x2 = some true := by
  suffices h : Ev (fun k => juntolaw07_TwiceMakes.f k x0_0 x0_1 x0_2 x1 x2) true from h.rounds
  have hv := (u64_wf w1).1
  have hu : ∀ c ∈ x2, 0 ≤ c := fun c hc => (u64_wf (w2.2.2 c hc)).1
  have hs : x2.length ≤ 17592186044415 := by have := w2.2.1; omega
  unfold juntolaw07_TwiceMakes.f
  by_cases h0 : setupV x0_0 x0_1 x0_2 = 0
  · have hh := setupV_small h0
    by_cases h1 : x1 ≥ x0_0
    · refine Ev.bind (twice_make_bad _ _ _ _ _ (.inr h1)) (Ev.bind (ref_setup _ _ _) ?_)
      simp only [h0, if_true, decide_eq_true h1]
      exact Ev.step (f := fun k => juntolaw07_TwiceMakes.j1 k x1 x2 [] [] 2 2 x0_0 x0_1 x0_2) (fun k => by simp [juntolaw07_TwiceMakes.j0]) (tmakes_bad _ _ _ _ _)
    · obtain ⟨q, rfl⟩ : ∃ q : Nat, x0_0 = (q : Int) := ⟨x0_0.toNat, by omega⟩
      have hz : NeZero q := ⟨by omega⟩
      obtain ⟨s, rfl⟩ := nI_of (q := q) hv (by omega)
      obtain ⟨t, rfl⟩ : ∃ t : Nat, x0_2 = (t : Int) := ⟨x0_2.toNat, by omega⟩
      have hq : q ≤ 65537 := by omega
      refine Ev.bind (twice_make_ok hq _ t h0 s x2 hs hu) (Ev.bind (ref_setup _ _ _) ?_)
      simp only [h0, if_true, decide_eq_false h1]
      refine Ev.step (f := fun k => juntolaw07_TwiceMakes.j1 k (nI s) x2 ((maskF q s t x2).map oI) (past (t + 1) t (x2.drop t)) 0 0 (q : Int) x0_1 (t : Int)) (fun k => by simp [juntolaw07_TwiceMakes.j0]) ?_
      refine Ev.step (f := fun k => (juntoref07_Make.f k (q : Int) x0_1 (t : Int) (nI s) x2).bind fun bt297 => ((juntolaw07_is.f k ((maskF q s t x2).map oI) 0 bt297.1 0).bind fun t303 => (if t303 = true then ((juntoref01_Same.f k (past (t + 1) t (x2.drop t)) bt297.2).bind fun t304 => (some t304)) else (some false)))) (fun k => by simp [juntolaw07_TwiceMakes.j1]) ?_
      refine Ev.bind (ref_mask hq x0_1 t (by omega) s x2 hs hu) ?_
      refine Ev.bind (is07_same _ (by rw [List.length_map, mask_length]; omega) (fun f hf => ?_)) ?_
      · obtain ⟨g, hg, rfl⟩ := List.mem_map.1 hf
        have := mask_rows s t x2 g hg
        rw [oI_length]; simp only [maxLen]; omega
      simp only [if_true]
      have hl := past_length (t + 1) t (x2.drop t)
      rw [List.length_drop] at hl
      exact Ev.bind (same_self _ (by simp only [maxLen]; omega)) (Ev.now _)
  · refine Ev.bind (twice_make_bad _ _ _ _ _ (.inl h0)) (Ev.bind (ref_setup _ _ _) ?_)
    simp only [h0, if_false]
    rw [setupV_two h0]
    exact Ev.step (f := fun k => juntolaw07_TwiceMakes.j1 k x1 x2 [] [] 2 2 x0_0 x0_1 x0_2) (fun k => by simp [juntolaw07_TwiceMakes.j0]) (tmakes_bad _ _ _ _ _)

end Go.Proofs.Ytjjnfobeeflnhaa.L

/- The row of TwiceMakes: for every input the call returns true and changes nothing; no conditions. Out of the contract of the function and the plain law. -/
namespace Go.Proofs.Ytjjnfobeeflnhaa.twiceMakes
open Go.ChangeShapes Go.WideShapes Go.ChangeAt Go.RowKit Go.Proofs.YtjjnfobeeflnhaaW.PrintWords Go.Proofs.Ytjjnfobeeflnhaa.J Go.Proofs.Ytjjnfobeeflnhaa.Op
set_option linter.unusedVariables false
theorem own : ownKnob Try.prog.godebug = none := by kernel_rfl
theorem laidOut : laidOutB Try.prog = true := by kernel_rfl
set_option maxRecDepth 100000 in
theorem op0 : Opens Try.prog (Kd.pair (Kd.int .u64) (Kd.pair (Kd.int .i64) (Kd.int .i64))) 24 (fun x => (fun n => (Lit.int .u64 n).wf = true) x.1 ∧ (fun x => (fun n => (Lit.int .i64 n).wf = true) x.1 ∧ (fun n => (Lit.int .i64 n).wf = true) x.2) x.2) := (op_agg Try.underlying24 (opL_cons (by kernel_rfl) (by kernel_rfl) (op_int Try.underlying22) (by kernel_rfl) (opL_cons (by kernel_rfl) (by kernel_rfl) (op_int Try.underlying3) (by kernel_rfl) (opL_one (by kernel_rfl) (by kernel_rfl) (op_int Try.underlying3)))))
set_option maxRecDepth 100000 in
theorem op1 : Opens Try.prog (Kd.int .u64) 22 (fun n => (Lit.int .u64 n).wf = true) := (op_int Try.underlying22)
set_option maxRecDepth 100000 in
theorem op2 : Opens Try.prog (Kd.slice 22 (Kd.int .u64)) 31 (fun l => l.length ≤ maxLen ∧ l.length * 8 ≤ 140737488351232 ∧ ∀ a ∈ l, (fun n => (Lit.int .u64 n).wf = true) a) := (op_slice Try.underlying31 (by kernel_rfl) (by kernel_rfl) (op_int Try.underlying22))
set_option maxRecDepth 100000 in
theorem lifted (os : Os) (started : os.Started) (H : Type) (enc : TypeId × Value → H) :
    ReturnsInHanded {} Try.checked os 4 .any (Rows.twiceMakesSpec.pre6 enc Try.prog Try.f4 Rows.twiceMakesRow.domain false) (Rows.twiceMakesSpec.post enc Try.prog Try.f4 false true false false) := by
  refine returnsInHanded_of_change_sized (C := Try.checked) own started (by kernel_rfl) Try.func4
    (ChangeSpec.witness6 (enc := enc) (C := Try.checked) false ⟨#[], #[.agg #[.int .u64 0, .int .i64 0, .int .i64 0], .int .u64 0, .slice none 0 0], []⟩ 8 (by kernel_rfl) (by kernel_rfl) (by kernel_rfl) (by kernel_rfl)) ?_
  intro W base args ds gs before hval0 hW hcnd hsz0 _
  have hsz : (DataW.weightsEach Try.prog (Try.f4.params.toList ++ Rows.twiceMakesSpec.plain.varTypes Try.prog) (ds ++ gs)).all (· ≤ reachBytes) = true := hsz0
  have hval : ∀ (j : Nat) t v, Try.f4.params[j]? = some t → args[j]? = some v → Value.okWide Try.prog W .any base t v := hval0
  have hW' := hW
  obtain ⟨p, q, hA0, hV, rfl, hfz, hnd⟩ := hW
  have hA : DataW.TrodAll enc Try.prog W 0 (fun _ => true) true Try.f4.params.toList args.toList ds p := hA0
  rw [Try.params4] at hA hval hsz
  obtain ⟨v0, vs0, d0, ds0, p0, q0, hargs, rfl, rfl, h0, r0⟩ := trodAll_cons hA
  obtain ⟨v1, vs1, d1, ds1, p1, q1, rfl, rfl, rfl, h1, r1⟩ := trodAll_cons r0
  obtain ⟨v2, vs2, d2, ds2, p2, q2, rfl, rfl, rfl, h2, r2⟩ := trodAll_cons r1
  obtain ⟨rfl, rfl, rfl⟩ := trodAll_nil r2
  obtain rfl : args = #[v0, v1, v2] := by cases args; simp_all
  obtain ⟨rfl, rfl⟩ := trodVars_none hV
  have k0 := h0
  have lt0 : ∀ x ∈ p0, x.block < W.heap.size := by obtain ⟨m, hm⟩ := k0; exact DataW.trod_lt m _ _ _ hm
  obtain ⟨cs0, rfl, hn0⟩ := okWide_agg Try.underlying24 (hval 0 24 v0 rfl rfl)
  obtain ⟨⟨x0_0, x0_1, x0_2⟩, K0, ⟨w0_0, w0_1, w0_2⟩⟩ := arg op0 (by show cs0.toList.length = _; rw [Array.length_toList, hn0]; kernel_rfl) h0 hsz (j := 0) rfl rfl
  obtain ⟨g0_0, rg0_0, qg0_0, l0_0, M0_0⟩ := K0
  have l0_0' : g0_0 = [Value.int .u64 x0_0] := l0_0
  obtain ⟨g0_1, rg0_1, qg0_1, l0_1, M0_1⟩ := M0_0
  have l0_1' : g0_1 = [Value.int .i64 x0_1] := l0_1
  have M0_1' : rg0_1 = [Value.int .i64 x0_2] := M0_1
  obtain rfl : cs0 = #[.int .u64 x0_0, .int .i64 x0_1, .int .i64 x0_2] := by
    apply Array.toList_inj.1
    have z0 : cs0.toList = _ := qg0_0
    rw [z0, l0_0', qg0_1, l0_1', M0_1']
    rfl
  have k1 := h1
  have lt1 : ∀ x ∈ p1, x.block < W.heap.size := by obtain ⟨m, hm⟩ := k1; exact DataW.trod_lt m _ _ _ hm
  obtain ⟨x1, rfl⟩ := okWide_int Try.underlying22 (hval 1 22 v1 rfl rfl)
  obtain ⟨y1, e1, w1⟩ := arg op1 rfl h1 hsz (j := 1) rfl rfl
  have e1' : [Value.int .u64 x1] = [Value.int .u64 y1] := e1
  obtain rfl : x1 = y1 := by simpa using e1'
  have k2 := h2
  have lt2 : ∀ x ∈ p2, x.block < W.heap.size := by obtain ⟨m, hm⟩ := k2; exact DataW.trod_lt m _ _ _ hm
  obtain ⟨a2, len2, cap2, rfl⟩ := okWide_slice Try.underlying31 (hval 2 31 v2 rfl rfl)
  obtain ⟨x2, ⟨A2, c2, e2, hc2, hr2⟩, w2⟩ := arg op2 rfl h2 hsz (j := 2) rfl rfl
  have e2' : [Value.slice a2 len2 cap2] = [Value.slice A2 x2.length c2] := e2
  obtain ⟨rfl, rfl, rfl⟩ : a2 = A2 ∧ len2 = x2.length ∧ cap2 = c2 := by simpa using e2'
  clear hA0 hval0 hsz0 hsz
  obtain ⟨k, h⟩ := L.twiceMakes x0_0 x0_1 x0_2 x1 x2 w0_0 w0_1 w0_2 w1 w2
  refine (juntolaw07_TwiceMakes.calls k x0_0 x0_1 x0_2 x1 _ _ x2 true W hr2 hc2 h).mono fun e W' ⟨he, bel⟩ => ?_
  subst he
  exact ⟨_, rfl, _, _, _, [], _, [], hW', trodAll_mk1 (shut_bool Try.underlying4 _), (trodAll_cons_mk (Below.trod laidOut (by kernel_rfl) (of_decide_eq_true (by kernel_rfl)) k0 bel lt0) (trodAll_cons_mk (Below.trod laidOut (by kernel_rfl) (of_decide_eq_true (by kernel_rfl)) k1 bel lt1) (trodAll_cons_mk (Below.trod laidOut (by kernel_rfl) (of_decide_eq_true (by kernel_rfl)) k2 bel lt2) trodAll_mk0))), rfl, bel.frame _, fun h => by cases h⟩
set_option maxRecDepth 100000 in
theorem closed : joinedFacts Try.pinned.checked.prog 4 Try.f4 Rows.twiceMakesSpec Rows.twiceMakesRow = true := by
  unfold joinedFacts
  repeat' with_reducible refine Bool.and_eq_true_iff.2 ⟨?_, ?_⟩
  all_goals first
    | with_reducible exact Facts.enters
    | (rw [Facts.final]; kernel_rfl)
    | (rw [Facts.made]; kernel_rfl)
    | kernel_rfl
theorem over : Rows.twiceMakesRow.holds Try.pinned (OpenSpec.ofChange Rows.twiceMakesSpec) :=
  OpenClaim.holds_of_wide 4 Try.f4 rfl rfl rfl rfl rfl rfl rfl ⟨rfl, rfl, rfl, rfl, rfl⟩ rfl rfl rfl rfl rfl (by kernel_rfl) Try.func4 closed
    (of_decide_eq_true (by kernel_rfl)) (by unfold Func.isWrapper; first | (rw [if_pos (by decide +kernel)]; kernel_rfl) | (rw [if_neg (by decide +kernel)]; exact ⟨rfl, rfl⟩))
    (fun os started H enc _ => lifted os started H enc)
theorem proved : Rows.TwiceMakesSaid := over
#print axioms proved
end Go.Proofs.Ytjjnfobeeflnhaa.twiceMakes
namespace Go.Proofs.Ytjjnfobeeflnhaa
/-- The row, under a short name, for the claim. -/
theorem twiceMakes_holds : Rows.TwiceMakesSaid := twiceMakes.proved
end Go.Proofs.Ytjjnfobeeflnhaa
