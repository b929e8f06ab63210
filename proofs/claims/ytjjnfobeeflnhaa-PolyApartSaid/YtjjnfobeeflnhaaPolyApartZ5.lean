/- Part 5 of the proof of PolyApart: what the functions compute as plain Lean functions, that the machine comes to just these answers, and that the answer is true; no conditions. -/
import Derived.Test.YtjjnfobeeflnhaaPolyApartZ0
import Derived.Test.YtjjnfobeeflnhaaPolyApartZ1
import Derived.Test.YtjjnfobeeflnhaaPolyApartZ2
import Derived.Test.YtjjnfobeeflnhaaPolyApartZ3
import Derived.Test.YtjjnfobeeflnhaaPolyApartZ4
import Derived.Deep.Slices
import Derived.ChangeArms
import Derived.DataReads
import Derived.SizedLaws
import Derived.WideShapes
import Derived.Test.YtjjnfobeeflnhaaRows
import Derived.JoinedOf
import Derived.KernelRfl
import Derived.WalkSmall
import Derived.WalkKit
import Derived.ProofKit
import Derived.OpenShut
import Derived.ShutString
import Derived.ChangeOld
import Derived.Below
/- What comes in laid out as a type says is a value of a kind, within the bounds that its weights leave: once for every type. -/
namespace Go.Proofs.Ytjjnfobeeflnhaa.Op
open Go.RowKit Go.Proofs.YtjjnfobeeflnhaaW.PrintWords Go.Proofs.YtjjnfobeeflnhaaW.PrintLast Go.Proofs.YtjjnfobeeflnhaaW.PrintMore

def Opens {α : Type} (P : Program) (d : Kd α) (t : TypeId) (wf : α → Prop) : Prop :=
  ∀ (H : Type) (enc : TypeId × Value → H) (w : World) (base fuel : Nat) (spare : Nat → Bool) (held : Bool) (cs : List Value) (x : DataW H × List MemPlace), cs.length = d.sz →
    DataW.trod enc P w base spare held fuel t cs = some x → (x.1.weights P t).all (· ≤ reachBytes) = true → ∃ a, d.K w a cs ∧ wf a

theorem op_int {P : Program} {t : TypeId} {k : IntKind} (ht : P.underlying t = some (.int k)) : Opens P (Kd.int k) t (fun n => (Lit.int k n).wf = true) := by
  intro H enc w base fuel spare held cs x _ h _
  obtain ⟨n, rfl, _, hw⟩ := DataW.trod_int ht h
  exact ⟨n, rfl, hw⟩

theorem op_bool {P : Program} {t : TypeId} (ht : P.underlying t = some .bool) : Opens P Kd.bool t (fun _ => True) := by
  intro H enc w base fuel spare held cs x _ h _
  obtain ⟨n, rfl, _⟩ := DataW.trod_bool ht h
  exact ⟨n, rfl, trivial⟩

theorem all_weights {H : Type} {P : Program} {e : TypeId} {p : Nat → Bool} : ∀ (ds : List (DataW H)), (DataW.weightsAll P e ds).all p = true → ∀ d ∈ ds, (d.weights P e).all p = true
  | [], _, d, hd => by simp at hd
  | a :: r, h, d, hd => by
    unfold DataW.weightsAll at h
    rw [List.all_append, Bool.and_eq_true] at h
    rcases List.mem_cons.1 hd with rfl | hd
    · exact h.1
    · exact all_weights r h.2 d hd

theorem add_add_ (a : Addr) (i j : Nat) : a.add (i + j) = (a.add i).add j := by
  cases a
  unfold Addr.add
  rcases Nat.eq_zero_or_pos i with hi | hi <;> rcases Nat.eq_zero_or_pos j with hj | hj
  · simp [hi, hj]
  · simp [hi, show j ≠ 0 by omega]
  · simp [hj, show i ≠ 0 by omega]
  · simp [show i ≠ 0 by omega, show j ≠ 0 by omega, Nat.add_assoc]

theorem pick {β : Type} {p : Nat → β → Prop} : ∀ n, (∀ i : Nat, i < n → ∃ q, p i q) → ∃ l : List β, l.length = n ∧ ∀ (i : Nat) (q : β), l[i]? = some q → p i q
  | 0, _ => ⟨[], rfl, fun i q h => by simp at h⟩
  | n + 1, h => by
    obtain ⟨l, hl, hp⟩ := pick n (fun i hi => h i (by omega))
    obtain ⟨q, hq⟩ := h n (by omega)
    refine ⟨l ++ [q], by simp [hl], fun i r hr => ?_⟩
    rcases Nat.lt_or_ge i l.length with hi | hi
    · rw [List.getElem?_append_left hi] at hr
      exact hp i r hr
    · rw [List.getElem?_append_right hi] at hr
      have h0 : i - l.length = 0 := by
        rcases Nat.eq_zero_or_pos (i - l.length) with h' | h'
        · exact h'
        · rw [List.getElem?_eq_none (by simp; omega)] at hr; cases hr
      rw [h0] at hr
      obtain rfl : q = r := by simpa using hr
      have : i = n := by omega
      rw [this]; exact hq

theorem weights_at {H : Type} {P : Program} {p : Nat → Bool} : ∀ (ts : List TypeId) (ds : List (DataW H)) (j : Nat) {t : TypeId} {d : DataW H}, (DataW.weightsEach P ts ds).all p = true → ts[j]? = some t → ds[j]? = some d → (d.weights P t).all p = true
  | [], _, _, _, _, _, ht, _ => by simp at ht
  | _ :: _, [], _, _, _, _, _, hd => by simp at hd
  | t :: ts, d :: ds, j, t', d', h, ht, hd => by
    unfold DataW.weightsEach at h
    rw [List.all_append, Bool.and_eq_true] at h
    match j, ht, hd with
    | 0, ht, hd =>
      obtain rfl : t = t' := by simpa using ht
      obtain rfl : d = d' := by simpa using hd
      exact h.1
    | j + 1, ht, hd => exact weights_at ts ds j h.2 (by simpa using ht) (by simpa using hd)

theorem op_slice {α : Type} {P : Program} {d : Kd α} {t e : TypeId} {B : Nat} {wf : α → Prop} (ht : P.underlying t = some (.slice e)) (hB : P.bytesOf e = B) (hsz : P.cellsOf e = d.sz) (he : Opens P d e wf) :
    Opens P (Kd.slice e d) t (fun l => l.length ≤ maxLen ∧ l.length * B ≤ 140737488351232 ∧ ∀ a ∈ l, wf a) := by
  intro H enc w base fuel spare held cs x _ h hw
  rcases Go.Deep.open_slice ht h with ⟨rfl, _⟩ | ⟨a, len, cap, m, n, D, Pl, rfl, hb, hl, hm, hmm, rfl, hx⟩
  · exact ⟨[], ⟨none, 0, rfl, Nat.le_refl _, rfl, Nat.zero_le _, fun h0 => absurd h0 (by simp)⟩, by simp, by simp, fun a ha => by simp at ha⟩
  · have hlm : len ≤ m := by rw [hmm]; split <;> omega
    simp only [DataW.weights, ht, List.all_cons, List.all_append, Bool.and_eq_true, List.length_map, List.length_range] at hw
    obtain ⟨hw0, hw1, _⟩ := hw
    have each : ∀ i : Nat, i < len → ∃ q : α, wf q ∧ ∃ c : List Value, c.length = d.sz ∧ d.K w q c ∧ ∀ j u, c[j]? = some u → w.cell? (a.add (i * d.sz + j)) = some u := by
      intro i hi
      obtain ⟨cs', h1, h2⟩ := hx i (by omega)
      rw [hsz] at h1
      obtain ⟨_, hlen, hcell⟩ := World.cells?_some h1
      obtain ⟨y, hK, hwf⟩ := he H enc w base n spare held cs' _ hlen h2 (all_weights _ hw1 _ (List.mem_map.2 ⟨i, List.mem_range.2 hi, rfl⟩))
      refine ⟨y, hwf, cs', hlen, hK, fun j u hu => ?_⟩
      have hj : j < d.sz := by
        rw [← hlen]
        rcases Nat.lt_or_ge j cs'.length with h' | h'
        · exact h'
        · rw [List.getElem?_eq_none h'] at hu; cases hu
      have := hcell j hj
      rw [hu] at this
      rw [show a.add (i * d.sz + j) = (a.add (i * d.sz)).add j from add_add_ _ _ _]
      exact this
    obtain ⟨l, rfl, hl2⟩ := pick len each
    refine ⟨l, ⟨some a, cap, rfl, hl, rfl, Nat.le_trans hl hm, fun _ => ⟨a, rfl, fun j p hj => (hl2 j p hj).2⟩⟩, Nat.le_trans hl hm, ?_, ?_⟩
    · have hw2 := of_decide_eq_true hw0
      rw [hB] at hw2
      exact Nat.le_trans (Nat.mul_le_mul_right _ (by omega)) hw2
    · intro y hy
      obtain ⟨j, hj⟩ := List.mem_iff_getElem?.1 hy
      exact (hl2 j y hj).1

/-- Fields in line, from the place o on. -/
def OpL {β : Type} (P : Program) (d : Kd β) (fs : List Field) (o : Nat) (wf : β → Prop) : Prop :=
  ∀ (H : Type) (enc : TypeId × Value → H) (w : World) (base n : Nat) (spare : Nat → Bool) (held : Bool) (cs : List Value) (xs : List (DataW H × List MemPlace)), cs.length = d.sz → xs.length = fs.length →
    (∀ (i : Nat) (f : Field), fs[i]? = some f → DataW.trod enc P w base spare held n f.type ((cs.drop (f.offset - o)).take (P.cellsOf f.type)) = xs[i]?) →
    (DataW.weightsEach P (fs.map (·.type)) (xs.map (·.1))).all (· ≤ reachBytes) = true → ∃ a, d.K w a cs ∧ wf a

theorem opL_one {β : Type} {P : Program} {d : Kd β} {f : Field} {o : Nat} {wf : β → Prop} (ho : f.offset = o) (hc : P.cellsOf f.type = d.sz) (h : Opens P d f.type wf) : OpL P d [f] o wf := by
  intro H enc w base n spare held cs xs hl hx hf hw
  match xs, hx with
  | [y], _ =>
    have h0 := hf 0 f rfl
    rw [ho, Nat.sub_self, List.drop_zero, hc, ← hl, List.take_length] at h0
    simp only [List.map_cons, List.map_nil, DataW.weightsEach, List.append_nil] at hw
    exact h H enc w base n spare held cs y hl h0 hw

theorem opL_cons {α β : Type} {P : Program} {d1 : Kd α} {d : Kd β} {f : Field} {fs : List Field} {o : Nat} {wf1 : α → Prop} {wf : β → Prop} (ho : f.offset = o) (hc : P.cellsOf f.type = d1.sz) (h1 : Opens P d1 f.type wf1)
    (hfs0 : (fs.all fun g => decide (o + d1.sz ≤ g.offset)) = true) (h : OpL P d fs (o + d1.sz) wf) : OpL P (Kd.pair d1 d) (f :: fs) o (fun x => wf1 x.1 ∧ wf x.2) := by
  have hfs : ∀ g ∈ fs, o + d1.sz ≤ g.offset := fun g hg => of_decide_eq_true (List.all_eq_true.1 hfs0 g hg)
  intro H enc w base n spare held cs xs hl hx hf hw
  have hl' : cs.length = d1.sz + d.sz := hl
  match xs, hx with
  | y :: ys, hx =>
    have h0 := hf 0 f rfl
    rw [ho, Nat.sub_self, List.drop_zero, hc] at h0
    simp only [List.map_cons, DataW.weightsEach, List.all_append, Bool.and_eq_true] at hw
    obtain ⟨a, ka, wa⟩ := h1 H enc w base n spare held (cs.take d1.sz) y (by rw [List.length_take]; omega) h0 hw.1
    obtain ⟨b, kb, wb⟩ := h H enc w base n spare held (cs.drop d1.sz) ys (by rw [List.length_drop]; omega) (by simpa using hx) (fun i g hg => by
      have := hf (i + 1) g (by simpa using hg)
      rw [List.drop_drop]
      have hg2 := hfs g (List.mem_of_getElem? hg)
      rw [show d1.sz + (g.offset - (o + d1.sz)) = g.offset - o by omega, this]
      simp) hw.2
    exact ⟨(a, b), ⟨cs.take d1.sz, cs.drop d1.sz, (List.take_append_drop _ _).symm, ka, kb⟩, wa, wb⟩

theorem op_struct {α β : Type} {P : Program} {d : Kd α} {t : TypeId} {fs : Array Field} {wf : α → Prop} {p : β → α} (g : α → β) (hg : ∀ a, p (g a) = a) (ht : P.underlying t = some (.struct fs)) (h : OpL P d fs.toList 0 wf) :
    Opens P (Kd.iso d p) t (fun b => wf (p b)) := by
  intro H enc w base fuel spare held cs x hl hx hw
  obtain ⟨xs, n, rfl, rfl, _, hxl, hf⟩ := DataW.trod_struct ht hx
  simp only [DataW.weights, ht] at hw
  obtain ⟨a, ka, wa⟩ := h H enc w base n spare held cs xs hl (by simpa using hxl) (fun i f hi => by
    rw [Nat.sub_zero]
    exact hf i f (by simpa using hi)) hw
  refine ⟨g a, ?_, ?_⟩
  · show d.K w (p (g a)) cs
    rw [hg]; exact ka
  · show wf (p (g a))
    rw [hg]; exact wa

theorem op_agg {α : Type} {P : Program} {d : Kd α} {t : TypeId} {fs : Array Field} {wf : α → Prop} (ht : P.underlying t = some (.struct fs)) (h : OpL P d fs.toList 0 wf) : Opens P d t wf :=
  op_struct (d := d) (p := fun a => a) (fun a => a) (fun _ => rfl) ht h

theorem okWide_agg {P : Program} {W : World} {r : Reach} {b0 : Nat} {t : TypeId} {fs : Array Field} {v : Value} (ht : P.underlying t = some (.struct fs)) (h : Value.okWide P W r b0 t v) : ∃ cs, v = .agg cs ∧ cs.size = P.cellsOf t := by
  simp only [Value.okWide, ht] at h
  obtain ⟨cs, h1, h2, _⟩ := h
  exact ⟨cs, h1, h2⟩

/-- One argument. -/
theorem arg {α H : Type} {enc : TypeId × Value → H} {P : Program} {d : Kd α} {t : TypeId} {wf : α → Prop} (h : Opens P d t wf) {w : World} {base : Nat} {spare : Nat → Bool} {held : Bool} {v : Value} {x : DataW H} {ps : List MemPlace}
    (hl : v.cells.toList.length = d.sz) (hv : DataW.Trod enc P w base spare held t v x ps) {ts : List TypeId} {ds : List (DataW H)} {j : Nat} (hsz : (DataW.weightsEach P ts ds).all (· ≤ reachBytes) = true) (ht : ts[j]? = some t) (hd : ds[j]? = some x) :
    ∃ a, d.K w a v.cells.toList ∧ wf a := by
  obtain ⟨fuel, hf⟩ := hv
  exact h H enc w base fuel spare held _ _ hl hf (weights_at ts ds j hsz ht hd)

end Go.Proofs.Ytjjnfobeeflnhaa.Op

/- Three closed facts over the whole program, with its header's words as numbers. -/
namespace Go.Proofs.Ytjjnfobeeflnhaa.Facts
theorem toList_of (s : String) (l : List Char) (h : s = String.ofList l) : s.toList = l := by rw [h, String.toList_ofList]
def glue : List (List Char) → List Char
  | [] => []
  | [w] => w
  | w :: v :: r => w ++ Char.ofNat 32 :: glue (v :: r)
theorem signs_space (r : List Char) : wordsSigns (Char.ofNat 32 :: r) = [] :: wordsSigns r := rfl
theorem signs_cons (c : Char) (r : List Char) (h : c ≠ Char.ofNat 32) (w : List Char) (ws : List (List Char)) (e : wordsSigns r = w :: ws) : wordsSigns (c :: r) = (c :: w) :: ws := by
  rw [wordsSigns]
  · rw [e]
  · exact h
theorem signs_one : ∀ (w : List Char), (∀ c ∈ w, c ≠ Char.ofNat 32) → wordsSigns w = [w]
  | [], _ => rfl
  | c :: w, h => signs_cons c w (h c (List.mem_cons_self ..)) _ _ (signs_one w (fun d hd => h d (List.mem_cons_of_mem _ hd)))
theorem signs_more (r : List Char) : ∀ (w : List Char), (∀ c ∈ w, c ≠ Char.ofNat 32) → wordsSigns (w ++ Char.ofNat 32 :: r) = w :: wordsSigns r
  | [], _ => signs_space r
  | c :: w, h => signs_cons c _ (h c (List.mem_cons_self ..)) _ _ (signs_more r w (fun d hd => h d (List.mem_cons_of_mem _ hd)))
theorem signs_glue : ∀ (ws : List (List Char)), ws ≠ [] → (∀ w ∈ ws, ∀ c ∈ w, c ≠ Char.ofNat 32) → wordsSigns (glue ws) = ws
  | [], h, _ => absurd rfl h
  | [w], _, h => signs_one w (h w (List.mem_cons_self ..))
  | w :: v :: r, _, h => by
    rw [glue, signs_more _ w (h w (List.mem_cons_self ..)), signs_glue (v :: r) (by simp) (fun u hu => h u (List.mem_cons_of_mem _ hu))]
def W : List (List Char) := (List.map (List.map Char.ofNat) [[104, 97, 114, 110, 101, 115, 115],
  [56, 98, 98, 99, 100, 53, 56, 100, 55, 50, 48, 97, 53, 56, 100, 57, 52, 98, 55, 57, 101, 52, 50, 101, 52, 51, 102, 99, 99, 49, 53, 53, 57, 54, 97, 50, 97, 48, 101, 99, 97, 98, 49, 48, 54, 55, 52, 48, 102, 55, 97, 48, 53, 52, 57, 55, 52, 100, 97, 52, 102, 54, 100, 56],
  [99, 117, 116],
  [97, 116],
  [106, 117, 110, 116, 111, 47, 106, 117, 110, 116, 111, 108, 97, 119, 48, 55, 46, 84, 119, 105, 99, 101, 67, 104, 101, 99, 107, 115],
  [106, 117, 110, 116, 111, 47, 106, 117, 110, 116, 111, 108, 97, 119, 48, 55, 46, 84, 119, 105, 99, 101, 77, 97, 107, 101, 115],
  [106, 117, 110, 116, 111, 47, 106, 117, 110, 116, 111, 108, 97, 119, 48, 55, 46, 84, 119, 105, 99, 101, 86, 97, 108, 117, 101, 115],
  [106, 117, 110, 116, 111, 47, 106, 117, 110, 116, 111, 108, 97, 119, 48, 55, 46, 84, 119, 105, 99, 101, 80, 114, 111, 100, 117, 99, 116],
  [106, 117, 110, 116, 111, 47, 106, 117, 110, 116, 111, 108, 97, 119, 48, 55, 46, 84, 119, 105, 99, 101, 74, 111, 105, 110, 115],
  [106, 117, 110, 116, 111, 47, 106, 117, 110, 116, 111, 108, 97, 119, 48, 55, 46, 84, 119, 105, 99, 101, 79, 110, 101],
  [106, 117, 110, 116, 111, 47, 106, 117, 110, 116, 111, 108, 97, 119, 48, 55, 46, 84, 119, 105, 99, 101, 77, 111, 118, 101, 115],
  [106, 117, 110, 116, 111, 47, 106, 117, 110, 116, 111, 108, 97, 119, 48, 52, 46, 83, 104, 97, 114, 101, 83, 101, 116, 117, 112, 115],
  [106, 117, 110, 116, 111, 47, 106, 117, 110, 116, 111, 108, 97, 119, 48, 52, 46, 83, 104, 97, 114, 101, 77, 97, 107, 101, 115],
  [106, 117, 110, 116, 111, 47, 106, 117, 110, 116, 111, 108, 97, 119, 48, 52, 46, 83, 104, 97, 114, 101, 86, 97, 108, 117, 101, 115],
  [106, 117, 110, 116, 111, 47, 106, 117, 110, 116, 111, 108, 97, 119, 48, 52, 46, 83, 104, 97, 114, 101, 77, 111, 118, 101, 115],
  [106, 117, 110, 116, 111, 47, 106, 117, 110, 116, 111, 108, 97, 119, 48, 52, 46, 83, 104, 97, 114, 101, 78, 111, 116, 104, 105, 110, 103],
  [106, 117, 110, 116, 111, 47, 106, 117, 110, 116, 111, 108, 97, 119, 48, 52, 46, 83, 104, 97, 114, 101, 79, 110, 108, 121],
  [106, 117, 110, 116, 111, 47, 106, 117, 110, 116, 111, 108, 97, 119, 48, 52, 46, 83, 104, 97, 114, 101, 84, 104, 101, 114, 101],
  [106, 117, 110, 116, 111, 47, 106, 117, 110, 116, 111, 108, 97, 119, 48, 52, 46, 83, 104, 97, 114, 101, 83, 117, 109, 115],
  [106, 117, 110, 116, 111, 47, 106, 117, 110, 116, 111, 108, 97, 119, 48, 52, 46, 83, 104, 97, 114, 101, 70, 105, 116, 115],
  [106, 117, 110, 116, 111, 47, 106, 117, 110, 116, 111, 108, 97, 119, 48, 55, 46, 84, 119, 105, 99, 101, 67, 117, 116, 115],
  [106, 117, 110, 116, 111, 47, 106, 117, 110, 116, 111, 108, 97, 119, 48, 55, 46, 84, 119, 105, 99, 101, 77, 111, 118, 101, 100],
  [106, 117, 110, 116, 111, 47, 106, 117, 110, 116, 111, 108, 97, 119, 48, 50, 46, 80, 111, 108, 121, 84, 104, 114, 111, 117, 103, 104],
  [106, 117, 110, 116, 111, 47, 106, 117, 110, 116, 111, 108, 97, 119, 48, 50, 46, 80, 111, 108, 121, 87, 101, 105, 103, 104, 116, 115],
  [106, 117, 110, 116, 111, 47, 106, 117, 110, 116, 111, 108, 97, 119, 48, 50, 46, 80, 111, 108, 121, 65, 119, 97, 121],
  [106, 117, 110, 116, 111, 47, 106, 117, 110, 116, 111, 108, 97, 119, 48, 50, 46, 80, 111, 108, 121, 83, 108, 111, 112, 101, 115],
  [106, 117, 110, 116, 111, 47, 106, 117, 110, 116, 111, 108, 97, 119, 48, 50, 46, 80, 111, 108, 121, 80, 114, 111, 100, 117, 99, 116, 115],
  [106, 117, 110, 116, 111, 47, 106, 117, 110, 116, 111, 108, 97, 119, 48, 50, 46, 80, 111, 108, 121, 83, 117, 109, 115],
  [106, 117, 110, 116, 111, 47, 106, 117, 110, 116, 111, 108, 97, 119, 48, 50, 46, 80, 111, 108, 121, 66, 97, 99, 107],
  [106, 117, 110, 116, 111, 47, 106, 117, 110, 116, 111, 108, 97, 119, 48, 50, 46, 80, 111, 108, 121, 86, 97, 108, 117, 101, 115],
  [106, 117, 110, 116, 111, 47, 106, 117, 110, 116, 111, 108, 97, 119, 48, 50, 46, 80, 111, 108, 121, 82, 111, 111, 116, 115],
  [106, 117, 110, 116, 111, 47, 106, 117, 110, 116, 111, 108, 97, 119, 48, 50, 46, 80, 111, 108, 121, 70, 101, 119],
  [106, 117, 110, 116, 111, 47, 106, 117, 110, 116, 111, 108, 97, 119, 48, 50, 46, 80, 111, 108, 121, 86, 97, 108, 117, 101, 100],
  [106, 117, 110, 116, 111, 47, 106, 117, 110, 116, 111, 108, 97, 119, 48, 50, 46, 80, 111, 108, 121, 81, 117, 111, 116, 105, 101, 110, 116, 115],
  [106, 117, 110, 116, 111, 47, 106, 117, 110, 116, 111, 108, 97, 119, 48, 50, 46, 80, 111, 108, 121, 65, 112, 97, 114, 116],
  [106, 117, 110, 116, 111, 47, 106, 117, 110, 116, 111, 108, 97, 119, 48, 52, 46, 83, 104, 97, 114, 101, 83, 101, 99, 114, 101, 116, 115],
  [106, 117, 110, 116, 111, 47, 106, 117, 110, 116, 111, 108, 97, 119, 48, 52, 46, 83, 104, 97, 114, 101, 66, 97, 99, 107]])
set_option maxRecDepth 100000 in
theorem head : Try.pinned.checked.prog.initOrder.toList = glue W := toList_of _ _ (by kernel_rfl)
theorem plain : (W.all fun w => w.all fun c => c.toNat != 32) = true := by kernel_rfl
theorem signs : wordsSigns Try.pinned.checked.prog.initOrder.toList = W := by
  rw [head]
  refine signs_glue W (by simp [W]) fun w hw c hc e => ?_
  have h := List.all_eq_true.1 (List.all_eq_true.1 plain w hw) c hc
  rw [e] at h
  cases h
theorem words : behindMainWord (wordsSigns Try.pinned.checked.prog.initOrder.toList) = W.drop 2 := by
  rw [signs]
  kernel_rfl
theorem lifts : Try.pinned.checked.prog.headLifts = [] := by
  unfold Program.headLifts
  rw [words]
  kernel_rfl
theorem final : Try.pinned.checked.prog.liftsFinal = false := by
  unfold Program.liftsFinal
  rw [words, lifts]
  kernel_rfl
theorem made_of (P : Program) (rest : List (List Char)) (h : behindMainWord (wordsSigns P.initOrder.toList) = [Char.ofNat 99, Char.ofNat 117, Char.ofNat 116] :: rest) : P.make = some .cut := by
  unfold Program.make
  rw [h]
  kernel_rfl
theorem enters_of (P : Program) (rest : List (List Char)) (h : behindMainWord (wordsSigns P.initOrder.toList) = [Char.ofNat 99, Char.ofNat 117, Char.ofNat 116] :: rest) (hl : P.laysLater = false) (hb : P.bearsReflect = false) (hd : P.doorFits [] = true)
    (hs : stripLifts liftWords ([Char.ofNat 99, Char.ofNat 117, Char.ofNat 116] :: rest) = ([], [Char.ofNat 99, Char.ofNat 117, Char.ofNat 116] :: rest)) : P.mayEnter = true := by
  unfold Program.mayEnter
  rw [h]
  simp only [hs, hl, hb, hd]
  kernel_rfl
theorem made : Try.pinned.checked.prog.make = some .cut := made_of _ (W.drop 3) (words.trans (by kernel_rfl))
theorem enters : Try.pinned.checked.prog.mayEnter = true := enters_of _ (W.drop 3) (words.trans (by kernel_rfl)) (by kernel_rfl) (by kernel_rfl) (by kernel_rfl) (by kernel_rfl)
end Go.Proofs.Ytjjnfobeeflnhaa.Facts

/- Both tests of a prime and both tests of a setup answer alike, and what they answer. -/
namespace Go.Proofs.Ytjjnfobeeflnhaa.L
open Go.RowKit Go.Proofs.YtjjnfobeeflnhaaW.PrintWords Go.Proofs.Ytjjnfobeeflnhaa.J
set_option linter.unusedVariables false
set_option linter.unusedSimpArgs false

theorem u64_small {n : Int} (h0 : 0 ≤ n) (h1 : n < 18446744073709551616) : IntKind.u64.wrap n = n := by
  simp [IntKind.wrap, IntKind.signed, IntKind.bits]
  omega
theorem w64_small {n : Int} (h0 : -9223372036854775808 ≤ n) (h1 : n < 9223372036854775808) : wrap64 n = n := by
  unfold wrap64
  omega

/-- No divisor from 2 on whose square is at most a. -/
def free (a : Int) : Prop := ∀ y : Fin 257, 2 ≤ y.val → ((y.val : Int) * (y.val : Int)) ≤ a → a % (y.val : Int) ≠ 0
def isP (a : Int) : Bool := decide (3 ≤ a ∧ a ≤ 65537 ∧ ∀ y : Fin 257, 2 ≤ y.val → ((y.val : Int) * (y.val : Int)) ≤ a → a % (y.val : Int) ≠ 0)
theorem free_of {a : Int} (h : a ≤ 65537) (hf : ∀ y : Fin 257, 2 ≤ y.val → ((y.val : Int) * (y.val : Int)) ≤ a → a % (y.val : Int) ≠ 0) (y : Int) (h2 : 2 ≤ y) (hy : y * y ≤ a) : a % y ≠ 0 := by
  have hb : y < 257 := by
    rcases Int.lt_or_le y 257 with h' | h'
    · exact h'
    · have : 257 * 257 ≤ y * y := Int.mul_le_mul h' h' (by omega) (by omega)
      omega
  have := hf ⟨y.toNat, by omega⟩ (show 2 ≤ y.toNat by omega)
  simp only at this
  rw [show ((y.toNat : Nat) : Int) = y by omega] at this
  exact this hy
theorem isP_iff (a : Int) : isP a = true ↔ 3 ≤ a ∧ a ≤ 65537 ∧ ∀ y : Int, 2 ≤ y → y * y ≤ a → a % y ≠ 0 := by
  unfold isP
  rw [decide_eq_true_iff]
  constructor
  · rintro ⟨h1, h2, h3⟩
    exact ⟨h1, h2, fun y hy => free_of h2 h3 y hy⟩
  · rintro ⟨h1, h2, h3⟩
    exact ⟨h1, h2, fun y hy hq => h3 y.val (by omega) hq⟩

theorem sq_small {x : Int} (h0 : 0 ≤ x) (h1 : x ≤ 300) : 0 ≤ x * x ∧ x * x ≤ 90000 :=
  ⟨Int.mul_nonneg h0 h0, Int.mul_le_mul h1 h1 h0 (by omega)⟩

theorem ref_loop (a : Int) (h3 : 3 ≤ a) (ha : a ≤ 65537) : ∀ (m : Nat) (x : Int), 2 ≤ x → x + m = 258 → (∀ y : Int, 2 ≤ y → y < x → y * y ≤ a → a % y ≠ 0) → Ev (fun k => juntoref01_Is.l0 k a x) (isP a)
  | 0, x, h2, hx, hy => by
    have hb : isP a = true := (isP_iff a).2 ⟨h3, ha, fun y y2 yq => hy y y2 (by
      rcases Int.lt_or_le y x with h' | h'
      · exact h'
      · have : 257 * 257 ≤ y * y := Int.mul_le_mul (by omega) (by omega) (by omega) (by omega)
        omega) yq⟩
    rw [hb]
    refine Ev.step (f := fun k => some true) (fun k => ?_) (Ev.now _)
    have hq := sq_small (x := x) (by omega) (by omega)
    have : ¬ (x * x ≤ a) := by
      have : 257 * 257 ≤ x * x := Int.mul_le_mul (by omega) (by omega) (by omega) (by omega)
      omega
    simp only [juntoref01_Is.l0]
    rw [u64_small hq.1 (by omega), if_neg this]
  | m + 1, x, h2, hx, hy => by
    have hq := sq_small (x := x) (by omega) (by omega)
    by_cases hle : x * x ≤ a
    · by_cases hd : a % x = 0
      · have hb : isP a = false := by
          rw [Bool.eq_false_iff]
          intro h'
          exact ((isP_iff a).1 h').2.2 x h2 hle hd
        rw [hb]
        refine Ev.step (f := fun k => some false) (fun k => ?_) (Ev.now _)
        simp only [juntoref01_Is.l0]
        rw [u64_small hq.1 (by omega), if_pos hle, if_neg (show ¬ x = 0 by omega), if_pos (by rw [Int.tmod_eq_emod_of_nonneg (by omega)]; exact hd)]
      · refine Ev.step (f := fun k => juntoref01_Is.l0 k a (x + 1)) (fun k => ?_) (ref_loop a h3 ha m (x + 1) (by omega) (by omega) fun y y2 yx yq => ?_)
        · conv => lhs; simp only [juntoref01_Is.l0]
          rw [u64_small hq.1 (by omega), if_pos hle, if_neg (show ¬ x = 0 by omega), if_neg (by rw [Int.tmod_eq_emod_of_nonneg (by omega)]; exact hd), u64_small (show 0 ≤ x + 1 by omega) (by omega)]
        · rcases Int.lt_or_le y x with h' | h'
          · exact hy y y2 h' yq
          · obtain rfl : y = x := by omega
            exact hd
    · have hb : isP a = true := (isP_iff a).2 ⟨h3, ha, fun y y2 yq => hy y y2 (by
        rcases Int.lt_or_le y x with h' | h'
        · exact h'
        · have : x * x ≤ y * y := Int.mul_le_mul h' h' (by omega) (by omega)
          omega) yq⟩
      rw [hb]
      refine Ev.step (f := fun k => some true) (fun k => ?_) (Ev.now _)
      simp only [juntoref01_Is.l0]
      rw [u64_small hq.1 (by omega), if_neg hle]

theorem odd_loop (a : Int) (h3 : 3 ≤ a) (ha : a ≤ 65537) (hodd : a % 2 = 1) : ∀ (m : Nat) (x : Int), 3 ≤ x → x % 2 = 1 → x + 2 * m = 259 → (∀ y : Int, 2 ≤ y → y < x → y * y ≤ a → a % y ≠ 0) → Ev (fun k => field_Is.l0 k a x) (isP a)
  | 0, x, h2, hxo, hx, hy => by
    have hb : isP a = true := (isP_iff a).2 ⟨h3, ha, fun y y2 yq => hy y y2 (by
      rcases Int.lt_or_le y x with h' | h'
      · exact h'
      · have : 257 * 257 ≤ y * y := Int.mul_le_mul (by omega) (by omega) (by omega) (by omega)
        omega) yq⟩
    rw [hb]
    refine Ev.step (f := fun k => some true) (fun k => ?_) (Ev.now _)
    have hq := sq_small (x := x) (by omega) (by omega)
    have : ¬ (x * x ≤ a) := by
      have : 257 * 257 ≤ x * x := Int.mul_le_mul (by omega) (by omega) (by omega) (by omega)
      omega
    simp only [field_Is.l0]
    rw [u64_small hq.1 (by omega), if_neg this]
  | m + 1, x, h2, hxo, hx, hy => by
    have hq := sq_small (x := x) (by omega) (by omega)
    by_cases hle : x * x ≤ a
    · by_cases hd : a % x = 0
      · have hb : isP a = false := by
          rw [Bool.eq_false_iff]
          intro h'
          exact ((isP_iff a).1 h').2.2 x (by omega) hle hd
        rw [hb]
        refine Ev.step (f := fun k => some false) (fun k => ?_) (Ev.now _)
        simp only [field_Is.l0]
        rw [u64_small hq.1 (by omega), if_pos hle, if_neg (show ¬ x = 0 by omega), if_pos (by rw [Int.tmod_eq_emod_of_nonneg (by omega)]; exact hd)]
      · refine Ev.step (f := fun k => field_Is.l0 k a (x + 2)) (fun k => ?_) (odd_loop a h3 ha hodd m (x + 2) (by omega) (by omega) (by omega) fun y y2 yx yq => ?_)
        · conv => lhs; simp only [field_Is.l0]
          rw [u64_small hq.1 (by omega), if_pos hle, if_neg (show ¬ x = 0 by omega), if_neg (by rw [Int.tmod_eq_emod_of_nonneg (by omega)]; exact hd), u64_small (show 0 ≤ x + 2 by omega) (by omega)]
        · rcases Int.lt_or_le y x with h' | h'
          · exact hy y y2 h' yq
          · rcases Int.lt_or_le x y with h'' | h''
            · obtain rfl : y = x + 1 := by omega
              intro h0
              have h1 : (2 : Int) ∣ a := Int.dvd_trans (Int.dvd_of_emod_eq_zero (by omega)) (Int.dvd_of_emod_eq_zero h0)
              have := Int.emod_eq_zero_of_dvd h1
              omega
            · obtain rfl : y = x := by omega
              exact hd
    · have hb : isP a = true := (isP_iff a).2 ⟨h3, ha, fun y y2 yq => hy y y2 (by
        rcases Int.lt_or_le y x with h' | h'
        · exact h'
        · have : x * x ≤ y * y := Int.mul_le_mul h' h' (by omega) (by omega)
          omega) yq⟩
      rw [hb]
      refine Ev.step (f := fun k => some true) (fun k => ?_) (Ev.now _)
      simp only [field_Is.l0]
      rw [u64_small hq.1 (by omega), if_neg hle]

theorem not_isP {a : Int} (h : ¬ (3 ≤ a ∧ a ≤ 65537)) : isP a = false := by
  rw [Bool.eq_false_iff]
  intro h'
  have := (isP_iff a).1 h'
  exact h ⟨this.1, this.2.1⟩

theorem ref_is (a : Int) : Ev (fun k => juntoref01_Is.f k a) (isP a) := by
  by_cases h3 : a < 3
  · rw [not_isP (by omega)]
    refine Ev.step (f := fun k => some false) (fun k => ?_) (Ev.now _)
    simp [juntoref01_Is.f, juntoref01_Is.j0, h3]
  · by_cases hb : a > 65537
    · rw [not_isP (by omega)]
      refine Ev.step (f := fun k => some false) (fun k => ?_) (Ev.now _)
      simp [juntoref01_Is.f, juntoref01_Is.j0, h3, hb]
    · refine Ev.step (f := fun k => juntoref01_Is.l0 k a 2) (fun k => ?_) (ref_loop a (by omega) (by omega) 256 2 (by omega) (by omega) fun y y2 yx => by omega)
      simp [juntoref01_Is.f, juntoref01_Is.j0, h3, hb]

theorem field_is (a : Int) : Ev (fun k => field_Is.f k a) (isP a) := by
  by_cases h3 : a < 3
  · rw [not_isP (by omega)]
    refine Ev.step (f := fun k => some false) (fun k => ?_) (Ev.now _)
    simp [field_Is.f, field_Is.j0, h3]
  · by_cases hb : a > 65537
    · rw [not_isP (by omega)]
      refine Ev.step (f := fun k => some false) (fun k => ?_) (Ev.now _)
      simp [field_Is.f, field_Is.j0, h3, hb]
    · by_cases ho : a % 2 = 0
      · have hp : isP a = false := by
          rw [Bool.eq_false_iff]
          intro h'
          exact ((isP_iff a).1 h').2.2 2 (by omega) (by omega) ho
        rw [hp]
        refine Ev.step (f := fun k => some false) (fun k => ?_) (Ev.now _)
        have ht : Int.tmod a 2 = 0 := by rw [Int.tmod_eq_emod_of_nonneg (by omega)]; exact ho
        simp [field_Is.f, field_Is.j0, h3, hb, ht]
      · refine Ev.step (f := fun k => field_Is.l0 k a 3) (fun k => ?_) (odd_loop a (by omega) (by omega) (by omega) 128 3 (by omega) (by omega) (by omega) fun y y2 yx yq => ?_)
        · have ht : ¬ Int.tmod a 2 = 0 := by rw [Int.tmod_eq_emod_of_nonneg (by omega)]; exact ho
          simp [field_Is.f, field_Is.j0, h3, hb, ht]
        · obtain rfl : y = 2 := by omega
          exact ho

/-- What the tests of a row answer: 0 or 2. -/
def belowV (p : Int) (l : List Int) : Int := if ∀ x ∈ l, x < p then 0 else 2

theorem below_loop (p : Int) (l : List Int) (hl : l.length ≤ maxLen) : ∀ (m i : Nat), i + m = l.length → (∀ x ∈ l.take i, x < p) → Ev (fun k => field_Below.l0 k p l (l.length : Int) (i : Int)) (belowV p l)
  | 0, i, hi, hx => by
    have hv : belowV p l = 0 := by
      unfold belowV
      rw [if_pos]
      rw [List.take_of_length_le (by omega)] at hx
      exact hx
    rw [hv]
    refine Ev.step (f := fun k => some 0) (fun k => ?_) (Ev.now _)
    simp only [field_Below.l0]
    rw [if_neg (by omega)]
  | m + 1, i, hi, hx => by
    have hm : (l.length : Int) ≤ 9223372036854775807 := by simp only [maxLen] at hl; omega
    have hlt : i < l.length := by omega
    have hr : rd l (i : Int) = l[i] := by simp [rd, List.getD_eq_getElem?_getD, hlt]
    by_cases hge : l[i] ≥ p
    · have hv : belowV p l = 2 := by
        unfold belowV
        rw [if_neg]
        intro h'
        have := h' _ (List.getElem_mem hlt)
        omega
      rw [hv]
      refine Ev.step (f := fun k => some 2) (fun k => ?_) (Ev.now _)
      simp only [field_Below.l0]
      rw [if_pos (by omega), if_pos (by omega), if_pos (by omega), if_pos (by rw [hr]; exact hge)]
    · refine Ev.step (f := fun k => field_Below.l0 k p l (l.length : Int) ((i + 1 : Nat) : Int)) (fun k => ?_) (below_loop p l hl m (i + 1) (by omega) fun x hx' => ?_)
      · conv => lhs; simp only [field_Below.l0]
        rw [if_pos (by omega), if_pos (by omega), if_pos (by omega), if_neg (by rw [hr]; exact hge), w64_small (by omega) (by omega)]
        rfl
      · rw [List.take_add_one, List.mem_append] at hx'
        rcases hx' with h' | h'
        · exact hx x h'
        · rw [List.getElem?_eq_getElem hlt] at h'
          simp only [Option.toList_some, List.mem_singleton] at h'
          rw [h']; omega

theorem field_below (p : Int) (l : List Int) (hl : l.length ≤ maxLen) : Ev (fun k => field_Below.f k p l) (belowV p l) :=
  below_loop p l hl l.length 0 (by omega) (fun x hx => by simp at hx)

theorem within_eq : ∀ k a b c d, juntoref01_Within.l0 k a b c d = field_Below.l0 k a b c d
  | 0, _, _, _, _ => rfl
  | k + 1, a, b, c, d => by
    simp only [juntoref01_Within.l0, field_Below.l0, within_eq k]

theorem ref_within (p : Int) (l : List Int) (hl : l.length ≤ maxLen) : Ev (fun k => juntoref01_Within.f k p l) (belowV p l) := by
  refine Ev.congr (fun k => ?_) (field_below p l hl)
  exact within_eq _ _ _ _ _

end Go.Proofs.Ytjjnfobeeflnhaa.L

/- Both ways to evaluate a polynomial answer alike, and what they answer. -/
namespace Go.Proofs.Ytjjnfobeeflnhaa.L
open Go.RowKit Go.Proofs.YtjjnfobeeflnhaaW.PrintWords Go.Proofs.Ytjjnfobeeflnhaa.J
set_option linter.unusedVariables false
set_option linter.unusedSimpArgs false

theorem mul_small {p a b : Int} (hp : p ≤ 65537) (ha : 0 ≤ a) (ha' : a < p) (hb : 0 ≤ b) (hb' : b < p) : 0 ≤ a * b ∧ a * b < 18446744073709551616 := by
  have h1 : a * b ≤ 65537 * 65537 := Int.mul_le_mul (by omega) (by omega) hb (by omega)
  exact ⟨Int.mul_nonneg ha hb, by omega⟩

theorem times_at {p a b : Int} (h0 : 0 < p) (hp : p ≤ 65537) (ha : 0 ≤ a) (ha' : a < p) (hb : 0 ≤ b) (hb' : b < p) : field_Times.f p a b = some (a * b % p) := by
  obtain ⟨h1, h2⟩ := mul_small hp ha ha' hb hb'
  unfold field_Times.f field_mul.f
  simp only [u64_small h1 h2, if_neg (show ¬ p = 0 by omega), Option.bind_some, Int.tmod_eq_emod_of_nonneg h1]

theorem ref_mul {p a b : Int} (h0 : 0 < p) (hp : p ≤ 65537) (ha : 0 ≤ a) (ha' : a < p) (hb : 0 ≤ b) (hb' : b < p) : juntoref01_Mul.f p a b = some (a * b % p) := by
  obtain ⟨h1, h2⟩ := mul_small hp ha ha' hb hb'
  unfold juntoref01_Mul.f
  rw [u64_small h1 h2, if_neg (show ¬ p = 0 by omega), Int.tmod_eq_emod_of_nonneg h1]

theorem ref_add {p a b : Int} (h0 : 0 < p) (hp : p ≤ 65537) (ha : 0 ≤ a) (ha' : a < p) (hb : 0 ≤ b) (hb' : b < p) : juntoref01_Add.f p a b = some ((a + b) % p) := by
  unfold juntoref01_Add.f
  rw [u64_small (by omega) (by omega), if_neg (show ¬ p = 0 by omega), Int.tmod_eq_emod_of_nonneg (by omega)]

theorem plus_at {p a b : Int} (h0 : 0 < p) (hp : p ≤ 65537) (ha : 0 ≤ a) (ha' : a < p) (hb : 0 ≤ b) (hb' : b < p) : field_Plus.f p a b = some ((a + b) % p) := by
  unfold field_Plus.f
  rw [u64_small (n := a + b) (by omega) (by omega)]
  by_cases h : a + b ≥ p
  · rw [if_pos h, u64_small (by omega) (by omega)]
    rw [show (a + b) % p = a + b - p by rw [← Int.sub_emod_right, Int.emod_eq_of_lt (by omega) (by omega)]]
  · rw [if_neg h, Int.emod_eq_of_lt (by omega) (by omega)]

end Go.Proofs.Ytjjnfobeeflnhaa.L

/- The field of the residues modulo a prime: primes by trial division, no zero divisors, Fermat. Plain Lean, no program in sight. -/
namespace Go.Proofs.Ytjjnfobeeflnhaa.Fld

/-- A prime. -/
def Pr (p : Nat) : Prop := 2 ≤ p ∧ ∀ d, d ∣ p → d = 1 ∨ d = p

theorem Pr.dvd_mul {p a b : Nat} (hp : Pr p) (h : p ∣ a * b) : p ∣ a ∨ p ∣ b := by
  by_cases ha : p ∣ a
  · exact .inl ha
  · right
    have hc : Nat.Coprime p a := by
      rcases hp.2 _ (Nat.gcd_dvd_left p a) with h' | h'
      · exact h'
      · exact absurd (h' ▸ Nat.gcd_dvd_right p a) ha
    exact hc.dvd_of_dvd_mul_left h

/-- Trial division up to the root is enough. -/
theorem pr_of_trial {p : Nat} (h2 : 2 ≤ p) (h : ∀ d, 2 ≤ d → d * d ≤ p → p % d ≠ 0) : Pr p := by
  refine ⟨h2, fun d hd => ?_⟩
  obtain ⟨e, he⟩ := hd
  by_cases h1 : d = 1
  · exact .inl h1
  by_cases h3 : e = 1
  · right; rw [he, h3, Nat.mul_one]
  exfalso
  have hd0 : d ≠ 0 := by rintro rfl; omega
  have he0 : e ≠ 0 := by rintro rfl; omega
  by_cases hle : d ≤ e
  · refine h d (by omega) ?_ (Nat.mod_eq_zero_of_dvd ⟨e, he⟩)
    rw [he]; exact Nat.mul_le_mul_left d hle
  · refine h e (by omega) ?_ (Nat.mod_eq_zero_of_dvd ⟨d, by rw [he, Nat.mul_comm]⟩)
    rw [he]; exact Nat.mul_le_mul_right e (by omega)

set_option linter.unusedVariables false
set_option linter.unusedSimpArgs false

section
variable {p : Nat} [NeZero p]

theorem mul_eq_zero (hp : Pr p) {a b : Fin p} (h : a * b = 0) : a = 0 ∨ b = 0 := by
  have h1 : (a.val * b.val) % p = 0 := by have := congrArg Fin.val h; simpa [Fin.val_mul] using this
  rcases hp.dvd_mul (Nat.dvd_of_mod_eq_zero h1) with h | h
  · left; apply Fin.ext; exact Nat.eq_zero_of_dvd_of_lt h a.isLt
  · right; apply Fin.ext; exact Nat.eq_zero_of_dvd_of_lt h b.isLt

theorem one_ne_zero (hp : Pr p) : (1 : Fin p) ≠ 0 := by
  intro h
  have := congrArg Fin.val h
  have h2 := hp.1
  have h1 : ((1 : Fin p) : Nat) = 1 % p := rfl
  rw [h1, Nat.mod_eq_of_lt (by omega)] at this
  simp at this

theorem mul_cancel (hp : Pr p) {a b c : Fin p} (ha : a ≠ 0) (h : a * b = a * c) : b = c := by
  have : a * (b - c) = 0 := by grind
  rcases mul_eq_zero hp this with h | h
  · exact absurd h ha
  · grind

/-- The product of a list. -/
def pr (l : List (Fin p)) : Fin p := l.foldr (· * ·) 1
theorem pr_cons (a : Fin p) (l : List (Fin p)) : pr (a :: l) = a * pr l := rfl
theorem pr_perm {l l' : List (Fin p)} (h : l.Perm l') : pr l = pr l' := by
  induction h with
  | nil => rfl
  | cons x _ ih => rw [pr_cons, pr_cons, ih]
  | swap x y l => simp only [pr_cons]; grind
  | trans _ _ ih1 ih2 => exact ih1.trans ih2
theorem pr_ne_zero (hp : Pr p) {l : List (Fin p)} (h : ∀ a, a ∈ l → a ≠ 0) : pr l ≠ 0 := by
  induction l with
  | nil => exact one_ne_zero hp
  | cons a l ih =>
    intro h'
    rcases mul_eq_zero hp (pr_cons a l ▸ h') with h0 | h0
    · exact h a (by simp) h0
    · exact ih (fun b hb => h b (by simp [hb])) h0
theorem pr_map_mul (a : Fin p) (l : List (Fin p)) : pr (l.map (a * ·)) = a ^ l.length * pr l := by
  induction l with
  | nil => simp only [List.map_nil, List.length_nil]; show (1 : Fin p) = a ^ 0 * 1; grind
  | cons b l ih => rw [List.map_cons, pr_cons, pr_cons, ih, List.length_cons]; grind

theorem perm_of_subset {α : Type} [BEq α] [LawfulBEq α] : ∀ (l l' : List α), l.Nodup → (∀ a, a ∈ l → a ∈ l') → l'.length ≤ l.length → l.Perm l'
  | [], l', _, _, h => by
    have : l' = [] := List.eq_nil_of_length_eq_zero (by simpa using h)
    rw [this]
  | a :: l, l', hn, hs, h => by
    have ha := hs a (by simp)
    have hp := List.perm_cons_erase ha
    have hlen : (l'.erase a).length + 1 = l'.length := by have := hp.length_eq; simpa using this.symm
    obtain ⟨hna, hn⟩ := List.nodup_cons.1 hn
    refine List.Perm.trans ?_ hp.symm
    refine List.Perm.cons a (perm_of_subset l (l'.erase a) hn ?_ (by simp at h; omega))
    intro b hb
    have hne : b ≠ a := by rintro rfl; exact hna hb
    exact (List.mem_erase_of_ne hne).2 (hs b (by simp [hb]))

/-- The elements that are not 0. -/
def units (p : Nat) [NeZero p] : List (Fin p) := (List.range (p - 1)).map fun i => Fin.ofNat p (i + 1)
theorem units_length : (units p).length = p - 1 := by simp [units]
theorem units_ne {a : Fin p} (h : a ∈ units p) : a ≠ 0 := by
  obtain ⟨i, hi, rfl⟩ := List.mem_map.1 h
  have hi := List.mem_range.1 hi
  intro h
  have := congrArg Fin.val h
  simp only [Fin.ofNat, Fin.val_zero] at this
  rw [Nat.mod_eq_of_lt (by omega)] at this
  omega
theorem mem_units {a : Fin p} (h : a ≠ 0) : a ∈ units p := by
  have h0 : a.val ≠ 0 := fun h' => h (Fin.ext h')
  refine List.mem_map.2 ⟨a.val - 1, List.mem_range.2 (by have := a.isLt; omega), ?_⟩
  apply Fin.ext
  simp only [Fin.ofNat]
  rw [Nat.mod_eq_of_lt (by have := a.isLt; omega)]
  omega
theorem units_nodup : (units p).Nodup := by
  unfold units List.Nodup
  rw [List.pairwise_map]
  refine List.Pairwise.imp_of_mem ?_ List.nodup_range
  intro i j hi hj hne h
  have hi := List.mem_range.1 hi
  have hj := List.mem_range.1 hj
  have := congrArg Fin.val h
  simp only [Fin.ofNat] at this
  rw [Nat.mod_eq_of_lt (by omega), Nat.mod_eq_of_lt (by omega)] at this
  omega

theorem fermat (hp : Pr p) {a : Fin p} (ha : a ≠ 0) : a ^ (p - 1) = 1 := by
  have hperm : ((units p).map (a * ·)).Perm (units p) := by
    refine perm_of_subset _ _ ?_ ?_ (by simp)
    · unfold List.Nodup
      rw [List.pairwise_map]
      refine List.Pairwise.imp ?_ (units_nodup (p := p))
      intro x y hne h
      exact hne (mul_cancel hp ha h)
    · intro x hx
      obtain ⟨y, hy, rfl⟩ := List.mem_map.1 hx
      refine mem_units fun h => ?_
      rcases mul_eq_zero hp h with h | h
      · exact ha h
      · exact units_ne hy h
  have h1 := pr_perm hperm
  rw [pr_map_mul, units_length] at h1
  have h2 : pr (units p) ≠ 0 := pr_ne_zero hp fun a h => units_ne h
  exact mul_cancel hp (a := pr (units p)) h2 (by grind)

/-- The inverse, as a power. -/
def inv (a : Fin p) : Fin p := a ^ (p - 2)
theorem inv_mul (hp : Pr p) {a : Fin p} (ha : a ≠ 0) : inv a * a = 1 := by
  have h := fermat hp ha
  have h2 := hp.1
  have : p - 1 = (p - 2) + 1 := by omega
  rw [this] at h
  unfold inv
  grind
theorem mul_inv (hp : Pr p) {a : Fin p} (ha : a ≠ 0) : a * inv a = 1 := by have := inv_mul hp ha; grind
theorem pow_double (a : Fin p) (n : Nat) : (a * a) ^ n = a ^ (2 * n) := by
  induction n with
  | zero => simp only [Nat.mul_zero]; grind
  | succ n ih =>
    have : 2 * (n + 1) = 2 * n + 1 + 1 := by omega
    rw [this]; grind

end
end Go.Proofs.Ytjjnfobeeflnhaa.Fld

/- Polynomials over the residues modulo a prime, as lists of coefficients: sums, products, values, trailing zeros, division, interpolation. Plain Lean, no program in sight. -/
namespace Go.Proofs.Ytjjnfobeeflnhaa.Fld
set_option linter.unusedVariables false
set_option linter.unusedSimpArgs false

section
variable {p : Nat} [NeZero p]

/-! ### sums -/
def sm : Nat → (Nat → Fin p) → Fin p
  | 0, _ => 0
  | n + 1, g => sm n g + g n
theorem sm_succ (n : Nat) (g : Nat → Fin p) : sm (n + 1) g = sm n g + g n := rfl
theorem sm_congr {n : Nat} {g h : Nat → Fin p} (e : ∀ i, i < n → g i = h i) : sm n g = sm n h := by
  induction n with
  | zero => rfl
  | succ n ih => rw [sm_succ, sm_succ, ih (fun i hi => e i (by omega)), e n (by omega)]
theorem sm_zero {n : Nat} {g : Nat → Fin p} (e : ∀ i, i < n → g i = 0) : sm n g = 0 := by
  induction n with
  | zero => rfl
  | succ n ih => rw [sm_succ, ih (fun i hi => e i (by omega)), e n (by omega)]; grind
theorem sm_add (n : Nat) (g h : Nat → Fin p) : sm n (fun i => g i + h i) = sm n g + sm n h := by
  induction n with
  | zero => show (0 : Fin p) = 0 + 0; grind
  | succ n ih => rw [sm_succ, sm_succ, sm_succ, ih]; grind
theorem sm_mul (n : Nat) (c : Fin p) (g : Nat → Fin p) : sm n (fun i => c * g i) = c * sm n g := by
  induction n with
  | zero => show (0 : Fin p) = c * 0; grind
  | succ n ih => rw [sm_succ, sm_succ, ih]; grind
theorem sm_mul' (n : Nat) (c : Fin p) (g : Nat → Fin p) : sm n (fun i => g i * c) = sm n g * c := by
  induction n with
  | zero => show (0 : Fin p) = 0 * c; grind
  | succ n ih => rw [sm_succ, sm_succ, ih]; grind
theorem sm_front (n : Nat) (g : Nat → Fin p) : sm (n + 1) g = g 0 + sm n (fun i => g (i + 1)) := by
  induction n with
  | zero => show 0 + g 0 = g 0 + 0; grind
  | succ n ih => rw [sm_succ, ih, sm_succ]; grind
theorem sm_rev (n : Nat) (g : Nat → Fin p) : sm (n + 1) g = sm (n + 1) (fun i => g (n - i)) := by
  induction n generalizing g with
  | zero => rfl
  | succ n ih =>
    rw [sm_front, ih (fun i => g (i + 1)), sm_succ (n + 1) (fun i => g (n + 1 - i))]
    have : sm (n + 1) (fun i => g (n - i + 1)) = sm (n + 1) (fun i => g (n + 1 - i)) := sm_congr fun i hi => by congr 1; omega
    rw [this, show n + 1 - (n + 1) = 0 by omega]; grind
theorem sm_tri (F : Nat → Nat → Fin p) (n : Nat) : sm n (fun i => sm (i + 1) (fun j => F i j)) = sm n (fun j => sm (n - j) (fun k => F (j + k) j)) := by
  induction n with
  | zero => rfl
  | succ n ih =>
    rw [sm_succ, ih, sm_succ n (fun j => sm (n + 1 - j) (fun k => F (j + k) j))]
    have h1 : sm n (fun j => sm (n + 1 - j) (fun k => F (j + k) j)) = sm n (fun j => sm (n - j) (fun k => F (j + k) j) + F n j) := sm_congr fun j hj => by
      rw [show n + 1 - j = (n - j) + 1 by omega, sm_succ, show j + (n - j) = n by omega]
    rw [h1, sm_add, show n + 1 - n = 0 + 1 by omega, sm_succ 0, sm_succ n (fun j => F n j)]
    simp only [sm, Nat.add_zero]; grind
theorem sm_more {n m : Nat} {g : Nat → Fin p} (h : n ≤ m) (e : ∀ i, n ≤ i → i < m → g i = 0) : sm m g = sm n g := by
  induction m with
  | zero => rw [show n = 0 by omega]
  | succ m ih =>
    by_cases hn : n = m + 1
    · rw [hn]
    · rw [sm_succ, ih (by omega) (fun i h1 h2 => e i h1 (by omega)), e m (by omega) (by omega)]; grind
theorem sm_one {n k : Nat} {g : Nat → Fin p} (hk : k < n) (e : ∀ i, i < n → i ≠ k → g i = 0) : sm n g = g k := by
  induction n with
  | zero => omega
  | succ n ih =>
    rw [sm_succ]
    by_cases h : k = n
    · rw [h, sm_zero (fun i hi => e i (by omega) (by omega))]; grind
    · rw [ih (by omega) (fun i h1 h2 => e i (by omega) h2), e n (by omega) (by omega)]; grind

/-! ### coefficients, values -/
def co (f : List (Fin p)) (i : Nat) : Fin p := f.getD i 0
theorem co_nil (i : Nat) : co ([] : List (Fin p)) i = 0 := by simp [co]
theorem co_cons_zero (a : Fin p) (f : List (Fin p)) : co (a :: f) 0 = a := by simp [co]
theorem co_cons_succ (a : Fin p) (f : List (Fin p)) (i : Nat) : co (a :: f) (i + 1) = co f i := by simp [co]
theorem co_ge {f : List (Fin p)} {i : Nat} (h : f.length ≤ i) : co f i = 0 := by simp [co, List.getD_eq_getElem?_getD, List.getElem?_eq_none h]
theorem co_lt {f : List (Fin p)} {i : Nat} (h : i < f.length) : co f i = f[i] := by simp [co, List.getD_eq_getElem?_getD, h]
/-- The value at a place (Horner). -/
def ev (f : List (Fin p)) (x : Fin p) : Fin p := f.foldr (fun c v => v * x + c) 0
theorem ev_nil (x : Fin p) : ev [] x = 0 := rfl
theorem ev_cons (a : Fin p) (f : List (Fin p)) (x : Fin p) : ev (a :: f) x = ev f x * x + a := rfl
theorem ev_sm (f : List (Fin p)) (x : Fin p) : ∀ n, f.length ≤ n → ev f x = sm n (fun i => co f i * x ^ i) := by
  induction f with
  | nil => intro n _; rw [ev_nil, sm_zero]; intro i _; rw [co_nil]; grind
  | cons a f ih =>
    intro n hn
    obtain ⟨m, rfl⟩ : ∃ m, n = m + 1 := ⟨n - 1, by simp at hn; omega⟩
    rw [ev_cons, sm_front, ih m (by simp at hn; omega), co_cons_zero]
    have : sm m (fun i => co (a :: f) (i + 1) * x ^ (i + 1)) = sm m (fun i => co f i * x ^ i * x) := sm_congr fun i _ => by rw [co_cons_succ]; grind
    rw [this, sm_mul']; grind
/-- Equal as polynomials. -/
def Eqv (f g : List (Fin p)) : Prop := ∀ i, co f i = co g i
theorem Eqv.refl (f : List (Fin p)) : Eqv f f := fun _ => rfl
theorem Eqv.symm {f g : List (Fin p)} (h : Eqv f g) : Eqv g f := fun i => (h i).symm
theorem Eqv.trans {f g k : List (Fin p)} (h : Eqv f g) (h' : Eqv g k) : Eqv f k := fun i => (h i).trans (h' i)
theorem Eqv.ev {f g : List (Fin p)} (h : Eqv f g) (x : Fin p) : ev f x = ev g x := by
  rw [ev_sm f x (max f.length g.length) (by omega), ev_sm g x (max f.length g.length) (by omega)]
  exact sm_congr fun i _ => by rw [h i]

/-! ### trailing zeros -/
def trim (f : List (Fin p)) : List (Fin p) := f.foldr (fun c r => if r = [] ∧ c = 0 then [] else c :: r) []
theorem trim_nil : trim ([] : List (Fin p)) = [] := rfl
theorem trim_cons (a : Fin p) (f : List (Fin p)) : trim (a :: f) = if trim f = [] ∧ a = 0 then [] else a :: trim f := rfl
theorem trim_co (f : List (Fin p)) : Eqv (trim f) f := by
  induction f with
  | nil => exact Eqv.refl _
  | cons a f ih =>
    intro i
    rw [trim_cons]
    split
    · rename_i h
      obtain ⟨h1, rfl⟩ := h
      cases i with
      | zero => rw [co_nil, co_cons_zero]
      | succ i => rw [co_nil, co_cons_succ, ← ih i, h1, co_nil]
    · cases i with
      | zero => rw [co_cons_zero, co_cons_zero]
      | succ i => rw [co_cons_succ, co_cons_succ, ih i]
theorem trim_eq_nil {f : List (Fin p)} (h : ∀ i, co f i = 0) : trim f = [] := by
  induction f with
  | nil => rfl
  | cons a f ih =>
    rw [trim_cons, if_pos ⟨ih (fun i => by rw [← co_cons_succ a, h]), by rw [← co_cons_zero a f, h]⟩]
theorem trim_congr {f g : List (Fin p)} (h : Eqv f g) : trim f = trim g := by
  induction f generalizing g with
  | nil => rw [trim_nil, trim_eq_nil (fun i => by rw [← h i, co_nil])]
  | cons a f ih =>
    cases g with
    | nil => rw [trim_nil, trim_eq_nil (fun i => by rw [h i, co_nil])]
    | cons b g =>
      have h0 : a = b := by have := h 0; rwa [co_cons_zero, co_cons_zero] at this
      have h1 : Eqv f g := fun i => by have := h (i + 1); rwa [co_cons_succ, co_cons_succ] at this
      rw [trim_cons, trim_cons, ih h1, h0]
theorem trim_trim (f : List (Fin p)) : trim (trim f) = trim f := trim_congr (trim_co f)
theorem trim_length_le (f : List (Fin p)) : (trim f).length ≤ f.length := by
  induction f with
  | nil => simp [trim_nil]
  | cons a f ih => rw [trim_cons]; split <;> simp <;> omega
theorem trim_length_of {f : List (Fin p)} {n : Nat} (h : ∀ i, n ≤ i → co f i = 0) : (trim f).length ≤ n := by
  induction f generalizing n with
  | nil => simp [trim_nil]
  | cons a f ih =>
    rw [trim_cons]
    split
    · simp
    · rename_i hne
      cases n with
      | zero =>
        exfalso; apply hne
        exact ⟨trim_eq_nil fun i => by rw [← co_cons_succ a, h _ (by omega)], by rw [← co_cons_zero a f, h 0 (by omega)]⟩
      | succ n =>
        have := ih (n := n) (fun i hi => by rw [← co_cons_succ a, h _ (by omega)])
        simp; omega
theorem trim_last {f : List (Fin p)} (h : trim f ≠ []) : co f ((trim f).length - 1) ≠ 0 := by
  intro h0
  have hl : 0 < (trim f).length := List.length_pos_iff.2 h
  have := trim_length_of (f := f) (n := (trim f).length - 1) (fun i hi => by
    by_cases e : i = (trim f).length - 1
    · rw [e]; exact h0
    · rw [← trim_co f i]; exact co_ge (by omega))
  omega
/-- Nothing to trim. -/
def Tr (f : List (Fin p)) : Prop := trim f = f
theorem Tr.trim (f : List (Fin p)) : Tr (trim f) := trim_trim f
theorem Tr.ext {f g : List (Fin p)} (hf : Tr f) (hg : Tr g) (h : Eqv f g) : f = g := by rw [← hf, ← hg, trim_congr h]
theorem Tr.last {f : List (Fin p)} (hf : Tr f) (h : f ≠ []) : co f (f.length - 1) ≠ 0 := by
  have := trim_last (f := f) (by rw [hf]; exact h)
  rwa [hf] at this
/-! ### making a list out of its coefficients -/
def mk (n : Nat) (c : Nat → Fin p) : List (Fin p) := (List.range n).map c
end
section
variable {p : Nat}
theorem mk_length (n : Nat) (c : Nat → Fin p) : (mk n c).length = n := by simp [mk]
end
section
variable {p : Nat} [NeZero p]
theorem co_mk (n : Nat) (c : Nat → Fin p) (i : Nat) : co (mk n c) i = if i < n then c i else 0 := by
  by_cases h : i < n
  · rw [co_lt (by rw [mk_length]; exact h), if_pos h]; simp [mk]
  · rw [co_ge (by rw [mk_length]; omega), if_neg h]

/-! ### sums, products -/
def add (f g : List (Fin p)) : List (Fin p) := mk (max f.length g.length) (fun i => co f i + co g i)
def sub (f g : List (Fin p)) : List (Fin p) := mk (max f.length g.length) (fun i => co f i - co g i)
def smul (c : Fin p) (f : List (Fin p)) : List (Fin p) := f.map (c * ·)
theorem co_add (f g : List (Fin p)) (i : Nat) : co (add f g) i = co f i + co g i := by
  unfold add; rw [co_mk]; split
  · rfl
  · rw [co_ge (f := f) (by omega), co_ge (f := g) (by omega)]; grind
theorem co_sub (f g : List (Fin p)) (i : Nat) : co (sub f g) i = co f i - co g i := by
  unfold sub; rw [co_mk]; split
  · rfl
  · rw [co_ge (f := f) (by omega), co_ge (f := g) (by omega)]; grind
theorem co_smul (c : Fin p) (f : List (Fin p)) (i : Nat) : co (smul c f) i = c * co f i := by
  unfold smul
  by_cases h : i < f.length
  · rw [co_lt (by simpa using h), co_lt h]; simp
  · rw [co_ge (by simp; omega), co_ge (by omega)]; grind
end
section
variable {p : Nat}
theorem smul_length (c : Fin p) (f : List (Fin p)) : (smul c f).length = f.length := by simp [smul]
end
section
variable {p : Nat} [NeZero p]
theorem add_length (f g : List (Fin p)) : (add f g).length = max f.length g.length := mk_length _ _
theorem sub_length (f g : List (Fin p)) : (sub f g).length = max f.length g.length := mk_length _ _
theorem ev_add (f g : List (Fin p)) (x : Fin p) : ev (add f g) x = ev f x + ev g x := by
  rw [ev_sm (add f g) x (max f.length g.length) (by rw [add_length]; omega), ev_sm f x (max f.length g.length) (by omega), ev_sm g x (max f.length g.length) (by omega), ← sm_add]
  exact sm_congr fun i _ => by rw [co_add]; grind
theorem ev_sub (f g : List (Fin p)) (x : Fin p) : ev (sub f g) x = ev f x - ev g x := by
  have h : Eqv (add (sub f g) g) f := fun i => by rw [co_add, co_sub]; grind
  have := h.ev x
  rw [ev_add] at this
  grind
theorem ev_smul (c : Fin p) (f : List (Fin p)) (x : Fin p) : ev (smul c f) x = c * ev f x := by
  rw [ev_sm (smul c f) x f.length (by rw [smul_length]; omega), ev_sm f x f.length (by omega), ← sm_mul]
  exact sm_congr fun i _ => by rw [co_smul]; grind

/-- A product of coefficients. -/
def cv (c d : Nat → Fin p) (n : Nat) : Fin p := sm (n + 1) (fun i => c i * d (n - i))
theorem cv_congr {c c' d d' : Nat → Fin p} (h : ∀ i, c i = c' i) (h' : ∀ i, d i = d' i) (n : Nat) : cv c d n = cv c' d' n := sm_congr fun i _ => by rw [h, h']
theorem cv_comm (c d : Nat → Fin p) (n : Nat) : cv c d n = cv d c n := by
  unfold cv
  rw [sm_rev]
  exact sm_congr fun i hi => by rw [show n - (n - i) = i by omega]; grind
theorem cv_add (c d d' : Nat → Fin p) (n : Nat) : cv c (fun i => d i + d' i) n = cv c d n + cv c d' n := by
  unfold cv; rw [← sm_add]; exact sm_congr fun i _ => by grind
theorem cv_add' (c c' d : Nat → Fin p) (n : Nat) : cv (fun i => c i + c' i) d n = cv c d n + cv c' d n := by
  unfold cv; rw [← sm_add]; exact sm_congr fun i _ => by grind
theorem cv_assoc (a b c : Nat → Fin p) (n : Nat) : cv (cv a b) c n = cv a (cv b c) n := by
  unfold cv
  have h1 : sm (n + 1) (fun i => sm (i + 1) (fun j => a j * b (i - j)) * c (n - i)) = sm (n + 1) (fun i => sm (i + 1) (fun j => a j * b (i - j) * c (n - i))) := sm_congr fun i _ => by rw [sm_mul']
  rw [h1, sm_tri (fun i j => a j * b (i - j) * c (n - i))]
  refine sm_congr fun j hj => ?_
  rw [← sm_mul, show n + 1 - j = n - j + 1 by omega]
  refine sm_congr fun k hk => ?_
  rw [show j + k - j = k by omega, show n - j - k = n - (j + k) by omega]; grind
/-- A product. -/
def mul : List (Fin p) → List (Fin p) → List (Fin p)
  | [], _ => []
  | a :: f, g => add (smul a g) (0 :: mul f g)
theorem co_mul (f g : List (Fin p)) (n : Nat) : co (mul f g) n = cv (co f) (co g) n := by
  induction f generalizing n with
  | nil => rw [mul, co_nil]; unfold cv; rw [sm_zero]; intro i _; rw [co_nil]; grind
  | cons a f ih =>
    rw [mul, co_add, co_smul]
    unfold cv
    rw [sm_front, co_cons_zero]
    cases n with
    | zero => rw [co_cons_zero]; show a * co g 0 + 0 = a * co g 0 + 0; rfl
    | succ n =>
      rw [co_cons_succ, ih n]
      unfold cv
      congr 1
      exact sm_congr fun i _ => by rw [co_cons_succ, show n + 1 - (i + 1) = n - i by omega]
theorem ev_mul (f g : List (Fin p)) (x : Fin p) : ev (mul f g) x = ev f x * ev g x := by
  induction f with
  | nil => rw [mul, ev_nil]; grind
  | cons a f ih => rw [mul, ev_add, ev_smul, ev_cons, ih, ev_cons]; grind
theorem co_mul_ge {f g : List (Fin p)} {n : Nat} (h : f.length + g.length ≤ n + 1) : co (mul f g) n = 0 := by
  rw [co_mul]; unfold cv
  refine sm_zero fun i hi => ?_
  by_cases h1 : f.length ≤ i
  · rw [co_ge h1]; grind
  · rw [co_ge (f := g) (by omega)]; grind
theorem co_mul_top {f g : List (Fin p)} (hf : f ≠ []) (hg : g ≠ []) : co (mul f g) (f.length + g.length - 2) = co f (f.length - 1) * co g (g.length - 1) := by
  have h1 := List.length_pos_iff.2 hf
  have h2 := List.length_pos_iff.2 hg
  rw [co_mul]; unfold cv
  rw [sm_one (k := f.length - 1) (by omega)]
  · rw [show f.length + g.length - 2 - (f.length - 1) = g.length - 1 by omega]
  · intro i hi hne
    by_cases h : f.length ≤ i
    · rw [co_ge h]; grind
    · rw [co_ge (f := g) (by omega)]; grind

/-! ### equations between polynomials -/
theorem Eqv.add {f f' g g' : List (Fin p)} (h : Eqv f f') (h' : Eqv g g') : Eqv (add f g) (add f' g') := fun i => by rw [co_add, co_add, h i, h' i]
theorem Eqv.sub {f f' g g' : List (Fin p)} (h : Eqv f f') (h' : Eqv g g') : Eqv (sub f g) (sub f' g') := fun i => by rw [co_sub, co_sub, h i, h' i]
theorem Eqv.mul {f f' g g' : List (Fin p)} (h : Eqv f f') (h' : Eqv g g') : Eqv (mul f g) (mul f' g') := fun i => by rw [co_mul, co_mul, cv_congr h h']
theorem Eqv.smul {f f' : List (Fin p)} (c : Fin p) (h : Eqv f f') : Eqv (smul c f) (smul c f') := fun i => by rw [co_smul, co_smul, h i]
theorem mul_comm (f g : List (Fin p)) : Eqv (mul f g) (mul g f) := fun i => by rw [co_mul, co_mul, cv_comm]
theorem mul_assoc (f g k : List (Fin p)) : Eqv (mul (mul f g) k) (mul f (mul g k)) := fun i => by
  rw [co_mul, co_mul, cv_congr (co_mul f g) (fun _ => rfl), cv_congr (fun _ => rfl) (co_mul g k), cv_assoc]
theorem mul_add (f g k : List (Fin p)) : Eqv (mul f (Fld.add g k)) (Fld.add (mul f g) (mul f k)) := fun i => by
  rw [co_mul, co_add, co_mul, co_mul, cv_congr (fun _ => rfl) (co_add g k), cv_add]
theorem add_mul (f g k : List (Fin p)) : Eqv (mul (Fld.add f g) k) (Fld.add (mul f k) (mul g k)) := fun i => by
  rw [co_mul, co_add, co_mul, co_mul, cv_congr (co_add f g) (fun _ => rfl), cv_add']
theorem mul_sub (f g k : List (Fin p)) : Eqv (mul f (Fld.sub g k)) (Fld.sub (mul f g) (mul f k)) := fun i => by
  have h : Eqv (Fld.add (Fld.sub g k) k) g := fun i => by rw [co_add, co_sub]; grind
  have h1 := (mul_add f (Fld.sub g k) k).symm.trans ((Eqv.refl f).mul h) i
  rw [co_add] at h1
  rw [co_sub, ← h1]; grind
theorem sub_mul (f g k : List (Fin p)) : Eqv (mul (Fld.sub f g) k) (Fld.sub (mul f k) (mul g k)) :=
  (mul_comm _ _).trans ((mul_sub k f g).trans ((mul_comm _ _).sub (mul_comm _ _)))
theorem mul_one (f : List (Fin p)) : Eqv (mul f [1]) f := fun i => by
  rw [co_mul, cv_comm]; unfold cv
  rw [sm_one (k := 0) (by omega)]
  · rw [co_cons_zero]; show 1 * co f i = co f i; grind
  · intro j _ hj
    obtain ⟨m, rfl⟩ : ∃ m, j = m + 1 := ⟨j - 1, by omega⟩
    rw [co_cons_succ, co_nil]; grind

/-! ### degrees of products, roots -/
theorem trim_mul_length (hp : Pr p) {f g : List (Fin p)} (hf : trim f ≠ []) (hg : trim g ≠ []) : (trim (mul f g)).length + 1 = (trim f).length + (trim g).length := by
  have e : Eqv (mul f g) (mul (trim f) (trim g)) := (trim_co f).symm.mul (trim_co g).symm
  rw [trim_congr e]
  have h1 := List.length_pos_iff.2 hf
  have h2 := List.length_pos_iff.2 hg
  have ht := co_mul_top hf hg
  have hn : co (mul (trim f) (trim g)) ((trim f).length + (trim g).length - 2) ≠ 0 := by
    rw [ht]
    intro h
    rcases mul_eq_zero hp h with h | h
    · exact (Tr.trim f).last hf h
    · exact (Tr.trim g).last hg h
  have hle := trim_length_of (f := mul (trim f) (trim g)) (n := (trim f).length + (trim g).length - 1) (fun i hi => co_mul_ge (by omega))
  have hge : (trim f).length + (trim g).length - 2 < (trim (mul (trim f) (trim g))).length := by
    apply Nat.lt_of_not_le
    intro h
    exact hn (by rw [← trim_co]; exact co_ge h)
  omega
theorem trim_mul_le (f g : List (Fin p)) : (trim (mul f g)).length ≤ f.length + g.length - 1 := trim_length_of fun i hi => co_mul_ge (by omega)
/-- Synthetic division by x - a. -/
theorem root_factor (f : List (Fin p)) (a : Fin p) : ∃ q : List (Fin p), q.length = f.length - 1 ∧ Eqv f (add (mul [-a, 1] q) [ev f a]) := by
  induction f with
  | nil => exact ⟨[], rfl, fun i => by
      rw [co_add, co_mul, ev_nil]
      have : cv (co [-a, 1]) (co []) i = 0 := by unfold cv; exact sm_zero fun j _ => by rw [co_nil]; grind
      rw [this, co_nil]
      cases i with
      | zero => rw [co_cons_zero]; grind
      | succ i => rw [co_cons_succ, co_nil]; grind⟩
  | cons c f ih =>
    obtain ⟨q, hq, he⟩ := ih
    cases f with
    | nil =>
      refine ⟨[], rfl, fun i => ?_⟩
      rw [co_add, co_mul]
      have : cv (co [-a, 1]) (co []) i = 0 := by unfold cv; exact sm_zero fun j _ => by rw [co_nil]; grind
      rw [this, ev_cons, ev_nil]
      cases i with
      | zero => rw [co_cons_zero, co_cons_zero]; grind
      | succ i => rw [co_cons_succ, co_cons_succ]; grind
    | cons d f =>
      refine ⟨ev (d :: f) a :: q, by simp at hq ⊢; omega, fun i => ?_⟩
      have key : ∀ j, co (mul [-a, 1] q) j = co (d :: f) j - co [ev (d :: f) a] j := fun j => by have := he j; rw [co_add] at this; grind
      have hm : ∀ (r : List (Fin p)) j, co (mul [-a, 1] r) j = -a * co r j + (if j = 0 then 0 else co r (j - 1)) := by
        intro r j
        rw [mul, mul, mul, co_add, co_smul]
        cases j with
        | zero => rw [co_cons_zero]; simp
        | succ j =>
          rw [co_cons_succ, co_add, co_smul]
          have : co (0 :: ([] : List (Fin p))) j = 0 := by cases j with
            | zero => rfl
            | succ j => rw [co_cons_succ, co_nil]
          rw [this]; simp; grind
      have hE : ev (c :: d :: f) a = ev (d :: f) a * a + c := rfl
      rw [co_add, hm, hE]
      generalize ev (d :: f) a = z at *
      cases i with
      | zero => rw [co_cons_zero, co_cons_zero, co_cons_zero]; simp; grind
      | succ i =>
        rw [co_cons_succ, co_cons_succ, co_cons_succ, co_nil]
        have k := key i
        rw [hm] at k
        clear he key hm hE
        cases i with
        | zero =>
          simp only [co_cons_zero, co_cons_succ, if_true] at k ⊢
          simp only [Nat.succ_ne_zero, if_false, Nat.add_sub_cancel, Nat.zero_add, Nat.sub_self, co_cons_zero]
          grind
        | succ i =>
          simp only [co_cons_succ, co_nil, Nat.succ_ne_zero, if_false, Nat.add_sub_cancel] at k ⊢
          grind
/-- Not more roots than the degree. -/
theorem roots_le (hp : Pr p) : ∀ (n : Nat) (f : List (Fin p)) (xs : List (Fin p)), xs.Nodup → (∀ x, x ∈ xs → ev f x = 0) → f.length ≤ n → xs.length = n → ∀ i, co f i = 0
  | 0, f, _, _, _, h, _ => by
    intro i; rw [List.eq_nil_of_length_eq_zero (by omega : f.length = 0), co_nil]
  | n + 1, f, xs, hn, hr, h, hl => by
    cases xs with
    | nil => simp at hl
    | cons a xs =>
      obtain ⟨hna, hn⟩ := List.nodup_cons.1 hn
      obtain ⟨q, hq, he⟩ := root_factor f a
      have ha := hr a (by simp)
      have hz : ∀ i, co q i = 0 := by
        refine roots_le hp n q xs hn (fun x hx => ?_) (by omega) (by simpa using hl)
        have h1 := he.ev x
        rw [ev_add, ev_mul, hr x (by simp [hx]), ev_cons, ev_cons, ev_nil, ev_cons, ev_nil, ha] at h1
        have h2 : (x - a) * ev q x = 0 := by grind
        rcases mul_eq_zero hp h2 with h3 | h3
        · exact absurd (by grind : x = a) (by rintro rfl; exact hna hx)
        · exact h3
      intro i
      rw [he i, co_add, co_mul, ha]
      have : cv (co [-a, 1]) (co q) i = 0 := by unfold cv; exact sm_zero fun j _ => by rw [hz]; grind
      rw [this]
      cases i with
      | zero => rw [co_cons_zero]; grind
      | succ i => rw [co_cons_succ, co_nil]; grind
/-- Polynomials of degree less than n that have the same values at n places are the same. -/
theorem unique (hp : Pr p) {f g xs : List (Fin p)} (hn : xs.Nodup) (hf : (trim f).length ≤ xs.length) (hg : (trim g).length ≤ xs.length) (h : ∀ x, x ∈ xs → ev f x = ev g x) : Eqv f g := by
  have e : Eqv (sub (trim f) (trim g)) (sub f g) := (trim_co f).sub (trim_co g)
  have := roots_le hp xs.length (sub (trim f) (trim g)) xs hn (fun x hx => by rw [e.ev, ev_sub, h x hx]; grind) (by rw [sub_length]; omega) rfl
  intro i
  have h1 := (e i).symm.trans (this i)
  rw [co_sub] at h1
  grind
end
end Go.Proofs.Ytjjnfobeeflnhaa.Fld

/- The program's words over the residues modulo a number: numbers, rows of coefficients, sums, products, values. -/
namespace Go.Proofs.Ytjjnfobeeflnhaa.L
open Go.RowKit Go.Proofs.YtjjnfobeeflnhaaW.PrintWords Go.Proofs.Ytjjnfobeeflnhaa.J
set_option linter.unusedVariables false
set_option linter.unusedSimpArgs false

section
variable {q : Nat} [NeZero q]
/-- The number that a residue is. -/
def nI (a : Fin q) : Int := (a.val : Int)
/-- A row of residues as numbers. -/
def oI (f : List (Fin q)) : List Int := f.map nI

theorem q_pos : 0 < q := Nat.pos_of_ne_zero (NeZero.ne q)
end
section
variable {q : Nat}
theorem nI_range (a : Fin q) : 0 ≤ nI a ∧ nI a < (q : Int) := by
  have := a.isLt
  unfold nI; omega
theorem nI_inj {a b : Fin q} (h : nI a = nI b) : a = b := Fin.ext (by unfold nI at h; omega)
end
section
variable {q : Nat} [NeZero q]
theorem nI_zero : nI (0 : Fin q) = 0 := by simp [nI]
theorem nI_eq_zero {a : Fin q} : nI a = 0 ↔ a = 0 := ⟨fun h => nI_inj (h.trans nI_zero.symm), fun h => by rw [h, nI_zero]⟩
theorem nI_one (h : 1 < q) : nI (1 : Fin q) = 1 := by
  have : ((1 : Fin q) : Nat) = 1 % q := rfl
  unfold nI; rw [this, Nat.mod_eq_of_lt h]; rfl
end
section
variable {q : Nat}
theorem nI_of {x : Int} (h0 : 0 ≤ x) (h1 : x < (q : Int)) : ∃ a : Fin q, nI a = x := ⟨⟨x.toNat, by omega⟩, by show ((x.toNat : Nat) : Int) = x; omega⟩
theorem nI_mul (a b : Fin q) : nI (a * b) = nI a * nI b % (q : Int) := by
  unfold nI; rw [Fin.val_mul]; simp
theorem nI_add (a b : Fin q) : nI (a + b) = (nI a + nI b) % (q : Int) := by
  unfold nI; rw [Fin.val_add]; simp
theorem nI_sub (a b : Fin q) : nI (a - b) = (nI a + (q : Int) - nI b) % (q : Int) := by
  have hb := b.isLt
  have e : (a - b).val = (q - b.val + a.val) % q := by rw [Fin.sub_def]
  unfold nI; rw [e]
  have : (a.val : Int) + (q : Int) - (b.val : Int) = ((q - b.val + a.val : Nat) : Int) := by omega
  rw [this]; simp

theorem oI_nil : oI ([] : List (Fin q)) = [] := rfl
theorem oI_cons (a : Fin q) (f : List (Fin q)) : oI (a :: f) = nI a :: oI f := rfl
theorem oI_append (f g : List (Fin q)) : oI (f ++ g) = oI f ++ oI g := by simp [oI]
theorem oI_length (f : List (Fin q)) : (oI f).length = f.length := by simp [oI]
theorem oI_of : ∀ {l : List Int}, (∀ c ∈ l, 0 ≤ c ∧ c < (q : Int)) → ∃ f : List (Fin q), oI f = l
  | [], _ => ⟨[], rfl⟩
  | a :: l, h => by
    obtain ⟨x, hx⟩ := nI_of (h a (by simp)).1 (h a (by simp)).2
    obtain ⟨f, hf⟩ := oI_of (l := l) (fun c hc => h c (by simp [hc]))
    exact ⟨x :: f, by rw [oI_cons, hx, hf]⟩
theorem oI_inj : ∀ {f g : List (Fin q)}, oI f = oI g → f = g
  | [], [], _ => rfl
  | [], _ :: _, h => by cases h
  | _ :: _, [], h => by cases h
  | a :: f, b :: g, h => by
    rw [oI_cons, oI_cons] at h
    injection h with h1 h2
    rw [nI_inj h1, oI_inj h2]
theorem oI_range (f : List (Fin q)) : ∀ c ∈ oI f, 0 ≤ c ∧ c < (q : Int) := by
  intro c hc
  obtain ⟨a, _, rfl⟩ := List.mem_map.1 hc
  exact nI_range a
end
section
variable {q : Nat} [NeZero q]
theorem oI_getD (f : List (Fin q)) (i : Nat) : (oI f).getD i 0 = nI (Fld.co f i) := by
  by_cases h : i < f.length
  · rw [Fld.co_lt h]; simp [oI, List.getD_eq_getElem?_getD, h]
  · rw [Fld.co_ge (by omega), nI_zero]; simp [oI, List.getD_eq_getElem?_getD, List.getElem?_eq_none (show f.length ≤ i by omega)]
theorem rd_oI (f : List (Fin q)) (i : Nat) : rd (oI f) (i : Int) = nI (Fld.co f i) := by
  rw [← oI_getD]; simp [rd]
end
section
variable {q : Nat}
theorem oI_set (f : List (Fin q)) (i : Nat) (a : Fin q) : (oI f).set i (nI a) = oI (f.set i a) := by simp [oI, List.map_set]
end
section
variable {q : Nat} [NeZero q]
theorem oI_zeros (n : Nat) : List.replicate n (0 : Int) = oI (List.replicate n (0 : Fin q)) := by simp [oI, nI_zero]
theorem short_oI (f : List (Fin q)) : shortI (oI f) = oI (Fld.trim f) := by
  induction f with
  | nil => rfl
  | cons a f ih =>
    have e : shortI (oI (a :: f)) = if shortI (oI f) = [] ∧ nI a = 0 then [] else nI a :: shortI (oI f) := rfl
    rw [e, ih, Fld.trim_cons]
    by_cases h : Fld.trim f = [] ∧ a = 0
    · rw [if_pos h, if_pos (by rw [h.1, h.2]; exact ⟨rfl, nI_zero⟩)]; rfl
    · rw [if_neg h, if_neg (fun h' => h ⟨oI_inj (h'.1.trans oI_nil.symm), nI_eq_zero.1 h'.2⟩)]; rfl

theorem co_set (f : List (Fin q)) (i : Nat) (a : Fin q) (hi : i < f.length) (s : Nat) : Fld.co (f.set i a) s = if s = i then a else Fld.co f s := by
  unfold Fld.co
  rw [List.getD_eq_getElem?_getD, List.getD_eq_getElem?_getD]
  by_cases h : s = i
  · subst h; rw [if_pos rfl, List.getElem?_set_self hi]; rfl
  · rw [if_neg h, List.getElem?_set_ne (by omega)]
theorem co_zeros (n s : Nat) : Fld.co (List.replicate n (0 : Fin q)) s = 0 := by
  unfold Fld.co
  rw [List.getD_eq_getElem?_getD, List.getElem?_replicate]
  split <;> rfl
/-! what the field's words tell -/
section
variable (hq : q ≤ 65537)
include hq
theorem times_fp (a b : Fin q) : field_Times.f (q : Int) (nI a) (nI b) = some (nI (a * b)) := by
  have hp := q_pos (q := q)
  rw [times_at (by omega) (by omega) (nI_range a).1 (nI_range a).2 (nI_range b).1 (nI_range b).2, nI_mul]
theorem mul_fp (a b : Fin q) : juntoref01_Mul.f (q : Int) (nI a) (nI b) = some (nI (a * b)) := by
  have hp := q_pos (q := q)
  rw [ref_mul (by omega) (by omega) (nI_range a).1 (nI_range a).2 (nI_range b).1 (nI_range b).2, nI_mul]
theorem plus_fp (a b : Fin q) : field_Plus.f (q : Int) (nI a) (nI b) = some (nI (a + b)) := by
  have hp := q_pos (q := q)
  rw [plus_at (by omega) (by omega) (nI_range a).1 (nI_range a).2 (nI_range b).1 (nI_range b).2, nI_add]
theorem add_fp (a b : Fin q) : juntoref01_Add.f (q : Int) (nI a) (nI b) = some (nI (a + b)) := by
  have hp := q_pos (q := q)
  rw [ref_add (by omega) (by omega) (nI_range a).1 (nI_range a).2 (nI_range b).1 (nI_range b).2, nI_add]
theorem fmul_fp (a b : Fin q) : field_mul.f (q : Int) (nI a) (nI b) = some (nI (a * b)) := by
  have := times_fp hq a b
  unfold field_Times.f at this
  generalize field_mul.f (q : Int) (nI a) (nI b) = o at this
  cases o with
  | none => cases this
  | some v => exact this
theorem minus_fp (a b : Fin q) : field_Minus.f (q : Int) (nI a) (nI b) = some (nI (a - b)) := by
  have hp := q_pos (q := q)
  have ha := nI_range a
  have hb := nI_range b
  unfold field_Minus.f
  rw [if_neg (by omega), u64_small (by omega) (by omega), Int.tmod_eq_emod_of_nonneg (by omega)]
  have e : ((q : Int) - nI b) % (q : Int) = nI (0 - b) := by rw [nI_sub, nI_zero, Int.zero_add]
  rw [e, plus_fp hq, Option.bind_some]
  congr 2
  grind
end

/-! rows -/
theorem short_fp (f : List (Fin q)) (hl : f.length ≤ 1000000000) : Ev (fun k => poly_Short.f k (oI f)) (oI (Fld.trim f)) := by
  rw [← short_oI]
  exact ⟨f.length + 1, fun k hk => short_spec (oI f) (by rw [oI_length]; omega) k (by rw [oI_length]; omega)⟩
/-- A row that is filled from the front on. -/
def fill (n j : Nat) (F : Nat → Fin q) : List (Fin q) := Fld.mk n (fun i => if i < j then F i else 0)
theorem fill_zero (n : Nat) (F : Nat → Fin q) : fill n 0 F = List.replicate n 0 := by
  apply List.ext_getElem (by simp [fill, Fld.mk])
  intro i h1 h2
  simp [fill, Fld.mk]
theorem fill_length (n j : Nat) (F : Nat → Fin q) : (fill n j F).length = n := Fld.mk_length _ _
theorem fill_set (n j : Nat) (F : Nat → Fin q) : (fill n j F).set j (F j) = fill n (j + 1) F := by
  apply List.ext_getElem (by simp [fill, Fld.mk])
  intro i h1 h2
  simp only [fill, Fld.mk, List.getElem_set, List.getElem_map, List.getElem_range]
  by_cases h : j = i
  · rw [if_pos h, if_pos (by omega), h]
  · rw [if_neg h]
    by_cases h' : i < j
    · rw [if_pos h', if_pos (by omega)]
    · rw [if_neg h', if_neg (by omega)]
theorem fill_all (n : Nat) (F : Nat → Fin q) : fill n n F = Fld.mk n F := by
  apply List.ext_getElem (by simp [fill, Fld.mk])
  intro i h1 h2
  have : i < n := by simpa [fill, Fld.mk] using h1
  simp [fill, Fld.mk, this]

theorem by_loop (hq : q ≤ 65537) (f : List (Fin q)) (c : Fin q) (hf : f.length ≤ 1000000000) : ∀ (m i : Nat), i + m = f.length →
    Ev (fun k => poly_By.l0 k (q : Int) (nI c) (oI (fill f.length i fun j => Fld.co f j * c)) (oI f) (f.length : Int) (i : Int)) (oI (Fld.trim (Fld.mk f.length fun j => Fld.co f j * c)))
  | 0, i, hi => by
    obtain rfl : i = f.length := by omega
    refine Ev.step (f := fun k => (poly_Short.f k (oI (Fld.mk f.length fun j => Fld.co f j * c))).bind fun t => some t) (fun k => ?_) (Ev.bind (short_fp _ (by rw [Fld.mk_length]; exact hf)) (Ev.now _))
    simp only [poly_By.l0]
    rw [if_neg (by omega), fill_all]
  | m + 1, i, hi => by
    refine Ev.step (f := fun k => poly_By.l0 k (q : Int) (nI c) (oI (fill f.length (i + 1) fun j => Fld.co f j * c)) (oI f) (f.length : Int) ((i + 1 : Nat) : Int)) (fun k => ?_) (by_loop hq f c hf m (i + 1) (by omega))
    conv => lhs; simp only [poly_By.l0]
    rw [if_pos (by omega), if_pos (by omega), if_pos (by rw [oI_length]; omega), rd_oI, times_fp hq, Option.bind_some, if_pos (by rw [oI_length, fill_length]; omega), Int.toNat_natCast, oI_set, fill_set f.length i (fun j => Fld.co f j * c), w64_small (by omega) (by omega)]
    rfl
theorem by_rows (hq : q ≤ 65537) (f : List (Fin q)) (c : Fin q) (hf : f.length ≤ 1000000000) : Ev (fun k => poly_By.f k (q : Int) (oI f) (nI c)) (oI (Fld.trim (Fld.smul c f))) := by
  have e : Fld.Eqv (Fld.mk f.length fun j => Fld.co f j * c) (Fld.smul c f) := fun i => by
    rw [Fld.co_mk, Fld.co_smul]
    split
    · grind
    · rw [Fld.co_ge (f := f) (by omega)]; grind
  rw [← Fld.trim_congr e]
  have h := by_loop hq f c hf f.length 0 (by omega)
  rw [fill_zero, ← oI_zeros] at h
  refine Ev.congr (fun k => ?_) h
  unfold poly_By.f
  rw [oI_length, if_pos (by omega), if_pos (by omega), Int.toNat_natCast]
  rfl

/-! products -/
/-- What the first i rows of a product come to. -/
def part (f g : List (Fin q)) (i s : Nat) : Fin q := Fld.sm i (fun j => if j ≤ s then Fld.co f j * Fld.co g (s - j) else 0)
theorem part_all (f g : List (Fin q)) (n s : Nat) (h : f.length ≤ n) : part f g n s = Fld.co (Fld.mul f g) s := by
  rw [Fld.co_mul]
  unfold part Fld.cv
  have e : Fld.sm (max n (s + 1)) (fun j => if j ≤ s then Fld.co f j * Fld.co g (s - j) else 0) = Fld.sm n (fun j => if j ≤ s then Fld.co f j * Fld.co g (s - j) else 0) := Fld.sm_more (by omega) fun i h1 h2 => by
    rw [Fld.co_ge (f := f) (by omega)]; split <;> grind
  have e' : Fld.sm (max n (s + 1)) (fun j => if j ≤ s then Fld.co f j * Fld.co g (s - j) else 0) = Fld.sm (s + 1) (fun j => if j ≤ s then Fld.co f j * Fld.co g (s - j) else 0) := Fld.sm_more (by omega) fun i h1 h2 => by
    rw [if_neg (by omega)]
  rw [← e, e']
  exact Fld.sm_congr fun i hi => by rw [if_pos (by omega)]

/-- The row h stands at factor i, k of a product. -/
def At2 (f g h : List (Fin q)) (i k : Nat) : Prop := ∀ s, Fld.co h s = part f g i s + (if i ≤ s ∧ s < i + k then Fld.co f i * Fld.co g (s - i) else 0)
theorem At2.start (f g : List (Fin q)) (n : Nat) : At2 f g (List.replicate n 0) 0 0 := fun s => by
  rw [co_zeros, if_neg (by omega)]; show (0 : Fin q) = 0 + 0; grind
theorem At2.next {f g h : List (Fin q)} {i k : Nat} (H : At2 f g h i k) (hk : i + k < h.length) : At2 f g (h.set (i + k) (Fld.co h (i + k) + Fld.co f i * Fld.co g k)) i (k + 1) := fun s => by
  rw [co_set _ _ _ hk]
  by_cases e : s = i + k
  · subst e
    rw [if_pos rfl, H (i + k), if_neg (by omega), if_pos (by omega), show i + k - i = k by omega]; grind
  · rw [if_neg e, H s]
    by_cases e' : i ≤ s ∧ s < i + k
    · rw [if_pos e', if_pos (by omega)]
    · rw [if_neg e', if_neg (by omega)]
theorem At2.round {f g h : List (Fin q)} {i k : Nat} (H : At2 f g h i k) (hk : g.length ≤ k) : At2 f g h (i + 1) 0 := fun s => by
  rw [H s, if_neg (by omega : ¬ (i + 1 ≤ s ∧ s < i + 1 + 0))]
  have e : part f g (i + 1) s = part f g i s + (if i ≤ s then Fld.co f i * Fld.co g (s - i) else 0) := rfl
  rw [e]
  by_cases h1 : i ≤ s
  · by_cases h2 : s < i + k
    · rw [if_pos ⟨h1, h2⟩, if_pos h1]; grind
    · rw [if_neg (by omega), if_pos h1, Fld.co_ge (f := g) (by omega)]; grind
  · rw [if_neg (by omega), if_neg h1]; grind
theorem At2.last {f g h : List (Fin q)} {i : Nat} (H : At2 f g h i 0) (hi : f.length ≤ i) : Fld.trim h = Fld.trim (Fld.mul f g) := Fld.trim_congr fun s => by
  rw [H s, if_neg (by omega), part_all f g i s hi]; grind

theorem mul_nil_left (g : List (Fin q)) : Fld.mul [] g = [] := rfl
/-! inverses -/
theorem pow_loop (hq : q ≤ 65537) : ∀ (n : Nat) (e : Nat) (a y : Fin q), e ≤ n → e ≤ 65537 → Ev (fun k => field_pow.l0 k (q : Int) (nI a) (e : Int) (nI y)) (nI (y * a ^ e))
  | 0, e, a, y, h, he => by
    obtain rfl : e = 0 := by omega
    rw [show y * a ^ 0 = y by grind]
    refine Ev.step (f := fun k => some (nI y)) (fun k => ?_) (Ev.now _)
    simp only [field_pow.l0]
    rw [if_neg (by omega)]
  | n + 1, e, a, y, h, he => by
    by_cases h0 : e = 0
    · subst h0
      rw [show y * a ^ 0 = y by grind]
      refine Ev.step (f := fun k => some (nI y)) (fun k => ?_) (Ev.now _)
      simp only [field_pow.l0]
      rw [if_neg (by omega)]
    · have hd : ((e : Int) / 2) = ((e / 2 : Nat) : Int) := by omega
      have hb : Go.bits .and .u64 (e : Int) 1 = ((e % 2 : Nat) : Int) := by rw [and_one_u64 (e : Int) (by omega) (by omega)]; omega
      by_cases h1 : e % 2 = 1
      · have ee : y * a ^ e = y * a * (a * a) ^ (e / 2) := by
          have : e = 2 * (e / 2) + 1 := by omega
          rw [Fld.pow_double]
          generalize e / 2 = z at *
          subst this
          grind
        rw [ee]
        refine Ev.step (f := fun k => field_pow.l0 k (q : Int) (nI (a * a)) ((e / 2 : Nat) : Int) (nI (y * a))) (fun k => ?_) (pow_loop hq n (e / 2) (a * a) (y * a) (by omega) (by omega))
        conv => lhs; simp only [field_pow.l0]
        rw [if_pos (by omega), hb, h1, if_pos (by rfl), fmul_fp hq, Option.bind_some, fmul_fp hq, Option.bind_some, hd]
      · have ee : y * a ^ e = y * (a * a) ^ (e / 2) := by
          have : e = 2 * (e / 2) := by omega
          rw [Fld.pow_double]
          generalize e / 2 = z at *
          subst this
          rfl
        rw [ee]
        refine Ev.step (f := fun k => field_pow.l0 k (q : Int) (nI (a * a)) ((e / 2 : Nat) : Int) (nI y)) (fun k => ?_) (pow_loop hq n (e / 2) (a * a) y (by omega) (by omega))
        conv => lhs; simp only [field_pow.l0]
        rw [if_pos (by omega), hb, if_neg (by omega), fmul_fp hq, Option.bind_some, hd]
theorem over_fp (h1 : 2 < q) (hq : q ≤ 65537) (a : Fin q) : Ev (fun k => field_Over.f k (q : Int) (nI a)) (nI (Fld.inv a)) := by
  unfold field_Over.f field_pow.f
  rw [u64_small (by omega) (by omega)]
  have e : ((q : Int) - 2) = ((q - 2 : Nat) : Int) := by omega
  have e1 : (1 : Int) % (q : Int) = nI (1 : Fin q) := by rw [nI_one (by omega), Int.emod_eq_of_lt (by omega) (by omega)]
  have e2 : Fld.inv a = 1 * a ^ (q - 2) := by unfold Fld.inv; grind
  rw [e, e1, e2]
  refine Ev.bind (f := fun k t => some t) (a := nI (1 * a ^ (q - 2))) ?_ (Ev.now _)
  refine Ev.congr (fun k => if_neg (by omega)) (pow_loop hq (q - 2) (q - 2) a 1 (Nat.le_refl _) (by omega))
end

end Go.Proofs.Ytjjnfobeeflnhaa.L

/- Rows drawn from a tape, rows without noughts at the end, rows compared: what the words tell. -/
namespace Go.Proofs.Ytjjnfobeeflnhaa.L
open Go.RowKit Go.Proofs.YtjjnfobeeflnhaaW.PrintWords Go.Proofs.Ytjjnfobeeflnhaa.J
set_option linter.unusedVariables false
set_option linter.unusedSimpArgs false

/-! rows compared -/
theorem same_loop (a b : List Int) (hl : a.length = b.length) (hs : a.length ≤ maxLen) : ∀ (m i : Nat), i + m = a.length → Ev (fun k => juntoref01_Same.l0 k a b (a.length : Int) (i : Int)) (decide (a.drop i = b.drop i))
  | 0, i, hi => by
    have e : a.drop i = b.drop i := by rw [List.drop_of_length_le (by omega), List.drop_of_length_le (by omega)]
    rw [decide_eq_true e]
    refine Ev.step (f := fun k => some true) (fun k => ?_) (Ev.now _)
    simp only [juntoref01_Same.l0]
    rw [if_neg (by omega)]
  | m + 1, i, hi => by
    have hm : (a.length : Int) ≤ 9223372036854775807 := by simp only [maxLen] at hs; omega
    have h1 : i < a.length := by omega
    have h2 : i < b.length := by omega
    have ra : rd a (i : Int) = a[i] := by simp [rd, List.getD_eq_getElem?_getD, h1]
    have rb : rd b (i : Int) = b[i] := by simp [rd, List.getD_eq_getElem?_getD, h2]
    by_cases e : a[i] = b[i]
    · have e2 : decide (a.drop i = b.drop i) = decide (a.drop (i + 1) = b.drop (i + 1)) := by
        rw [List.drop_eq_getElem_cons h1, List.drop_eq_getElem_cons h2, e]
        exact decide_eq_decide.2 ⟨fun h => (List.cons.inj h).2, fun h => by rw [h]⟩
      rw [e2]
      refine Ev.step (f := fun k => juntoref01_Same.l0 k a b (a.length : Int) ((i + 1 : Nat) : Int)) (fun k => ?_) (same_loop a b hl hs m (i + 1) (by omega))
      conv => lhs; simp only [juntoref01_Same.l0]
      rw [if_pos (by omega), if_pos (by omega), if_pos (by omega), if_pos (by omega), ra, rb, if_pos e, w64_small (by omega) (by omega)]
      rfl
    · have e2 : decide (a.drop i = b.drop i) = false := by
        rw [List.drop_eq_getElem_cons h1, List.drop_eq_getElem_cons h2]
        exact decide_eq_false fun h => e (List.cons.inj h).1
      rw [e2]
      refine Ev.step (f := fun k => some false) (fun k => ?_) (Ev.now _)
      simp only [juntoref01_Same.l0]
      rw [if_pos (by omega), if_pos (by omega), if_pos (by omega), if_pos (by omega), ra, rb, if_neg e]
theorem same_at (a b : List Int) (hs : a.length ≤ maxLen) : Ev (fun k => juntoref01_Same.f k a b) (decide (a = b)) := by
  unfold juntoref01_Same.f
  by_cases h : a.length = b.length
  · have := same_loop a b h hs a.length 0 (by omega)
    rw [List.drop_zero, List.drop_zero] at this
    exact Ev.congr (fun k => if_pos (by omega)) this
  · rw [decide_eq_false (fun e => h (by rw [e]))]
    exact Ev.congr (fun k => if_neg (by omega)) (Ev.now _)
theorem same_self (a : List Int) (hs : a.length ≤ maxLen) : Ev (fun k => juntoref01_Same.f k a a) true := by
  have := same_at a a hs
  rwa [decide_eq_true rfl] at this

/-! rows without noughts at the end -/
theorem trim_loop (l : List Int) (hl : l.length < 17592186044416) : ∀ (n : Nat), n ≤ l.length → Ev (fun k => juntoref02_Trim.l0 k l (n : Int)) (shortI (l.take n))
  | 0, _ => by
    refine Ev.step (f := fun k => some []) (fun k => ?_) (Ev.now _)
    simp only [juntoref02_Trim.l0]
    rw [if_neg (by omega)]
    simp
  | n + 1, hn => by
    have hw : wrap64 (((n + 1 : Nat) : Int) - 1) = (n : Int) := by unfold wrap64; omega
    have hr : rd l (n : Int) = l[n] := by simp [rd, List.getD_eq_getElem?_getD, show n < l.length by omega]
    rw [List.take_succ_eq_append_getElem (by omega), shortI_snoc]
    by_cases hz : l[n] = 0
    · rw [if_pos hz]
      refine Ev.step (f := fun k => juntoref02_Trim.l0 k l (n : Int)) (fun k => ?_) (trim_loop l hl n (by omega))
      conv => lhs; simp only [juntoref02_Trim.l0]
      rw [hw, if_pos (by omega), if_pos (by omega), if_pos (by omega), hr, if_pos hz]
    · rw [if_neg hz]
      refine Ev.step (f := fun k => some (l.take n ++ [l[n]])) (fun k => ?_) (Ev.now _)
      conv => lhs; simp only [juntoref02_Trim.l0]
      rw [hw, if_pos (by omega), if_pos (by omega), if_pos (by omega), hr, if_neg hz, Option.bind_some, if_pos (by omega), if_pos (by omega)]
      rw [show (((n + 1 : Nat) : Int)).toNat = n + 1 by omega, List.take_succ_eq_append_getElem (by omega)]
      rw [if_pos (by simp; omega)]; rfl
theorem trim_at (l : List Int) (hl : l.length < 17592186044416) : Ev (fun k => juntoref02_Trim.f k l) (shortI l) := by
  have := trim_loop l hl l.length (Nat.le_refl _)
  rw [List.take_length] at this
  exact this
section
variable {q : Nat} [NeZero q]
theorem trim_fp (f : List (Fin q)) (hl : f.length ≤ 1000000000) : Ev (fun k => juntoref02_Trim.f k (oI f)) (oI (Fld.trim f)) := by
  rw [← short_oI]
  exact trim_at _ (by rw [oI_length]; omega)

/-! rows drawn from a tape -/
/-- The residue of a number. -/
def resid (q : Nat) [NeZero q] (x : Int) : Fin q := Fin.ofNat q (x % (q : Int)).toNat
/-- The first n numbers of a tape. -/
def drawn (q : Nat) [NeZero q] (tape : List Int) (n : Nat) : List (Fin q) := Fld.mk n (fun i => resid q (tape.getD i 0))
end

end Go.Proofs.Ytjjnfobeeflnhaa.L

/- The reference's words over the residues modulo a prime: sums, differences, products, inverses. -/
namespace Go.Proofs.Ytjjnfobeeflnhaa.L
open Go.RowKit Go.Proofs.YtjjnfobeeflnhaaW.PrintWords Go.Proofs.Ytjjnfobeeflnhaa.J
set_option linter.unusedVariables false
set_option linter.unusedSimpArgs false

section
variable {q : Nat} [NeZero q]
theorem cof_fp (f : List (Fin q)) (i : Nat) : juntoref02_at.f (oI f) (i : Int) = some (nI (Fld.co f i)) := by
  unfold juntoref02_at.f
  rw [oI_length]
  by_cases h : i < f.length
  · rw [if_pos (by omega), if_pos (by omega), rd_oI]
  · rw [if_neg (by omega), Fld.co_ge (by omega), nI_zero]
theorem add_loop (hq : q ≤ 65537) (f g : List (Fin q)) (n : Nat) (hn : n ≤ 1000000000) : ∀ (m i : Nat), i + m = n →
    Ev (fun k => juntoref02_Add.l0 k (q : Int) (oI f) (oI g) (oI (fill n i fun j => Fld.co f j + Fld.co g j)) (n : Int) (i : Int)) (oI (Fld.trim (Fld.mk n fun j => Fld.co f j + Fld.co g j)))
  | 0, i, hi => by
    obtain rfl : i = n := by omega
    refine Ev.step (f := fun k => (juntoref02_Trim.f k (oI (Fld.mk i fun j => Fld.co f j + Fld.co g j))).bind fun t => some t) (fun k => ?_) (Ev.bind (trim_fp _ (by rw [Fld.mk_length]; exact hn)) (Ev.now _))
    simp only [juntoref02_Add.l0]
    rw [if_neg (by omega), fill_all]
  | m + 1, i, hi => by
    refine Ev.step (f := fun k => juntoref02_Add.l0 k (q : Int) (oI f) (oI g) (oI (fill n (i + 1) fun j => Fld.co f j + Fld.co g j)) (n : Int) ((i + 1 : Nat) : Int)) (fun k => ?_) (add_loop hq f g n hn m (i + 1) (by omega))
    conv => lhs; simp only [juntoref02_Add.l0]
    rw [if_pos (by omega), cof_fp, Option.bind_some, cof_fp, Option.bind_some, add_fp hq, Option.bind_some, if_pos (by omega), if_pos (by rw [oI_length, fill_length]; omega), Int.toNat_natCast, oI_set, fill_set n i (fun j => Fld.co f j + Fld.co g j), w64_small (by omega) (by omega)]
    rfl
theorem add_rows (hq : q ≤ 65537) (f g : List (Fin q)) (hf : f.length ≤ 1000000000) (hg : g.length ≤ 1000000000) : Ev (fun k => juntoref02_Add.f k (q : Int) (oI f) (oI g)) (oI (Fld.trim (Fld.add f g))) := by
  have h := add_loop hq f g (max f.length g.length) (by omega) (max f.length g.length) 0 (by omega)
  rw [fill_zero, ← oI_zeros] at h
  refine Ev.congr (fun k => ?_) h
  have e : mx ((oI f).length : Int) ((oI g).length : Int) = ((max f.length g.length : Nat) : Int) := by
    rw [oI_length, oI_length]; unfold mx; split <;> omega
  unfold juntoref02_Add.f
  rw [e, if_pos (by omega), Int.toNat_natCast, if_pos (by omega), Option.bind_some]
  simp
theorem scale_loop (hq : q ≤ 65537) (f : List (Fin q)) (c : Fin q) (hf : f.length ≤ 1000000000) : ∀ (m i : Nat), i + m = f.length →
    Ev (fun k => juntoref02_Scale.l0 k (q : Int) (oI f) (nI c) (oI (fill f.length i fun j => Fld.co f j * c)) (f.length : Int) (i : Int)) (oI (Fld.trim (Fld.mk f.length fun j => Fld.co f j * c)))
  | 0, i, hi => by
    obtain rfl : i = f.length := by omega
    refine Ev.step (f := fun k => (juntoref02_Trim.f k (oI (Fld.mk f.length fun j => Fld.co f j * c))).bind fun t => some t) (fun k => ?_) (Ev.bind (trim_fp _ (by rw [Fld.mk_length]; exact hf)) (Ev.now _))
    simp only [juntoref02_Scale.l0]
    rw [if_neg (by omega), fill_all]
  | m + 1, i, hi => by
    refine Ev.step (f := fun k => juntoref02_Scale.l0 k (q : Int) (oI f) (nI c) (oI (fill f.length (i + 1) fun j => Fld.co f j * c)) (f.length : Int) ((i + 1 : Nat) : Int)) (fun k => ?_) (scale_loop hq f c hf m (i + 1) (by omega))
    conv => lhs; simp only [juntoref02_Scale.l0]
    rw [if_pos (by omega), if_pos (by omega), if_pos (by rw [oI_length]; omega), rd_oI, mul_fp hq, Option.bind_some, if_pos (by rw [oI_length, fill_length]; omega), Int.toNat_natCast, oI_set, fill_set f.length i (fun j => Fld.co f j * c), w64_small (by omega) (by omega)]
    rfl
theorem scale_rows (hq : q ≤ 65537) (f : List (Fin q)) (c : Fin q) (hf : f.length ≤ 1000000000) : Ev (fun k => juntoref02_Scale.f k (q : Int) (oI f) (nI c)) (oI (Fld.trim (Fld.smul c f))) := by
  have e : Fld.Eqv (Fld.mk f.length fun j => Fld.co f j * c) (Fld.smul c f) := fun i => by
    rw [Fld.co_mk, Fld.co_smul]
    split
    · grind
    · rw [Fld.co_ge (f := f) (by omega)]; grind
  rw [← Fld.trim_congr e]
  have h := scale_loop hq f c hf f.length 0 (by omega)
  rw [fill_zero, ← oI_zeros] at h
  refine Ev.congr (fun k => ?_) h
  unfold juntoref02_Scale.f
  rw [oI_length, if_pos (by omega), if_pos (by omega), Int.toNat_natCast]
  rfl
theorem minus_one (h1 : 1 < q) (hq : q ≤ 65537) : IntKind.u64.wrap ((q : Int) - 1) = nI (0 - 1 : Fin q) := by
  rw [u64_small (by omega) (by omega), nI_sub, nI_zero, nI_one h1, Int.zero_add, Int.emod_eq_of_lt (by omega) (by omega)]
theorem sub_rows (h1 : 1 < q) (hq : q ≤ 65537) (f g : List (Fin q)) (hf : f.length ≤ 1000000000) (hg : g.length ≤ 1000000000) : Ev (fun k => juntoref02_Sub.f k (q : Int) (oI f) (oI g)) (oI (Fld.trim (Fld.sub f g))) := by
  have e : Fld.Eqv (Fld.add f (Fld.trim (Fld.smul (0 - 1) g))) (Fld.sub f g) := fun i => by
    rw [Fld.co_add, Fld.co_sub, Fld.trim_co _ i, Fld.co_smul]; grind
  rw [← Fld.trim_congr e]
  unfold juntoref02_Sub.f
  rw [minus_one h1 hq]
  refine Ev.bind (scale_rows hq g (0 - 1) hg) (Ev.bind (add_rows hq f _ hf ?_) (Ev.now _))
  have := Fld.trim_length_le (Fld.smul (0 - 1) g)
  rw [Fld.smul_length] at this
  omega
theorem rmul_inner (hq : q ≤ 65537) (f g : List (Fin q)) (i : Nat) (hi : i < f.length) (hf : f.length ≤ 1000000) (hg : g.length ≤ 1000000) {r : List Int} (next : ∀ h : List (Fin q), h.length = f.length + g.length → At2 f g h (i + 1) 0 → Ev (fun k => juntoref02_Mul.l0 k (q : Int) (oI f) (oI g) (oI h) (f.length : Int) ((i + 1 : Nat) : Int)) r) : ∀ (m j : Nat) (h : List (Fin q)), j + m = g.length → h.length = f.length + g.length → At2 f g h i j →
    Ev (fun k => juntoref02_Mul.l1 k (q : Int) (oI f) (oI g) (oI h) (i : Int) (f.length : Int) (i : Int) (g.length : Int) (j : Int)) r
  | 0, j, h, hj, hh, H => by
    refine Ev.step (f := fun k => juntoref02_Mul.l0 k (q : Int) (oI f) (oI g) (oI h) (f.length : Int) ((i + 1 : Nat) : Int)) (fun k => ?_) (next h hh (H.round (by omega)))
    conv => lhs; simp only [juntoref02_Mul.l1]
    rw [if_neg (by omega), w64_small (by omega) (by omega)]
    rfl
  | m + 1, j, h, hj, hh, H => by
    refine Ev.step (f := fun k => juntoref02_Mul.l1 k (q : Int) (oI f) (oI g) (oI (h.set (i + j) (Fld.co h (i + j) + Fld.co f i * Fld.co g j))) (i : Int) (f.length : Int) (i : Int) (g.length : Int) ((j + 1 : Nat) : Int)) (fun k => ?_) (rmul_inner hq f g i hi hf hg next m (j + 1) _ (by omega) (by rw [List.length_set]; exact hh) (H.next (by omega)))
    conv => lhs; simp only [juntoref02_Mul.l1]
    have hw : wrap64 ((i : Int) + (j : Int)) = ((i + j : Nat) : Int) := by rw [w64_small (by omega) (by omega)]; omega
    rw [if_pos (by omega), hw, if_pos (by omega), if_pos (by rw [oI_length]; omega), if_pos (by omega), if_pos (by rw [oI_length]; omega), if_pos (by omega), if_pos (by rw [oI_length]; omega), rd_oI, rd_oI, rd_oI, mul_fp hq, Option.bind_some, add_fp hq, Option.bind_some, Int.toNat_natCast, oI_set, w64_small (by omega) (by omega)]
    rfl
theorem rmul_outer (hq : q ≤ 65537) (f g : List (Fin q)) (hf : f.length ≤ 1000000) (hg : g.length ≤ 1000000) : ∀ (m i : Nat) (h : List (Fin q)), i + m = f.length → h.length = f.length + g.length → At2 f g h i 0 →
    Ev (fun k => juntoref02_Mul.l0 k (q : Int) (oI f) (oI g) (oI h) (f.length : Int) (i : Int)) (oI (Fld.trim (Fld.mul f g)))
  | 0, i, h, hi, hh, H => by
    rw [← H.last (by omega)]
    refine Ev.step (f := fun k => (juntoref02_Trim.f k (oI h)).bind fun t => some t) (fun k => ?_) (Ev.bind (trim_fp _ (by omega)) (Ev.now _))
    simp only [juntoref02_Mul.l0]
    rw [if_neg (by omega)]
  | m + 1, i, h, hi, hh, H => by
    refine Ev.step (f := fun k => juntoref02_Mul.l1 k (q : Int) (oI f) (oI g) (oI h) (i : Int) (f.length : Int) (i : Int) (g.length : Int) ((0 : Nat) : Int)) (fun k => ?_) (rmul_inner hq f g i (by omega) hf hg (fun h' hh' H' => rmul_outer hq f g hf hg m (i + 1) h' (by omega) hh' H') g.length 0 h (by omega) hh H)
    conv => lhs; simp only [juntoref02_Mul.l0]
    rw [if_pos (by omega), oI_length]
    rfl
theorem rmul_rows (hq : q ≤ 65537) (f g : List (Fin q)) (hf : f.length ≤ 1000000) (hg : g.length ≤ 1000000) : Ev (fun k => juntoref02_Mul.f k (q : Int) (oI f) (oI g)) (oI (Fld.trim (Fld.mul f g))) := by
  refine Ev.congr (fun k => ?_) (rmul_outer hq f g hf hg f.length 0 (List.replicate (f.length + g.length) 0) (by omega) (by simp) (At2.start f g _))
  have hw : wrap64 (((oI f).length : Int) + ((oI g).length : Int)) = ((f.length + g.length : Nat) : Int) := by
    rw [oI_length, oI_length, w64_small (by omega) (by omega)]; omega
  unfold juntoref02_Mul.f
  rw [hw, if_pos (by omega), Int.toNat_natCast, if_pos (by omega), ← oI_zeros, oI_length]
  rfl
theorem pow_plus (a : Fin q) (m n : Nat) : a ^ (m + n) = a ^ m * a ^ n := by
  induction n with
  | zero => rw [Nat.add_zero]; grind
  | succ n ih =>
    have e : a ^ (m + (n + 1)) = a ^ (m + n) * a := by rw [show m + (n + 1) = (m + n) + 1 by omega]; grind
    have e' : a ^ (n + 1) = a ^ n * a := by grind
    rw [e, e', ih]; grind
theorem rpow_at (h1 : 1 < q) (hq : q ≤ 65537) (a : Fin q) : ∀ (n e : Nat), e ≤ n → e ≤ 65537 → Ev (fun k => juntoref01_Pow.f k (q : Int) (nI a) (e : Int)) (nI (a ^ e))
  | n, e, h, he => by
    by_cases h0 : e = 0
    · subst h0
      rw [show a ^ 0 = (1 : Fin q) by grind, nI_one h1]
      refine Ev.step (f := fun k => some 1) (fun k => ?_) (Ev.now _)
      simp only [juntoref01_Pow.f]
      rw [if_pos (by omega)]
    · cases n with
      | zero => omega
      | succ n =>
        have hd : IntKind.u64.wrap (Int.tdiv (e : Int) 2) = ((e / 2 : Nat) : Int) := by
          rw [Int.tdiv_eq_ediv_of_nonneg (by omega), u64_small (by omega) (by omega)]; omega
        have hm : Int.tmod (e : Int) 2 = ((e % 2 : Nat) : Int) := by
          rw [Int.tmod_eq_emod_of_nonneg (by omega)]; omega
        have ih := rpow_at h1 hq a n (e / 2) (by omega) (by omega)
        by_cases h2 : e % 2 = 1
        · have ee : a ^ e = a ^ (e / 2) * a ^ (e / 2) * a := by
            have h3 : e = e / 2 + e / 2 + 1 := by omega
            have h4 : a ^ e = a ^ (e / 2 + e / 2 + 1) := by rw [← h3]
            rw [h4, pow_plus, pow_plus, show a ^ 1 = a by grind]
          rw [ee]
          refine Ev.step (f := fun k => (juntoref01_Pow.f k (q : Int) (nI a) ((e / 2 : Nat) : Int)).bind fun t => (juntoref01_Mul.f (q : Int) t t).bind fun u => (juntoref01_Mul.f (q : Int) u (nI a)).bind fun v => some v) (fun k => ?_) (Ev.bind ih ?_)
          · simp only [juntoref01_Pow.f]
            rw [if_neg (by omega), hd, hm, h2]
            rfl
          · rw [mul_fp hq, Option.bind_some, mul_fp hq, Option.bind_some]
            exact Ev.now _
        · have ee : a ^ e = a ^ (e / 2) * a ^ (e / 2) := by
            have h3 : e = e / 2 + e / 2 := by omega
            have h4 : a ^ e = a ^ (e / 2 + e / 2) := by rw [← h3]
            rw [h4, pow_plus]
          rw [ee]
          refine Ev.step (f := fun k => (juntoref01_Pow.f k (q : Int) (nI a) ((e / 2 : Nat) : Int)).bind fun t => (juntoref01_Mul.f (q : Int) t t).bind fun u => some u) (fun k => ?_) (Ev.bind ih ?_)
          · simp only [juntoref01_Pow.f]
            rw [if_neg (by omega), hd, hm]
            simp only [show ¬ (((e % 2 : Nat) : Int) = 1) by omega, if_false]
          · rw [mul_fp hq, Option.bind_some]
            exact Ev.now _
theorem rinv_fp (h1 : 2 < q) (hq : q ≤ 65537) (a : Fin q) : Ev (fun k => juntoref01_Inv.f k (q : Int) (nI a)) (nI (Fld.inv a)) := by
  unfold juntoref01_Inv.f
  have e : IntKind.u64.wrap ((q : Int) - 2) = ((q - 2 : Nat) : Int) := by rw [u64_small (by omega) (by omega)]; omega
  rw [e]
  exact Ev.bind (rpow_at (by omega) hq a (q - 2) (q - 2) (Nat.le_refl _) (by omega)) (Ev.now _)

end

/-! parties as numbers -/
/-! tests of rows of coefficients -/
/-- What both tests of a row answer: 0, 2 or 3. -/
def withinV (p : Int) (l : List Int) : Int := if (l.length : Int) > 201 then 3 else belowV p l
theorem ref_rowok (p : Int) (l : List Int) (hl : l.length ≤ maxLen) : Ev (fun k => juntoref02_Within.f k p l) (withinV p l) := by
  unfold juntoref02_Within.f withinV
  by_cases h : (l.length : Int) > 201
  · simp only [h, if_true]; exact Ev.now _
  · simp only [h, if_false]
    exact Ev.bind (ref_within p l hl) (Ev.now _)
def isV (p : Int) : List (List Int) → Int
  | [] => 0
  | f :: fs => if withinV p f = 0 then isV p fs else withinV p f
theorem is_loop (p : Int) (l : List (List Int)) (hn : l.length ≤ 1000000) (hl : ∀ f ∈ l, f.length ≤ maxLen) : ∀ (m i : Nat), i + m = l.length → Ev (fun k => poly_Is.l0 k p l (l.length : Int) (i : Int)) (isV p (l.drop i))
  | 0, i, hi => by
    rw [List.drop_of_length_le (by omega), isV]
    refine Ev.step (f := fun k => some 0) (fun k => ?_) (Ev.now _)
    simp only [poly_Is.l0]
    rw [if_neg (by omega)]
  | m + 1, i, hi => by
    have hlt : i < l.length := by omega
    have hr : rd_L3 l (i : Int) = l[i] := by simp [rd_L3, List.getD_eq_getElem?_getD, hlt]
    rw [List.drop_eq_getElem_cons hlt, isV]
    by_cases h3 : ((l[i]).length : Int) > 201
    · have e : withinV p l[i] = 3 := by unfold withinV; rw [if_pos h3]
      rw [e, if_neg (by decide)]
      refine Ev.step (f := fun k => some 3) (fun k => ?_) (Ev.now _)
      simp only [poly_Is.l0]
      rw [if_pos (by omega), if_pos (by omega), if_pos (by omega), hr, if_pos h3]
    · have e : withinV p l[i] = belowV p l[i] := by unfold withinV; rw [if_neg h3]
      rw [e]
      refine Ev.step (f := fun k => (field_Below.f k p l[i]).bind fun t => if t = 0 then poly_Is.l0 k p l (l.length : Int) ((i + 1 : Nat) : Int) else some t) (fun k => ?_) (Ev.bind (field_below p _ (hl _ (List.getElem_mem hlt))) ?_)
      · conv => lhs; simp only [poly_Is.l0]
        rw [if_pos (by omega), if_pos (by omega), if_pos (by omega), hr, if_neg h3, w64_small (by omega) (by omega)]
        rfl
      · by_cases h0 : belowV p l[i] = 0
        · simp only [h0, if_true]
          exact is_loop p l hn hl m (i + 1) (by omega)
        · simp only [h0, if_false]
          exact Ev.now _
theorem poly_is (p : Int) (l : List (List Int)) (hn : l.length ≤ 1000000) (hl : ∀ f ∈ l, f.length ≤ maxLen) (hp : isP p = true) : Ev (fun k => poly_Is.f k p l) (isV p l) := by
  unfold poly_Is.f
  refine Ev.bind (field_is p) ?_
  simp only [hp, if_true]
  have h := is_loop p l hn hl l.length 0 (by omega)
  rw [List.drop_zero] at h
  exact h

end Go.Proofs.Ytjjnfobeeflnhaa.L

/- Small facts about numbers that came in, setups and rows. -/
namespace Go.Proofs.Ytjjnfobeeflnhaa.L
open Go.RowKit Go.Proofs.YtjjnfobeeflnhaaW.PrintWords Go.Proofs.Ytjjnfobeeflnhaa.J

theorem u64_wf {n : Int} (h : (Lit.int .u64 n).wf = true) : 0 ≤ n ∧ n < 18446744073709551616 := by
  simp [Lit.wf, IntKind.min, IntKind.max, IntKind.signed, IntKind.bits] at h
  omega

theorem belowV_zero {p : Int} {l : List Int} (h : belowV p l = 0) : ∀ x ∈ l, x < p := by
  unfold belowV at h
  split at h
  · assumption
  · cases h

end Go.Proofs.Ytjjnfobeeflnhaa.L

/- Both ways to share a polynomial answer alike, and what they answer. -/
namespace Go.Proofs.Ytjjnfobeeflnhaa.L
open Go.RowKit Go.Proofs.YtjjnfobeeflnhaaW.PrintWords Go.Proofs.Ytjjnfobeeflnhaa.J
set_option linter.unusedVariables false
set_option linter.unusedSimpArgs false

theorem isV_one (p : Int) (l : List Int) : isV p [l] = withinV p l := by
  rw [isV, isV]; split
  · rename_i h; exact h.symm
  · rfl
theorem withinV_zero {p : Int} {l : List Int} (h : withinV p l = 0) : l.length ≤ 201 ∧ ∀ x ∈ l, x < p := by
  unfold withinV at h
  split at h
  · cases h
  · exact ⟨by omega, belowV_zero h⟩
theorem withinV_ne (p : Int) (l : List Int) (h : l.length ≤ 201) : withinV p l = belowV p l := by
  unfold withinV
  rw [if_neg (by omega)]
section
variable {q : Nat}
theorem rows_of {l : List Int} (h : withinV (q : Int) l = 0) (hu : ∀ c ∈ l, 0 ≤ c) : ∃ f : List (Fin q), oI f = l ∧ f.length ≤ 201 := by
  obtain ⟨h1, h2⟩ := withinV_zero h
  obtain ⟨f, hf⟩ := oI_of (q := q) (fun c hc => ⟨hu c hc, h2 c hc⟩)
  exact ⟨f, hf, by rw [← hf, oI_length] at h1; exact h1⟩
end
end Go.Proofs.Ytjjnfobeeflnhaa.L

/- Division with rest of polynomials over the residues modulo a prime: one step, and that there is but one answer. Plain Lean, no program in sight. -/
namespace Go.Proofs.Ytjjnfobeeflnhaa.Fld
set_option linter.unusedVariables false
set_option linter.unusedSimpArgs false

section
variable {p : Nat} [NeZero p]

/-- c times x to the k times g. -/
def shiftc (c : Fin p) (k : Nat) (g : List (Fin p)) : List (Fin p) := List.replicate k 0 ++ smul c g
theorem co_zeros_app (k : Nat) (g : List (Fin p)) (s : Nat) : co (List.replicate k 0 ++ g) s = if k ≤ s then co g (s - k) else 0 := by
  unfold co
  rw [List.getD_eq_getElem?_getD, List.getD_eq_getElem?_getD]
  by_cases h : k ≤ s
  · rw [if_pos h, List.getElem?_append_right (by simpa using h)]; simp
  · rw [if_neg h, List.getElem?_append_left (by simp; omega), List.getElem?_replicate, if_pos (by omega)]; rfl
theorem co_shiftc (c : Fin p) (k : Nat) (g : List (Fin p)) (s : Nat) : co (shiftc c k g) s = if k ≤ s then c * co g (s - k) else 0 := by
  unfold shiftc
  rw [co_zeros_app, co_smul]
theorem co_set' (f : List (Fin p)) (i : Nat) (a : Fin p) (hi : i < f.length) (s : Nat) : co (f.set i a) s = if s = i then a else co f s := by
  unfold co
  rw [List.getD_eq_getElem?_getD, List.getD_eq_getElem?_getD]
  by_cases h : s = i
  · subst h; rw [if_pos rfl, List.getElem?_set_self hi]; rfl
  · rw [if_neg h, List.getElem?_set_ne (by omega)]
theorem mul_set {quo g : List (Fin p)} {k : Nat} {c : Fin p} (hk : k < quo.length) (h0 : co quo k = 0) : Eqv (mul (quo.set k c) g) (add (mul quo g) (shiftc c k g)) := fun s => by
  have e : ∀ i, co (quo.set k c) i = co quo i + (if i = k then c else 0) := fun i => by
    rw [co_set' _ _ _ hk]
    by_cases h : i = k
    · rw [if_pos h, if_pos h, h, h0]; grind
    · rw [if_neg h, if_neg h]; grind
  rw [co_add, co_mul, co_mul, cv_congr e (fun _ => rfl), cv_add', co_shiftc]
  congr 1
  unfold cv
  by_cases h : k ≤ s
  · rw [if_pos h, sm_one (k := k) (by omega)]
    · show (if k = k then c else 0) * _ = _
      rw [if_pos rfl]
    · intro i _ hi
      show (if i = k then c else 0) * _ = _
      rw [if_neg hi]; grind
  · rw [if_neg h]
    refine sm_zero fun i hi => ?_
    show (if i = k then c else 0) * _ = _
    rw [if_neg (by omega)]; grind
theorem div_step {f quo g rest rest' : List (Fin p)} {k : Nat} {c : Fin p} (H : Eqv f (add (mul quo g) rest)) (hk : k < quo.length) (h0 : co quo k = 0) (hr : ∀ s, co rest' s = co rest s - (if k ≤ s then c * co g (s - k) else 0)) : Eqv f (add (mul (quo.set k c) g) rest') := fun s => by
  have h1 := H s
  have h2 := mul_set (g := g) (c := c) hk h0 s
  rw [co_add] at h1 h2
  rw [co_add, h1, h2, hr, co_shiftc]
  grind
theorem div_unique (hp : Pr p) {g Q Q' R R' : List (Fin p)} (hg : trim g ≠ []) (h : Eqv (add (mul Q g) R) (add (mul Q' g) R')) (hR : (trim R).length < (trim g).length) (hR' : (trim R').length < (trim g).length) : Eqv Q Q' ∧ Eqv R R' := by
  have hD : Eqv (mul (sub Q Q') g) (sub R' R) := fun i => by
    have h1 := h i
    rw [co_add, co_add] at h1
    rw [sub_mul Q Q' g i, co_sub, co_sub]
    grind
  by_cases hd : trim (sub Q Q') = []
  · have hQ : Eqv Q Q' := fun i => by
      have : co (sub Q Q') i = 0 := by rw [← trim_co (sub Q Q') i, hd, co_nil]
      rw [co_sub] at this
      grind
    refine ⟨hQ, fun i => ?_⟩
    have h1 := h i
    have h2 := hQ.mul (Eqv.refl g) i
    rw [co_add, co_add, h2] at h1
    grind
  · exfalso
    have h1 := trim_mul_length hp hd hg
    rw [trim_congr hD] at h1
    have h2 := trim_length_of (f := sub R' R) (n := (trim g).length - 1) (fun i hi => by
      rw [co_sub, ← trim_co R' i, ← trim_co R i, co_ge (f := trim R') (by omega), co_ge (f := trim R) (by omega)]; grind)
    have h3 := List.length_pos_iff.2 hd
    have h4 := List.length_pos_iff.2 hg
    omega
end
end Go.Proofs.Ytjjnfobeeflnhaa.Fld

/- Both ways to divide with rest answer alike, and what they answer. -/
namespace Go.Proofs.Ytjjnfobeeflnhaa.L
open Go.RowKit Go.Proofs.YtjjnfobeeflnhaaW.PrintWords Go.Proofs.Ytjjnfobeeflnhaa.J
set_option linter.unusedVariables false
set_option linter.unusedSimpArgs false

theorem pr_of_isP {q : Nat} (h : isP (q : Int) = true) : Fld.Pr q := by
  obtain ⟨h1, h2, h3⟩ := (isP_iff _).1 h
  refine Fld.pr_of_trial (by omega) fun d hd hdd h0 => h3 (d : Int) (by omega) (by exact_mod_cast hdd) (by exact_mod_cast h0)

section
variable {q : Nat} [NeZero q]
/-- What a division with rest answers. -/
def DivOf (f g Q R : List (Fin q)) : Prop := Fld.trim Q = Q ∧ Fld.trim R = R ∧ Fld.Eqv f (Fld.add (Fld.mul Q g) R) ∧ R.length < (Fld.trim g).length ∧ Q.length ≤ f.length
theorem DivOf.unique (hp : Fld.Pr q) {f g Q R Q' R' : List (Fin q)} (hg : Fld.trim g ≠ []) (h : DivOf f g Q R) (h' : DivOf f g Q' R') : Q = Q' ∧ R = R' := by
  obtain ⟨a1, a2, a3, a4, _⟩ := h
  obtain ⟨b1, b2, b3, b4, _⟩ := h'
  obtain ⟨c1, c2⟩ := Fld.div_unique hp hg (a3.symm.trans b3) (by rw [a2]; exact a4) (by rw [b2]; exact b4)
  exact ⟨by rw [← a1, ← b1, Fld.trim_congr c1], by rw [← a2, ← b2, Fld.trim_congr c2]⟩

theorem lead_zero (hp : Fld.Pr q) {G : List (Fin q)} (hG : G ≠ []) (hGt : Fld.trim G = G) (r : Fin q) : r - r * Fld.inv (Fld.co G (G.length - 1)) * Fld.co G (G.length - 1) = 0 := by
  have h := Fld.inv_mul hp (Fld.Tr.last hGt hG)
  generalize Fld.inv (Fld.co G (G.length - 1)) = v at *
  grind

/-! the program's -/
/-- The rest while one multiple is taken away. -/
def stepL (rest G : List (Fin q)) (k : Nat) (c : Fin q) (j : Nat) : List (Fin q) := Fld.mk rest.length (fun s => Fld.co rest s - (if k ≤ s ∧ s < k + j then c * Fld.co G (s - k) else 0))
theorem stepL_length (rest G : List (Fin q)) (k : Nat) (c : Fin q) (j : Nat) : (stepL rest G k c j).length = rest.length := Fld.mk_length _ _
theorem stepL_co (rest G : List (Fin q)) (k : Nat) (c : Fin q) (j s : Nat) (hs : s < rest.length) : Fld.co (stepL rest G k c j) s = Fld.co rest s - (if k ≤ s ∧ s < k + j then c * Fld.co G (s - k) else 0) := by
  unfold stepL
  rw [Fld.co_mk, if_pos hs]
theorem stepL_zero (rest G : List (Fin q)) (k : Nat) (c : Fin q) : stepL rest G k c 0 = rest := by
  apply List.ext_getElem (stepL_length _ _ _ _ _)
  intro i h1 h2
  rw [← Fld.co_lt h1, stepL_co _ _ _ _ _ _ h2, if_neg (by omega), Fld.co_lt h2]; grind
theorem stepL_set (rest G : List (Fin q)) (k : Nat) (c : Fin q) (j : Nat) (h : k + j < rest.length) : (stepL rest G k c j).set (k + j) (Fld.co (stepL rest G k c j) (k + j) - c * Fld.co G j) = stepL rest G k c (j + 1) := by
  apply List.ext_getElem (by rw [List.length_set, stepL_length, stepL_length])
  intro i h1 h2
  have hi : i < rest.length := by rw [stepL_length] at h2; exact h2
  rw [← Fld.co_lt h1, ← Fld.co_lt h2, co_set _ _ _ (by rw [stepL_length]; exact h), stepL_co _ _ _ _ _ _ hi, stepL_co _ _ _ _ _ _ h, stepL_co _ _ _ _ _ _ hi]
  by_cases e : i = k + j
  · subst e
    rw [if_pos rfl, if_neg (by omega), if_pos (by omega), show k + j - k = j by omega]; grind
  · rw [if_neg e]
    by_cases e' : k ≤ i ∧ i < k + j
    · rw [if_pos e', if_pos (by omega)]
    · rw [if_neg e', if_neg (by omega)]
theorem over_inner (hq : q ≤ 65537) (G rest quo : List (Fin q)) (hd c : Fin q) (k : Nat) (hG : G.length ≤ 1000000) (hR : rest.length ≤ 1000000) (hk : k + G.length ≤ rest.length) {r : List Int × List Int}
    (next : Ev (fun n => poly_Over.l0 n (q : Int) (oI G) (oI (stepL rest G k c G.length)) (oI quo) (nI hd) ((k : Int) - 1)) r) (m : Nat) : ∀ j : Nat, j + m = G.length →
    Ev (fun n => poly_Over.l1 n (q : Int) (oI G) (oI (stepL rest G k c j)) (oI quo) (nI hd) (k : Int) (nI c) (oI G) (G.length : Int) (j : Int)) r := by
  induction m with
  | zero =>
    intro j hj
    obtain rfl : j = G.length := by omega
    refine Ev.step (f := fun n => poly_Over.l0 n (q : Int) (oI G) (oI (stepL rest G k c G.length)) (oI quo) (nI hd) ((k : Int) - 1)) (fun n => ?_) next
    have hw : wrap64 ((k : Int) - 1) = (k : Int) - 1 := w64_small (by omega) (by omega)
    conv => lhs; simp only [poly_Over.l1]
    rw [if_neg (by omega), hw]
  | succ m ih =>
    intro j hj
    have hw : wrap64 ((j : Int) + 1) = ((j + 1 : Nat) : Int) := by rw [w64_small (by omega) (by omega)]; omega
    have hw2 : wrap64 ((k : Int) + (j : Int)) = ((k + j : Nat) : Int) := by rw [w64_small (by omega) (by omega)]; omega
    refine Ev.step (f := fun n => poly_Over.l1 n (q : Int) (oI G) (oI (stepL rest G k c (j + 1))) (oI quo) (nI hd) (k : Int) (nI c) (oI G) (G.length : Int) ((j + 1 : Nat) : Int)) (fun n => ?_) (ih (j + 1) (by omega))
    conv => lhs; simp only [poly_Over.l1]
    rw [if_pos (by omega), if_pos (by omega), if_pos (by rw [oI_length]; omega), hw2, if_pos (by omega), if_pos (by rw [oI_length, stepL_length]; omega), rd_oI, rd_oI, times_fp hq, Option.bind_some, minus_fp hq, Option.bind_some, Int.toNat_natCast, oI_set, stepL_set _ _ _ _ _ (by omega), hw]
theorem over_loop (hp : Fld.Pr q) (hq : q ≤ 65537) (F G : List (Fin q)) (hG : G ≠ []) (hGt : Fld.trim G = G) (hGl : G.length ≤ 1000000) (hFl : F.length ≤ 1000000) (hle : G.length ≤ F.length) (K : Nat) : ∀ (quo rest : List (Fin q)), K ≤ quo.length → quo.length + G.length = F.length + 1 → rest.length = F.length → Fld.Eqv F (Fld.add (Fld.mul quo G) rest) →
    (∀ s, K + G.length ≤ s + 1 → Fld.co rest s = 0) → (∀ s, s < K → Fld.co quo s = 0) → ∃ Q R, Ev (fun n => poly_Over.l0 n (q : Int) (oI G) (oI rest) (oI quo) (nI (Fld.inv (Fld.co G (G.length - 1)))) ((K : Int) - 1)) (oI Q, oI R) ∧ DivOf F G Q R := by
  have hg := List.length_pos_iff.2 hG
  induction K with
  | zero =>
    intro quo rest hK hqu hrl hE hz hq0
    refine ⟨Fld.trim quo, Fld.trim rest, ?_, Fld.trim_trim _, Fld.trim_trim _, fun i => ?_, ?_, ?_⟩
    · refine Ev.step (f := fun n => (poly_Short.f n (oI quo)).bind fun t954 => ((poly_Short.f n (oI rest)).bind fun t957 => (some (t954, t957)))) (fun n => ?_) (Ev.bind (short_fp _ (by omega)) (Ev.bind (short_fp _ (by omega)) (Ev.now _)))
      simp only [poly_Over.l0]
      rw [if_neg (by omega)]
    · rw [hE i]
      exact (((Fld.trim_co quo).mul (Fld.Eqv.refl G)).add (Fld.trim_co rest)).symm i
    · rw [hGt]
      have := Fld.trim_length_of (f := rest) (n := G.length - 1) (fun i hi => hz i (by omega))
      omega
    · have := Fld.trim_length_le quo
      omega
  | succ k ih =>
    intro quo rest hK hqu hrl hE hz hq0
    obtain ⟨c, hc⟩ : ∃ c, Aside0 (c = Fld.co rest (k + G.length - 1) * Fld.inv (Fld.co G (G.length - 1))) := ⟨_, ⟨rfl⟩⟩
    have hw1 : wrap64 ((k : Int) + (G.length : Int)) = ((k + G.length : Nat) : Int) := by rw [w64_small (by omega) (by omega)]; omega
    have hw2 : wrap64 (((k + G.length : Nat) : Int) - 1) = ((k + G.length - 1 : Nat) : Int) := by rw [w64_small (by omega) (by omega)]; omega
    have hk1 : ((k + 1 : Nat) : Int) - 1 = (k : Int) := by omega
    have hco : ∀ s, Fld.co (stepL rest G k c G.length) s = Fld.co rest s - (if k ≤ s then c * Fld.co G (s - k) else 0) := fun s => by
      by_cases hs : s < rest.length
      · rw [stepL_co _ _ _ _ _ _ hs]
        by_cases h1 : k ≤ s
        · by_cases h2 : s < k + G.length
          · rw [if_pos ⟨h1, h2⟩, if_pos h1]
          · rw [if_neg (by omega), if_pos h1, Fld.co_ge (f := G) (by omega)]; grind
        · rw [if_neg (by omega), if_neg h1]
      · rw [Fld.co_ge (by rw [stepL_length]; omega), Fld.co_ge (f := rest) (by omega)]
        by_cases h1 : k ≤ s
        · rw [if_pos h1, Fld.co_ge (f := G) (by omega)]; grind
        · omega
    obtain ⟨Q, R, hev, hdiv⟩ := ih (quo.set k c) (stepL rest G k c G.length) (by rw [List.length_set]; omega) (by rw [List.length_set]; exact hqu) (by rw [stepL_length]; exact hrl)
      (Fld.div_step hE (by omega) (hq0 k (by omega)) hco)
      (fun s hs => by
        rw [hco, if_pos (by omega)]
        by_cases e : s = k + G.length - 1
        · rw [e, hc.out, show k + G.length - 1 - k = G.length - 1 by omega]
          exact lead_zero hp hG hGt _
        · rw [hz s (by omega), Fld.co_ge (f := G) (by omega)]; grind)
      (fun s hs => by rw [co_set _ _ _ (by omega), if_neg (by omega)]; exact hq0 s (by omega))
    refine ⟨Q, R, ?_, hdiv⟩
    have hl := over_inner hq G rest (quo.set k c) (Fld.inv (Fld.co G (G.length - 1))) c k hGl (by omega) (by omega) hev G.length 0 (by omega)
    rw [stepL_zero] at hl
    refine Ev.step (f := fun n => poly_Over.l1 n (q : Int) (oI G) (oI rest) (oI (quo.set k c)) (nI (Fld.inv (Fld.co G (G.length - 1)))) (k : Int) (nI c) (oI G) (G.length : Int) ((0 : Nat) : Int)) (fun n => ?_) hl
    conv => lhs; simp only [poly_Over.l0]
    rw [hk1, oI_length, hw1, hw2, if_pos (by omega), if_pos (by omega), if_pos (by rw [oI_length]; omega), rd_oI, times_fp hq, Option.bind_some, if_pos (by omega), if_pos (by rw [oI_length]; omega), ← hc.out, Int.toNat_natCast, oI_set]
    rfl
theorem over_rows (hp : Fld.Pr q) (h1 : 2 < q) (hq : q ≤ 65537) (f g : List (Fin q)) (hg : Fld.trim g ≠ []) (hf : f.length ≤ 1000000) (hgl : g.length ≤ 1000000) : ∃ Q R, Ev (fun n => poly_Over.f n (q : Int) (oI f) (oI g)) (oI Q, oI R) ∧ DivOf f g Q R := by
  have hlf := Fld.trim_length_le f
  have hlg := Fld.trim_length_le g
  have hg0 := List.length_pos_iff.2 hg
  have back : ∀ Q R : List (Fin q), DivOf (Fld.trim f) (Fld.trim g) Q R → DivOf f g Q R := fun Q R h =>
    ⟨h.1, h.2.1, (Fld.trim_co f).symm.trans (h.2.2.1.trans (((Fld.Eqv.refl Q).mul (Fld.trim_co g)).add (Fld.Eqv.refl R))), by have := h.2.2.2.1; rwa [Fld.trim_trim] at this, by have := h.2.2.2.2; omega⟩
  by_cases hlt : (Fld.trim f).length < (Fld.trim g).length
  · refine ⟨[], Fld.trim f, ?_, back _ _ ⟨rfl, Fld.trim_trim _, fun i => ?_, by rw [Fld.trim_trim]; exact hlt, by simp⟩⟩
    · unfold poly_Over.f
      refine Ev.bind (short_fp f (by omega)) (Ev.bind (short_fp g (by omega)) ?_)
      exact Ev.congr (fun n => if_pos (by rw [oI_length, oI_length]; omega)) (Ev.now _)
    · rw [Fld.co_add, mul_nil_left, Fld.co_nil]; grind
  · have hz : Fld.Eqv (Fld.mul (List.replicate ((Fld.trim f).length - (Fld.trim g).length + 1) 0) (Fld.trim g)) [] := fun i => by
      rw [Fld.co_mul, Fld.co_nil]
      exact Fld.sm_zero fun j _ => by rw [co_zeros]; grind
    obtain ⟨Q, R, hev, hdiv⟩ := over_loop hp hq (Fld.trim f) (Fld.trim g) hg (Fld.trim_trim _) (by omega) (by omega) (by omega) ((Fld.trim f).length - (Fld.trim g).length + 1) (List.replicate ((Fld.trim f).length - (Fld.trim g).length + 1) 0) (Fld.trim f)
      (by simp) (by simp; omega) rfl (fun i => by rw [Fld.co_add, hz i, Fld.co_nil]; grind) (fun s hs => Fld.co_ge (by omega)) (fun s _ => co_zeros _ _)
    refine ⟨Q, R, ?_, back _ _ hdiv⟩
    have hw1 : wrap64 (((Fld.trim f).length : Int) - ((Fld.trim g).length : Int)) = (((Fld.trim f).length - (Fld.trim g).length : Nat) : Int) := by rw [w64_small (by omega) (by omega)]; omega
    have hw2 : wrap64 ((((Fld.trim f).length - (Fld.trim g).length : Nat) : Int) + 1) = (((Fld.trim f).length - (Fld.trim g).length + 1 : Nat) : Int) := by rw [w64_small (by omega) (by omega)]; omega
    have hw3 : wrap64 (((Fld.trim g).length : Int) - 1) = (((Fld.trim g).length - 1 : Nat) : Int) := by rw [w64_small (by omega) (by omega)]; omega
    have hw4 : wrap64 ((((Fld.trim f).length - (Fld.trim g).length + 1 : Nat) : Int) - 1) = (((Fld.trim f).length - (Fld.trim g).length + 1 : Nat) : Int) - 1 := w64_small (by omega) (by omega)
    unfold poly_Over.f
    refine Ev.bind (short_fp f (by omega)) (Ev.bind (short_fp g (by omega)) ?_)
    refine Ev.congr (fun n => ?_) (Ev.bind (f := fun n t => poly_Over.l0 n (q : Int) (oI (Fld.trim g)) (oI (Fld.trim f)) (oI (List.replicate ((Fld.trim f).length - (Fld.trim g).length + 1) 0)) t ((((Fld.trim f).length - (Fld.trim g).length + 1 : Nat) : Int) - 1)) (over_fp h1 hq (Fld.co (Fld.trim g) ((Fld.trim g).length - 1))) hev)
    rw [oI_length, oI_length, if_neg (by omega), hw1, hw2, if_pos (by omega), Int.toNat_natCast, if_pos (by omega), Option.bind_some, hw3, if_pos (by omega), if_pos (by omega), rd_oI, List.length_replicate, hw4, oI_zeros (q := q)]

/-! the reference's -/
theorem divide_loop (hp : Fld.Pr q) (h1 : 2 < q) (hq : q ≤ 65537) (F G : List (Fin q)) (hG : G ≠ []) (hGt : Fld.trim G = G) (hGl : G.length ≤ 1000000) (hFl : F.length ≤ 1000000) (m : Nat) : ∀ (quo f : List (Fin q)), f.length ≤ m → f.length ≤ F.length → quo.length = F.length → Fld.trim f = f → Fld.Eqv F (Fld.add (Fld.mul quo G) f) →
    (∀ s, s + G.length ≤ f.length → Fld.co quo s = 0) → ∃ Q R, Ev (fun n => juntoref02_Divide.l0 n (q : Int) (oI f) (oI G) (oI quo) (nI (Fld.inv (Fld.co G (G.length - 1))))) (oI Q, oI R) ∧ DivOf F G Q R := by
  have hg := List.length_pos_iff.2 hG
  have stop : ∀ (quo f : List (Fin q)), f.length < G.length → f.length ≤ F.length → quo.length = F.length → Fld.trim f = f → Fld.Eqv F (Fld.add (Fld.mul quo G) f) → ∃ Q R, Ev (fun n => juntoref02_Divide.l0 n (q : Int) (oI f) (oI G) (oI quo) (nI (Fld.inv (Fld.co G (G.length - 1))))) (oI Q, oI R) ∧ DivOf F G Q R := by
    intro quo f hlt hfF hql hft hE
    refine ⟨Fld.trim quo, f, ?_, Fld.trim_trim _, hft, fun i => ?_, by rw [hGt]; exact hlt, ?_⟩
    · refine Ev.step (f := fun n => (juntoref02_Trim.f n (oI quo)).bind fun t1012 => (some (t1012, oI f))) (fun n => ?_) (Ev.bind (trim_fp _ (by omega)) (Ev.now _))
      simp only [juntoref02_Divide.l0]
      rw [if_neg (by rw [oI_length, oI_length]; omega)]
    · rw [hE i]
      exact (((Fld.trim_co quo).mul (Fld.Eqv.refl G)).add (Fld.Eqv.refl f)).symm i
    · have := Fld.trim_length_le quo
      omega
  induction m with
  | zero =>
    intro quo f hm hfF hql hft hE hz
    exact stop quo f (by omega) hfF hql hft hE
  | succ m ih =>
    intro quo f hm hfF hql hft hE hz
    by_cases hlt : f.length < G.length
    · exact stop quo f hlt hfF hql hft hE
    obtain ⟨k, hk⟩ : ∃ k, k = f.length - G.length := ⟨_, rfl⟩
    obtain ⟨c, hc⟩ : ∃ c, Aside0 (c = Fld.co f (f.length - 1) * Fld.inv (Fld.co G (G.length - 1))) := ⟨_, ⟨rfl⟩⟩
    obtain ⟨f', hf'⟩ : ∃ f', Aside0 (f' = Fld.trim (Fld.sub f (List.replicate k 0 ++ Fld.trim (Fld.smul c G)))) := ⟨_, ⟨rfl⟩⟩
    have hw1 : wrap64 ((f.length : Int) - 1) = ((f.length - 1 : Nat) : Int) := by rw [w64_small (by omega) (by omega)]; omega
    have hw2 : wrap64 ((f.length : Int) - (G.length : Int)) = (k : Int) := by rw [w64_small (by omega) (by omega)]; omega
    have hco : ∀ s, Fld.co f' s = Fld.co f s - (if k ≤ s then c * Fld.co G (s - k) else 0) := fun s => by
      rw [hf'.out, Fld.trim_co _ s, Fld.co_sub, Fld.co_zeros_app, Fld.trim_co _ (s - k), Fld.co_smul]
    have hl' : f'.length ≤ f.length - 1 := by
      have e : Fld.trim f' = f' := by rw [hf'.out, Fld.trim_trim]
      rw [← e]
      refine Fld.trim_length_of fun s hs => ?_
      rw [hco, if_pos (by omega)]
      by_cases es : s = f.length - 1
      · rw [es, hc.out, show f.length - 1 - k = G.length - 1 by omega]
        exact lead_zero hp hG hGt _
      · rw [Fld.co_ge (f := f) (by omega), Fld.co_ge (f := G) (by omega)]; grind
    obtain ⟨Q, R, hev, hdiv⟩ := ih (quo.set k c) f' (by omega) (by omega) (by rw [List.length_set]; exact hql) (by rw [hf'.out, Fld.trim_trim])
      (Fld.div_step hE (by omega) (hz k (by omega)) hco)
      (fun s hs => by rw [co_set _ _ _ (by omega), if_neg (by omega)]; exact hz s (by omega))
    refine ⟨Q, R, ?_, hdiv⟩
    have hls := Fld.trim_length_le (Fld.smul c G)
    rw [Fld.smul_length] at hls
    have happ : List.replicate k (0 : Int) ++ oI (Fld.trim (Fld.smul c G)) = oI (List.replicate k 0 ++ Fld.trim (Fld.smul c G)) := by rw [oI_append, ← oI_zeros]
    rw [hf'.out] at hev
    refine Ev.step (f := fun n => (juntoref02_Scale.f n (q : Int) (oI G) (nI c)).bind fun t1003 => (if (List.replicate k (0 : Int)).length + t1003.length < 17592186044416 then ((juntoref02_Sub.f n (q : Int) (oI f) (List.replicate k (0 : Int) ++ t1003)).bind fun t1009 => (juntoref02_Divide.l0 n (q : Int) t1009 (oI G) (oI (quo.set k c)) (nI (Fld.inv (Fld.co G (G.length - 1)))))) else (none))) (fun n => ?_) (Ev.bind (scale_rows hq G c (by omega)) ?_)
    · conv => lhs; simp only [juntoref02_Divide.l0]
      rw [oI_length, oI_length, if_pos (by omega), hw1, if_pos (by omega), if_pos (by omega), rd_oI, mul_fp hq, Option.bind_some, hw2, if_pos (by omega), if_pos (by rw [oI_length]; omega), Int.toNat_natCast, if_pos (by omega), Option.bind_some, ← hc.out, oI_set]
    · refine Ev.congr (fun n => if_pos (by rw [List.length_replicate, oI_length]; omega)) ?_
      rw [happ]
      exact Ev.bind (sub_rows (by omega) hq f _ (by omega) (by rw [List.length_append, List.length_replicate]; omega)) hev
theorem divide_rows (hp : Fld.Pr q) (h1 : 2 < q) (hq : q ≤ 65537) (f g : List (Fin q)) (hg : Fld.trim g ≠ []) (hf : f.length ≤ 1000000) (hgl : g.length ≤ 1000000) : ∃ Q R, Ev (fun n => juntoref02_Divide.f n (q : Int) (oI f) (oI g)) (oI Q, oI R) ∧ DivOf f g Q R := by
  have hlf := Fld.trim_length_le f
  have hlg := Fld.trim_length_le g
  have hg0 := List.length_pos_iff.2 hg
  have hz : Fld.Eqv (Fld.mul (List.replicate (Fld.trim f).length 0) (Fld.trim g)) [] := fun i => by
    rw [Fld.co_mul, Fld.co_nil]
    exact Fld.sm_zero fun j _ => by rw [co_zeros]; grind
  obtain ⟨Q, R, hev, h⟩ := divide_loop hp h1 hq (Fld.trim f) (Fld.trim g) hg (Fld.trim_trim _) (by omega) (by omega) (Fld.trim f).length (List.replicate (Fld.trim f).length 0) (Fld.trim f) (Nat.le_refl _) (Nat.le_refl _) (by simp) (Fld.trim_trim _)
    (fun i => by rw [Fld.co_add, hz i, Fld.co_nil]; grind) (fun s _ => co_zeros _ _)
  refine ⟨Q, R, ?_, h.1, h.2.1, (Fld.trim_co f).symm.trans (h.2.2.1.trans (((Fld.Eqv.refl Q).mul (Fld.trim_co g)).add (Fld.Eqv.refl R))), by have := h.2.2.2.1; rwa [Fld.trim_trim] at this, by have := h.2.2.2.2; omega⟩
  have hw3 : wrap64 (((Fld.trim g).length : Int) - 1) = (((Fld.trim g).length - 1 : Nat) : Int) := by rw [w64_small (by omega) (by omega)]; omega
  unfold juntoref02_Divide.f
  refine Ev.bind (trim_fp f (by omega)) (Ev.bind (trim_fp g (by omega)) ?_)
  refine Ev.congr (fun n => ?_) (Ev.bind (f := fun n t => juntoref02_Divide.l0 n (q : Int) (oI (Fld.trim f)) (oI (Fld.trim g)) (oI (List.replicate (Fld.trim f).length 0)) t) (rinv_fp h1 hq (Fld.co (Fld.trim g) ((Fld.trim g).length - 1))) hev)
  rw [oI_length, oI_length, if_pos (by omega), Int.toNat_natCast, if_pos (by omega), hw3, if_pos (by omega), if_pos (by omega), rd_oI, oI_zeros (q := q)]
end

end Go.Proofs.Ytjjnfobeeflnhaa.L

/- Both tests of a prime and rows of coefficients answer alike, and what they answer; the chapter's example holds. -/
namespace Go.Proofs.Ytjjnfobeeflnhaa.L
open Go.RowKit Go.Proofs.YtjjnfobeeflnhaaW.PrintWords Go.Proofs.Ytjjnfobeeflnhaa.J
set_option linter.unusedVariables false
set_option linter.unusedSimpArgs false

theorem alive02 : Ev (fun k => juntolaw02_alive.f k) true := Ev.of juntolaw02_alive.mono (k := 60) (by decide +kernel)

/-- What both tests answer: 0, 2 or 3. -/
def okV (p : Int) (l : List (List Int)) : Int := if isP p = true then isV p l else 2
theorem poly_ok (p : Int) (l : List (List Int)) (hn : l.length ≤ 1000000) (hl : ∀ f ∈ l, f.length ≤ maxLen) : Ev (fun k => poly_Is.f k p l) (okV p l) := by
  unfold okV
  by_cases hp : isP p = true
  · rw [if_pos hp]
    exact poly_is p l hn hl hp
  · rw [if_neg hp]
    unfold poly_Is.f
    refine Ev.bind (field_is p) ?_
    simp only [hp, if_false]
    exact Ev.now _
theorem right_loop (p : Int) (l : List (List Int)) (hn : l.length ≤ 1000000) (hl : ∀ f ∈ l, f.length ≤ maxLen) (m : Nat) : ∀ i : Nat, i + m = l.length → Ev (fun k => juntoref02_Right.l0 k p l (l.length : Int) (i : Int)) (isV p (l.drop i)) := by
  induction m with
  | zero =>
    intro i hi
    rw [List.drop_of_length_le (by omega), isV]
    refine Ev.step (f := fun k => some 0) (fun k => ?_) (Ev.now _)
    simp only [juntoref02_Right.l0]
    rw [if_neg (by omega)]
  | succ m ih =>
    intro i hi
    have hlt : i < l.length := by omega
    have hr : rd_L3 l (i : Int) = l[i] := by simp [rd_L3, List.getD_eq_getElem?_getD, hlt]
    have hw : wrap64 ((i : Int) + 1) = ((i + 1 : Nat) : Int) := by rw [w64_small (by omega) (by omega)]; omega
    rw [List.drop_eq_getElem_cons hlt, isV]
    refine Ev.step (f := fun k => (juntoref02_Within.f k p l[i]).bind fun t => if t = 0 then juntoref02_Right.l0 k p l (l.length : Int) ((i + 1 : Nat) : Int) else some t) (fun k => ?_) (Ev.bind (ref_rowok p _ (hl _ (List.getElem_mem hlt))) ?_)
    · conv => lhs; simp only [juntoref02_Right.l0]
      rw [if_pos (by omega), if_pos (by omega), if_pos (by omega), hr, hw]
    · by_cases h0 : withinV p l[i] = 0
      · simp only [h0, if_true]
        exact ih (i + 1) (by omega)
      · simp only [h0, if_false]
        exact Ev.now _
theorem ref_right (p : Int) (l : List (List Int)) (hn : l.length ≤ 1000000) (hl : ∀ f ∈ l, f.length ≤ maxLen) : Ev (fun k => juntoref02_Right.f k p l) (okV p l) := by
  unfold juntoref02_Right.f okV
  refine Ev.bind (ref_is p) ?_
  by_cases hp : isP p = true
  · simp only [hp, if_true]
    have h := right_loop p l hn hl l.length 0 (by omega)
    rw [List.drop_zero] at h
    exact h
  · simp only [hp, if_false]
    exact Ev.now _
theorem okV_one {p : Int} {f : List Int} (h : okV p [f] = 0) : isP p = true ∧ withinV p f = 0 := by
  unfold okV at h
  split at h
  · rw [isV_one] at h
    exact ⟨by assumption, h⟩
  · cases h
/-- A prime and a row of its residues. -/
theorem row_of {p : Int} {f : List Int} (h : okV p [f] = 0) (hu : ∀ c ∈ f, 0 ≤ c) : ∃ (q : Nat) (_ : NeZero q) (g : List (Fin q)), p = (q : Int) ∧ f = oI g ∧ 2 < q ∧ q ≤ 65537 ∧ Fld.Pr q ∧ g.length ≤ 201 := by
  obtain ⟨hp, hw⟩ := okV_one h
  have h2 := (isP_iff p).1 hp
  obtain ⟨q, rfl⟩ : ∃ q : Nat, p = (q : Int) := ⟨p.toNat, by omega⟩
  have hz : NeZero q := ⟨by omega⟩
  obtain ⟨g, hg, hl⟩ := rows_of hw hu
  exact ⟨q, hz, g, rfl, hg.symm, by omega, by omega, pr_of_isP hp, hl⟩

end Go.Proofs.Ytjjnfobeeflnhaa.L

/- What works on two rows of coefficients tells: tests, products, divisions, greatest common divisors. -/
namespace Go.Proofs.Ytjjnfobeeflnhaa.L
open Go.RowKit Go.Proofs.YtjjnfobeeflnhaaW.PrintWords Go.Proofs.Ytjjnfobeeflnhaa.J
set_option linter.unusedVariables false
set_option linter.unusedSimpArgs false

theorem pair_len (f g : List Int) (hf : f.length ≤ maxLen) (hg : g.length ≤ maxLen) : ∀ x ∈ [f, g], x.length ≤ maxLen := fun x hx => by
  rcases List.mem_cons.1 hx with rfl | hx
  · exact hf
  · rw [List.mem_singleton.1 hx]; exact hg
theorem okV_pair {p : Int} {f g : List Int} (h : okV p [f, g] = 0) : okV p [f] = 0 ∧ withinV p g = 0 := by
  unfold okV at h ⊢
  split at h
  · rename_i hp
    rw [isV, isV_one] at h
    split at h
    · rename_i hf
      rw [if_pos hp, isV_one]
      exact ⟨hf, h⟩
    · contradiction
  · cases h
theorem okV_of {p : Int} {f g : List Int} (h : okV p [f] = 0) (hg : withinV p g = 0) : okV p [f, g] = 0 := by
  obtain ⟨hp, hf⟩ := okV_one h
  unfold okV
  rw [if_pos hp, isV, if_pos hf, isV_one, hg]
theorem two_ok (d : Nat → Int → List Int → List Int → Option (List Int)) (p : Int) (f g r : List Int) (hf : f.length ≤ maxLen) (hg : g.length ≤ maxLen) (h : okV p [f, g] = 0) (hd : Ev (fun k => d k p f g) r) : Ev (fun k => poly_two.f k d p f g) (r, 0) := by
  unfold poly_two.f
  refine Ev.bind (poly_ok _ _ (by simp) (pair_len f g hf hg)) ?_
  simp only [h, if_true]
  exact Ev.bind hd (Ev.now _)
section
variable {q : Nat}
theorem within_oI (f : List (Fin q)) (h : f.length ≤ 201) : withinV (q : Int) (oI f) = 0 := by
  rw [withinV_ne _ _ (by rw [oI_length]; exact h)]
  unfold belowV
  rw [if_pos (fun x hx => (oI_range f x hx).2)]
theorem oI_max (f : List (Fin q)) (h : f.length ≤ 1000) : (oI f).length ≤ maxLen := by rw [oI_length]; simp only [maxLen]; omega
end
section
variable {q : Nat} [NeZero q]
theorem divide_ok (f g Q R : List (Fin q)) (hf : f.length ≤ 201) (hg : g.length ≤ 201) (h : okV (q : Int) [oI f, oI g] = 0) (hz : Fld.trim g ≠ []) (ho : Ev (fun k => poly_Over.f k (q : Int) (oI f) (oI g)) (oI Q, oI R)) : Ev (fun k => poly_Divide.f k (q : Int) (oI f) (oI g)) (oI Q, oI R, 0) := by
  have hl := List.length_pos_iff.2 hz
  unfold poly_Divide.f
  refine Ev.bind (poly_ok _ _ (by simp) (pair_len _ _ (oI_max f (by omega)) (oI_max g (by omega)))) ?_
  simp only [h, if_true]
  refine Ev.bind (short_fp g (by omega)) ?_
  exact Ev.congr (fun k => if_neg (by rw [oI_length]; omega)) (Ev.bind ho (Ev.now _))

/-! the greatest common divisor -/
/-- d divides f. -/
def Dvd (d f : List (Fin q)) : Prop := ∃ c, Fld.Eqv f (Fld.mul c d)
theorem Dvd.nil (d : List (Fin q)) : Dvd d [] := ⟨[], Fld.Eqv.refl _⟩
theorem Dvd.eqv {d f g : List (Fin q)} (h : Dvd d f) (e : Fld.Eqv g f) : Dvd d g := by
  obtain ⟨c, hc⟩ := h
  exact ⟨c, e.trans hc⟩
theorem Dvd.comb {d g R Q f : List (Fin q)} (hg : Dvd d g) (hR : Dvd d R) (e : Fld.Eqv f (Fld.add (Fld.mul Q g) R)) : Dvd d f := by
  obtain ⟨a, ha⟩ := hg
  obtain ⟨b, hb⟩ := hR
  refine ⟨Fld.add (Fld.mul Q a) b, e.trans ?_⟩
  refine Fld.Eqv.trans ?_ (Fld.add_mul _ _ _).symm
  exact (((Fld.Eqv.refl Q).mul ha).trans (Fld.mul_assoc Q a d).symm).add hb
/-- What both loops tell. -/
def GcdOf (f g D : List (Fin q)) : Prop := Fld.trim D = D ∧ D.length ≤ 201 ∧ Dvd D f ∧ Dvd D g ∧ (D = [] → f = [] ∧ g = [])
theorem gcd_loops (hp : Fld.Pr q) (h1 : 2 < q) (hq : q ≤ 65537) (n : Nat) : ∀ f g : List (Fin q), g.length ≤ n → f.length ≤ 201 → g.length ≤ 201 → Fld.trim f = f → Fld.trim g = g →
    ∃ D, Ev (fun k => poly_Gcd_1.l0 k (q : Int) (oI f) (oI g)) (oI D) ∧ Ev (fun k => juntoref02_Gcd.l0 k (q : Int) (oI f) (oI g)) (oI D) ∧ GcdOf f g D := by
  have base : ∀ f : List (Fin q), f.length ≤ 201 → Fld.trim f = f → ∃ D, Ev (fun k => poly_Gcd_1.l0 k (q : Int) (oI f) (oI ([] : List (Fin q)))) (oI D) ∧ Ev (fun k => juntoref02_Gcd.l0 k (q : Int) (oI f) (oI ([] : List (Fin q)))) (oI D) ∧ GcdOf f [] D := by
    intro f hf hft
    by_cases h0 : f = []
    · subst h0
      refine ⟨[], Ev.step (f := fun k => some []) (fun k => ?_) (Ev.now _), Ev.step (f := fun k => some []) (fun k => ?_) (Ev.now _), rfl, by simp, Dvd.nil _, Dvd.nil _, fun _ => ⟨rfl, rfl⟩⟩
      · simp only [poly_Gcd_1.l0]
        rw [if_neg (by simp [oI_nil]), if_pos (by rfl)]
      · simp only [juntoref02_Gcd.l0]
        rw [if_neg (by simp [oI_nil]), if_pos (by rfl)]
        rfl
    · have hfl := List.length_pos_iff.2 h0
      have hw : wrap64 ((f.length : Int) - 1) = ((f.length - 1 : Nat) : Int) := by rw [w64_small (by omega) (by omega)]; omega
      have hl := Fld.trim_length_le (Fld.smul (Fld.inv (Fld.co f (f.length - 1))) f)
      rw [Fld.smul_length] at hl
      refine ⟨Fld.trim (Fld.smul (Fld.inv (Fld.co f (f.length - 1))) f), ?_, ?_, Fld.trim_trim _, by omega, ?_, Dvd.nil _, fun h => ?_⟩
      · refine Ev.step (f := fun k => (field_Over.f k (q : Int) (nI (Fld.co f (f.length - 1)))).bind fun t1542 => ((poly_By.f k (q : Int) (oI f) t1542).bind fun t1543 => (some t1543))) (fun k => ?_) (Ev.bind (over_fp h1 hq _) (Ev.bind (by_rows hq f _ (by omega)) (Ev.now _)))
        simp only [poly_Gcd_1.l0]
        rw [if_neg (by simp [oI_nil]), oI_length, hw, if_neg (by omega), if_pos (by omega), if_pos (by omega), rd_oI]
      · refine Ev.step (f := fun k => (juntoref01_Inv.f k (q : Int) (nI (Fld.co f (f.length - 1)))).bind fun t1559 => ((juntoref02_Scale.f k (q : Int) (oI f) t1559).bind fun t1560 => (some t1560))) (fun k => ?_) (Ev.bind (rinv_fp h1 hq _) (Ev.bind (scale_rows hq f _ (by omega)) (Ev.now _)))
        simp only [juntoref02_Gcd.l0]
        rw [if_neg (by simp [oI_nil]), oI_length, hw, if_neg (by omega), if_pos (by omega), if_pos (by omega), rd_oI]
      · refine ⟨[Fld.co f (f.length - 1)], fun i => ?_⟩
        have ht := Fld.mul_inv hp (Fld.Tr.last hft h0)
        have e1 := (Fld.Eqv.refl [Fld.co f (f.length - 1)]).mul (Fld.trim_co (Fld.smul (Fld.inv (Fld.co f (f.length - 1))) f)) i
        rw [e1, Fld.mul, Fld.mul, Fld.co_add, Fld.co_smul, Fld.co_smul]
        have e2 : Fld.co (0 :: ([] : List (Fin q))) i = 0 := by cases i with
          | zero => rfl
          | succ i => rw [Fld.co_cons_succ, Fld.co_nil]
        rw [e2]
        generalize Fld.inv (Fld.co f (f.length - 1)) = v at *
        grind
      · exfalso
        have e : ∀ i, Fld.co (Fld.smul (Fld.inv (Fld.co f (f.length - 1))) f) i = 0 := fun i => by rw [← Fld.trim_co _ i, h, Fld.co_nil]
        have e1 := e (f.length - 1)
        rw [Fld.co_smul, Fld.inv_mul hp (Fld.Tr.last hft h0)] at e1
        exact Fld.one_ne_zero hp e1
  induction n with
  | zero =>
    intro f g hn hf hg hft hgt
    obtain rfl : g = [] := List.eq_nil_of_length_eq_zero (by omega)
    exact base f hf hft
  | succ n ih =>
    intro f g hn hf hg hft hgt
    by_cases h0 : g = []
    · subst h0
      exact base f hf hft
    · have hgl := List.length_pos_iff.2 h0
      have hz : Fld.trim g ≠ [] := by rw [hgt]; exact h0
      obtain ⟨Q, R, hev, hdiv⟩ := over_rows hp h1 hq f g hz (by omega) (by omega)
      obtain ⟨Q', R', hev', hdiv'⟩ := divide_rows hp h1 hq f g hz (by omega) (by omega)
      obtain ⟨e1, e2⟩ := hdiv.unique hp hz hdiv'
      subst e1 e2
      obtain ⟨_, hRt, hE, hRl, _⟩ := hdiv
      rw [hgt] at hRl
      obtain ⟨D, d1, d2, hD1, hD2, hDg, hDR, hD0⟩ := ih g R (by omega) hg (by omega) hgt hRt
      refine ⟨D, Ev.step (f := fun k => (poly_Over.f k (q : Int) (oI f) (oI g)).bind fun bt1535 => (poly_Gcd_1.l0 k (q : Int) (oI g) bt1535.2)) (fun k => ?_) (Ev.bind hev d1), Ev.step (f := fun k => (juntoref02_Divide.f k (q : Int) (oI f) (oI g)).bind fun bt1552 => (juntoref02_Gcd.l0 k (q : Int) (oI g) bt1552.2)) (fun k => ?_) (Ev.bind hev' d2), hD1, hD2, hDg.comb hDR hE, hDg, fun h => absurd (hD0 h).1 h0⟩
      · simp only [poly_Gcd_1.l0]
        rw [if_pos (by rw [oI_length]; omega)]
      · simp only [juntoref02_Gcd.l0]
        rw [if_pos (by rw [oI_length]; omega)]
theorem gcd_rows (hp : Fld.Pr q) (h1 : 2 < q) (hq : q ≤ 65537) (f g : List (Fin q)) (hf : f.length ≤ 201) (hg : g.length ≤ 201) (h : okV (q : Int) [oI f, oI g] = 0) :
    ∃ D, Ev (fun k => poly_Gcd.f k (q : Int) (oI f) (oI g)) (oI D, 0) ∧ Ev (fun k => juntoref02_Gcd.f k (q : Int) (oI f) (oI g)) (oI D) ∧ GcdOf (Fld.trim f) (Fld.trim g) D := by
  have l1 := Fld.trim_length_le f
  have l2 := Fld.trim_length_le g
  obtain ⟨D, d1, d2, hD⟩ := gcd_loops hp h1 hq (Fld.trim g).length (Fld.trim f) (Fld.trim g) (Nat.le_refl _) (by omega) (by omega) (Fld.trim_trim _) (Fld.trim_trim _)
  refine ⟨D, ?_, ?_, hD⟩
  · have one : Ev (fun k => poly_Gcd_1.f k (q : Int) (oI f) (oI g)) (oI D) := by
      unfold poly_Gcd_1.f
      exact Ev.bind (short_fp f (by omega)) (Ev.bind (short_fp g (by omega)) d1)
    unfold poly_Gcd.f
    exact Ev.bind (two_ok _ _ _ _ _ (oI_max f (by omega)) (oI_max g (by omega)) h one) (Ev.now _)
  · unfold juntoref02_Gcd.f
    exact Ev.bind (trim_fp f (by omega)) (Ev.bind (trim_fp g (by omega)) d2)
end
/-- A prime and two rows of its residues. -/
theorem rows_two {p : Int} {f g : List Int} (h : okV p [f, g] = 0) (hu : ∀ c ∈ f, 0 ≤ c) (hv : ∀ c ∈ g, 0 ≤ c) : ∃ (q : Nat) (_ : NeZero q) (f' g' : List (Fin q)), p = (q : Int) ∧ f = oI f' ∧ g = oI g' ∧ 2 < q ∧ q ≤ 65537 ∧ Fld.Pr q ∧ f'.length ≤ 201 ∧ g'.length ≤ 201 := by
  obtain ⟨h1, h2⟩ := okV_pair h
  obtain ⟨q, hz, f', rfl, rfl, a, b, c, d⟩ := row_of h1 hu
  obtain ⟨g', hg, hl⟩ := rows_of h2 hv
  exact ⟨q, hz, f', g', rfl, rfl, hg.symm, a, b, c, d, hl⟩

end Go.Proofs.Ytjjnfobeeflnhaa.L

/- The statement PolyApart as plain Lean. -/
namespace Go.Proofs.Ytjjnfobeeflnhaa.L
open Go.RowKit Go.Proofs.YtjjnfobeeflnhaaW.PrintWords Go.Proofs.Ytjjnfobeeflnhaa.J
set_option linter.unusedVariables false
set_option linter.unusedSimpArgs false

section
variable {q : Nat} [NeZero q]
/-- What a divisor leaves is nothing. -/
theorem dvd_rest (hp : Fld.Pr q) {f D Q R : List (Fin q)} (hD : Fld.trim D ≠ []) (h : Dvd D f) (hd : DivOf f D Q R) : R = [] := by
  obtain ⟨c, hc⟩ := h
  have hl := List.length_pos_iff.2 hD
  have e : Fld.Eqv (Fld.add (Fld.mul Q D) R) (Fld.add (Fld.mul c D) []) := fun i => by
    rw [← hd.2.2.1 i, hc i, Fld.co_add, Fld.co_nil]; grind
  have hu := (Fld.div_unique hp hD e (by rw [hd.2.1]; exact hd.2.2.2.1) (by rw [Fld.trim_nil]; exact hl)).2
  rw [← hd.2.1, Fld.trim_congr hu]
  rfl
end
theorem apart_out (p : Int) (f g : List Int) : Ev (fun k => juntolaw02_PolyApart.j0 k p f g true) true :=
  Ev.step (f := fun k => (juntolaw02_alive.f k).bind fun t1614 => (some t1614)) (fun k => by simp only [juntolaw02_PolyApart.j0, if_true]) (Ev.bind alive02 (Ev.now _))

theorem polyApart (x0 : Int) (x1 : List Int) (x2 : List Int) (w0 : (Lit.int .u64 x0).wf = true) (w1 : x1.length ≤ maxLen ∧ x1.length * 8 ≤ 140737488351232 ∧ ∀ x1' ∈ x1, (Lit.int .u64 x1').wf = true) (w2 : x2.length ≤ maxLen ∧ x2.length * 8 ≤ 140737488351232 ∧ ∀ x2' ∈ x2, (Lit.int .u64 x2').wf = true) : ∃ k, juntolaw02_PolyApart.f k x0 x1 x2 = some true := by
  suffices h : Ev (fun k => juntolaw02_PolyApart.f k x0 x1 x2) true from h.rounds
  have hu : ∀ c ∈ x1, 0 ≤ c := fun c hc => (u64_wf (w1.2.2 c hc)).1
  have hv : ∀ c ∈ x2, 0 ≤ c := fun c hc => (u64_wf (w2.2.2 c hc)).1
  unfold juntolaw02_PolyApart.f
  refine Ev.bind (ref_right _ _ (by simp) (pair_len _ _ w1.1 w2.1)) ?_
  by_cases h0 : okV x0 [x1, x2] = 0
  · simp only [h0, if_true]
    obtain ⟨q, hz, f, g, rfl, rfl, rfl, h2, hq, hp, hf, hg⟩ := rows_two h0 hu hv
    refine Ev.bind (trim_fp g (by omega)) ?_
    rw [oI_length]
    by_cases hgz : Fld.trim g = []
    · have hb : (((Fld.trim g).length : Int) == 0) = true := by rw [hgz]; rfl
      rw [hb]
      exact apart_out _ _ _
    · have hl := List.length_pos_iff.2 hgz
      have hb : (((Fld.trim g).length : Int) == 0) = false := by rw [beq_eq_false_iff_ne]; omega
      rw [hb]
      obtain ⟨D, d1, d2, hD⟩ := gcd_rows hp h2 hq f g hf hg h0
      obtain ⟨hDt, lD, hDf, hDg, hD0⟩ := hD
      have hDne : D ≠ [] := fun h => hgz (hD0 h).2
      have hDz : Fld.trim D ≠ [] := by rw [hDt]; exact hDne
      have hDf' : Dvd D f := hDf.eqv (Fld.trim_co f).symm
      have hDg' : Dvd D g := hDg.eqv (Fld.trim_co g).symm
      obtain ⟨Q, R, hev, hdiv⟩ := over_rows hp h2 hq f g hgz (by omega) (by omega)
      obtain ⟨Q1, R1, hev1, hdiv1⟩ := over_rows hp h2 hq f D hDz (by omega) (by omega)
      obtain ⟨Q2, R2, hev2, hdiv2⟩ := over_rows hp h2 hq g D hDz (by omega) (by omega)
      have r1 := dvd_rest hp hDz hDf' hdiv1
      have r2 := dvd_rest hp hDz hDg' hdiv2
      subst r1 r2
      have okf : okV (q : Int) [oI f, oI D] = 0 := okV_of (okV_pair h0).1 (within_oI D lD)
      have okg : okV (q : Int) [oI g, oI D] = 0 := by
        refine okV_of ?_ (within_oI D lD)
        unfold okV
        rw [if_pos (okV_one (okV_pair h0).1).1, isV_one, within_oI g hg]
      have v0 := divide_ok f g Q R hf hg h0 hgz hev
      have v1 := divide_ok f D Q1 [] hf lD okf hDz hev1
      have v2 := divide_ok g D Q2 [] hg lD okg hDz hev2
      have lQ := hdiv.2.2.2.2
      have lg := Fld.trim_length_le g
      have lR := hdiv.2.2.2.1
      have lM := Fld.trim_mul_le Q g
      have lf := Fld.trim_length_le f
      have hE : Fld.trim (Fld.add (Fld.trim (Fld.mul Q g)) R) = Fld.trim f := by
        refine Fld.trim_congr ?_
        exact ((Fld.trim_co _).add (Fld.Eqv.refl R)).trans hdiv.2.2.1.symm
      have add := add_rows hq (Fld.trim (Fld.mul Q g)) R (by omega) (by omega)
      rw [hE] at add
      have hlen : wrap64 ((((oI ([] : List (Fin q))).length : Nat) : Int) + (((oI ([] : List (Fin q))).length : Nat) : Int)) = 0 := by rw [oI_nil]; exact w64_small (by simp) (by simp)
      clear okf okg h0 hdiv hdiv1 hdiv2 hDf hDg hDf' hDg' hD0 hDt hE
      refine Ev.step (f := fun k => (poly_Divide.f k (q : Int) (oI f) (oI g)).bind fun bt1615 => ((poly_Gcd.f k (q : Int) (oI f) (oI g)).bind fun bt1622 => ((poly_Divide.f k (q : Int) (oI f) bt1622.1).bind fun bt1626 => ((poly_Divide.f k (q : Int) (oI g) bt1622.1).bind fun bt1633 => (if bt1615.2.2 = 0 then ((juntoref02_Trim.f k (oI g)).bind fun t1640 => (if (bt1615.2.1.length : Int) < (t1640.length : Int) then ((juntoref02_Mul.f k (q : Int) bt1615.1 (oI g)).bind fun t1643 => ((juntoref02_Add.f k (q : Int) t1643 bt1615.2.1).bind fun t1646 => ((juntoref02_Trim.f k (oI f)).bind fun t1649 => ((juntoref01_Same.f k t1646 t1649).bind fun t1652 => (if t1652 = true then (if bt1626.2.2 = 0 then (if bt1633.2.2 = 0 then (if (wrap64 ((bt1626.2.1.length : Int) + (bt1633.2.1.length : Int))) = 0 then ((juntolaw02_alive.f k).bind fun t1653 => (some t1653)) else (some false)) else (some false)) else (some false)) else (some false)))))) else (some false))) else (some false)))))) (fun k => by simp only [juntolaw02_PolyApart.j0, Bool.false_eq_true, if_false]) ?_
      refine Ev.bind v0 (Ev.bind d1 (Ev.bind v1 (Ev.bind v2 ?_)))
      simp only [if_true]
      refine Ev.bind (trim_fp g (by omega)) ?_
      refine Ev.congr (fun k => if_pos (by rw [oI_length, oI_length]; omega)) ?_
      refine Ev.bind (rmul_rows hq Q g (by omega) (by omega)) (Ev.bind add (Ev.bind (trim_fp f (by omega)) (Ev.bind (same_self _ (oI_max _ (by omega))) ?_)))
      simp only [if_true]
      refine Ev.congr (fun k => if_pos hlen) ?_
      exact Ev.bind alive02 (Ev.now _)
  · simp only [h0, if_false]
    exact apart_out _ _ _

end Go.Proofs.Ytjjnfobeeflnhaa.L

/- The row of PolyApart: for every input the call returns true and changes nothing; no conditions. Out of the contract of the function and the plain law. -/
namespace Go.Proofs.Ytjjnfobeeflnhaa.polyApart
open Go.ChangeShapes Go.WideShapes Go.ChangeAt Go.RowKit Go.Proofs.YtjjnfobeeflnhaaW.PrintWords Go.Proofs.Ytjjnfobeeflnhaa.J Go.Proofs.Ytjjnfobeeflnhaa.Op
set_option linter.unusedVariables false
theorem own : ownKnob Try.prog.godebug = none := by kernel_rfl
theorem laidOut : laidOutB Try.prog = true := by kernel_rfl
set_option maxRecDepth 100000 in
theorem op0 : Opens Try.prog (Kd.int .u64) 22 (fun n => (Lit.int .u64 n).wf = true) := (op_int Try.underlying22)
set_option maxRecDepth 100000 in
theorem op1 : Opens Try.prog (Kd.slice 22 (Kd.int .u64)) 31 (fun l => l.length ≤ maxLen ∧ l.length * 8 ≤ 140737488351232 ∧ ∀ a ∈ l, (fun n => (Lit.int .u64 n).wf = true) a) := (op_slice Try.underlying31 (by kernel_rfl) (by kernel_rfl) (op_int Try.underlying22))
set_option maxRecDepth 100000 in
theorem op2 : Opens Try.prog (Kd.slice 22 (Kd.int .u64)) 31 (fun l => l.length ≤ maxLen ∧ l.length * 8 ≤ 140737488351232 ∧ ∀ a ∈ l, (fun n => (Lit.int .u64 n).wf = true) a) := (op_slice Try.underlying31 (by kernel_rfl) (by kernel_rfl) (op_int Try.underlying22))
set_option maxRecDepth 100000 in
theorem lifted (os : Os) (started : os.Started) (H : Type) (enc : TypeId × Value → H) :
    ReturnsInHanded {} Try.checked os 33 .any (Rows.polyApartSpec.pre6 enc Try.prog Try.f33 Rows.polyApartRow.domain false) (Rows.polyApartSpec.post enc Try.prog Try.f33 false true false false) := by
  refine returnsInHanded_of_change_sized (C := Try.checked) own started (by kernel_rfl) Try.func33
    (ChangeSpec.witness6 (enc := enc) (C := Try.checked) false ⟨#[], #[.int .u64 0, .slice none 0 0, .slice none 0 0], []⟩ 8 (by kernel_rfl) (by kernel_rfl) (by kernel_rfl) (by kernel_rfl)) ?_
  intro W base args ds gs before hval0 hW hcnd hsz0 _
  have hsz : (DataW.weightsEach Try.prog (Try.f33.params.toList ++ Rows.polyApartSpec.plain.varTypes Try.prog) (ds ++ gs)).all (· ≤ reachBytes) = true := hsz0
  have hval : ∀ (j : Nat) t v, Try.f33.params[j]? = some t → args[j]? = some v → Value.okWide Try.prog W .any base t v := hval0
  have hW' := hW
  obtain ⟨p, q, hA0, hV, rfl, hfz, hnd⟩ := hW
  have hA : DataW.TrodAll enc Try.prog W 0 (fun _ => true) true Try.f33.params.toList args.toList ds p := hA0
  rw [Try.params33] at hA hval hsz
  obtain ⟨v0, vs0, d0, ds0, p0, q0, hargs, rfl, rfl, h0, r0⟩ := trodAll_cons hA
  obtain ⟨v1, vs1, d1, ds1, p1, q1, rfl, rfl, rfl, h1, r1⟩ := trodAll_cons r0
  obtain ⟨v2, vs2, d2, ds2, p2, q2, rfl, rfl, rfl, h2, r2⟩ := trodAll_cons r1
  obtain ⟨rfl, rfl, rfl⟩ := trodAll_nil r2
  obtain rfl : args = #[v0, v1, v2] := by cases args; simp_all
  obtain ⟨rfl, rfl⟩ := trodVars_none hV
  have k0 := h0
  have lt0 : ∀ x ∈ p0, x.block < W.heap.size := by obtain ⟨m, hm⟩ := k0; exact DataW.trod_lt m _ _ _ hm
  obtain ⟨x0, rfl⟩ := okWide_int Try.underlying22 (hval 0 22 v0 rfl rfl)
  obtain ⟨y0, e0, w0⟩ := arg op0 rfl h0 hsz (j := 0) rfl rfl
  have e0' : [Value.int .u64 x0] = [Value.int .u64 y0] := e0
  obtain rfl : x0 = y0 := by simpa using e0'
  have k1 := h1
  have lt1 : ∀ x ∈ p1, x.block < W.heap.size := by obtain ⟨m, hm⟩ := k1; exact DataW.trod_lt m _ _ _ hm
  obtain ⟨a1, len1, cap1, rfl⟩ := okWide_slice Try.underlying31 (hval 1 31 v1 rfl rfl)
  obtain ⟨x1, ⟨A1, c1, e1, hc1, hr1⟩, w1⟩ := arg op1 rfl h1 hsz (j := 1) rfl rfl
  have e1' : [Value.slice a1 len1 cap1] = [Value.slice A1 x1.length c1] := e1
  obtain ⟨rfl, rfl, rfl⟩ : a1 = A1 ∧ len1 = x1.length ∧ cap1 = c1 := by simpa using e1'
  have k2 := h2
  have lt2 : ∀ x ∈ p2, x.block < W.heap.size := by obtain ⟨m, hm⟩ := k2; exact DataW.trod_lt m _ _ _ hm
  obtain ⟨a2, len2, cap2, rfl⟩ := okWide_slice Try.underlying31 (hval 2 31 v2 rfl rfl)
  obtain ⟨x2, ⟨A2, c2, e2, hc2, hr2⟩, w2⟩ := arg op2 rfl h2 hsz (j := 2) rfl rfl
  have e2' : [Value.slice a2 len2 cap2] = [Value.slice A2 x2.length c2] := e2
  obtain ⟨rfl, rfl, rfl⟩ : a2 = A2 ∧ len2 = x2.length ∧ cap2 = c2 := by simpa using e2'
  clear hA0 hval0 hsz0 hsz
  obtain ⟨k, h⟩ := L.polyApart x0 x1 x2 w0 w1 w2
  refine (juntolaw02_PolyApart.calls k x0 (fun k => k < W.heap.size) _ _ x1 (fun k => k < W.heap.size) _ _ x2 true W (Kd.V_mk hc1 (Kd.C_F (Kd.heap_int _) hr1)) (Kd.V_mk hc2 (Kd.C_F (Kd.heap_int _) hr2)) h).mono fun e W' ⟨he, bel⟩ => ?_
  subst he
  exact ⟨_, rfl, _, _, _, [], _, [], hW', trodAll_mk1 (shut_bool Try.underlying4 _), (trodAll_cons_mk (Below.trod laidOut (by kernel_rfl) (of_decide_eq_true (by kernel_rfl)) k0 bel lt0) (trodAll_cons_mk (Below.trod laidOut (by kernel_rfl) (of_decide_eq_true (by kernel_rfl)) k1 bel lt1) (trodAll_cons_mk (Below.trod laidOut (by kernel_rfl) (of_decide_eq_true (by kernel_rfl)) k2 bel lt2) trodAll_mk0))), rfl, bel.frame _, fun h => by cases h⟩
set_option maxRecDepth 100000 in
theorem closed : joinedFacts Try.pinned.checked.prog 33 Try.f33 Rows.polyApartSpec Rows.polyApartRow = true := by
  unfold joinedFacts
  repeat' with_reducible refine Bool.and_eq_true_iff.2 ⟨?_, ?_⟩
  all_goals first
    | with_reducible exact Facts.enters
    | (rw [Facts.final]; kernel_rfl)
    | (rw [Facts.made]; kernel_rfl)
    | kernel_rfl
theorem over : Rows.polyApartRow.holds Try.pinned (OpenSpec.ofChange Rows.polyApartSpec) :=
  OpenClaim.holds_of_wide 33 Try.f33 rfl rfl rfl rfl rfl rfl rfl ⟨rfl, rfl, rfl, rfl, rfl⟩ rfl rfl rfl rfl rfl (by kernel_rfl) Try.func33 closed
    (of_decide_eq_true (by kernel_rfl)) (by unfold Func.isWrapper; first | (rw [if_pos (by decide +kernel)]; kernel_rfl) | (rw [if_neg (by decide +kernel)]; exact ⟨rfl, rfl⟩))
    (fun os started H enc _ => lifted os started H enc)
theorem proved : Rows.PolyApartSaid := over
#print axioms proved
end Go.Proofs.Ytjjnfobeeflnhaa.polyApart
namespace Go.Proofs.Ytjjnfobeeflnhaa
/-- The row, under a short name, for the claim. -/
theorem polyApart_holds : Rows.PolyApartSaid := polyApart.proved
end Go.Proofs.Ytjjnfobeeflnhaa
