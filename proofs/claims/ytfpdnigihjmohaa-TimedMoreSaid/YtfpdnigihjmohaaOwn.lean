/- Slices that a call makes for itself: what is owned reads as a list; append and make in these words. No condition. -/
import Derived.Test.YtfpdnigihjmohaaRegion
import Derived.Laws.AppendOwnNone
namespace Go.Proofs.Ytfpdnigihjmohaa
open Go.RowKit
set_option linter.unusedSimpArgs false
set_option linter.unusedVariables false
set_option maxRecDepth 100000

/-- equal-sized pieces one behind the other: a cell of the q-th -/
theorem flat_at {us : List Value} {s : Nat} (hs : ∀ u ∈ us, u.cells.size = s) : ∀ {q j : Nat} {u : Value} {c : Value}, us[q]? = some u → u.cells[j]? = some c → (us.flatMap (·.cells.toList))[q * s + j]? = some c := by
  induction us with
  | nil => intro q j u c h; simp at h
  | cons u0 us ih =>
    intro q j u c hq hj
    have h0 : u0.cells.toList.length = s := by simpa using hs u0 (by simp)
    have hjs : j < u.cells.size := (Array.getElem?_eq_some_iff.1 hj).1
    rw [List.flatMap_cons]
    cases q with
    | zero =>
      simp at hq
      subst hq
      rw [List.getElem?_append_left (by simp; omega)]
      simpa using hj
    | succ q =>
      have hus : ∀ u ∈ us, u.cells.size = s := fun u hu => hs u (by simp [hu])
      rw [List.getElem?_append_right (by rw [h0, Nat.add_mul]; omega), h0]
      have : (q + 1) * s + j - s = q * s + j := by rw [Nat.add_mul]; omega
      rw [this]
      exact ih hus (by simpa using hq) hj

theorem flat_one : ∀ {us : List Value}, (∀ u ∈ us, u.cells = #[u]) → us.flatMap (·.cells.toList) = us
  | [], _ => rfl
  | u :: us, h => by rw [List.flatMap_cons, h u (by simp), flat_one fun u hu => h u (by simp [hu])]; rfl

/-- what is owned reads as a list -/
theorem SliceOf.ofOwn {α : Type} {s : Nat} {R : World → Value → α → Prop} {w : World} {v : Value} {l : List α} {base : Nat} {e : TypeId} {us : List Value} (hown : w.ownsRow base e s v l.length (us.flatMap (·.cells.toList)))
    (hlen : us.length = l.length) (hR : ∀ (q : Nat) (u : Value) (a : α), us[q]? = some u → l[q]? = some a → R w u a) (hs : ∀ u ∈ us, u.cells.size = s) : SliceOf s R w v l := by
  have hcap : ∃ ao cap, v = .slice ao l.length cap ∧ l.length ≤ cap ∧ cap ≤ maxLen ∧ (ao = none → cap = 0) := by
    rcases hown.2 with ⟨rfl, h0⟩ | ⟨g, cap, cur, rfl, hb, hg, h1, h2, _⟩
    · exact ⟨none, 0, by rw [h0], by omega, by simp [maxLen], fun _ => rfl⟩
    · exact ⟨_, cap, rfl, h1, h2, fun h => by cases h⟩
  obtain ⟨ao, cap, rfl, h1, h2, h3⟩ := hcap
  refine ⟨ao, l.length, cap, rfl, rfl, h1, h2, h3, fun q a hq => ?_⟩
  have hql : q < l.length := (List.getElem?_eq_some_iff.1 hq).1
  obtain ⟨u, hu⟩ : ∃ u, us[q]? = some u := ⟨us[q], by simp [hlen, hql]⟩
  have hus := hs u (List.mem_of_getElem? hu)
  rcases hown.2 with ⟨hv, h0⟩ | ⟨g, cap', cur, hv, hb, hg, _⟩
  · omega
  · cases hv
    refine ⟨g, 0, u, rfl, hR q u a hu hq, hus, fun j c hj => ?_⟩
    have := hown.cells (g := g) rfl (q * s + j) c (flat_at hs hu hj)
    simpa [Addr.add_lit] using this

abbrev ints (l : List Int) : List Value := l.map (Value.int .i64)
def I64 (l : List Int) : Prop := ∀ a ∈ l, -9223372036854775808 ≤ a ∧ a ≤ 9223372036854775807
theorem I64.app {a b : List Int} (ha : I64 a) (hb : I64 b) : I64 (a ++ b) := fun x hx => by
  rcases List.mem_append.1 hx with h | h
  · exact ha x h
  · exact hb x h
theorem I64.nil : I64 [] := fun _ h => by cases h
theorem I64.one {x : Int} (h1 : -9223372036854775808 ≤ x) (h2 : x ≤ 9223372036854775807) : I64 [x] := fun y h => by
  rw [List.mem_singleton] at h
  subst h
  exact ⟨h1, h2⟩
theorem SliceOf.i64 {w : World} {v : Value} {l : List Int} (h : Ints w v l) : I64 l := fun a ha => by
  obtain ⟨q, hq⟩ := List.mem_iff_getElem?.1 ha
  obtain ⟨ao, n, cap, hv, hn, h1, h2, h3, hr⟩ := h
  obtain ⟨b, o, u, hao, ⟨rfl, hb⟩, _⟩ := hr q a hq
  exact hb
theorem Ints.ofOwn {w : World} {v : Value} {l : List Int} {base : Nat} {e : TypeId} (hown : w.ownsRow base e 1 v l.length (ints l)) (hb : I64 l) : Ints w v l := by
  refine SliceOf.ofOwn (us := ints l) (base := base) (e := e) ?_ (by simp) ?_ ?_
  · rw [flat_one (fun u hu => by obtain ⟨x, _, rfl⟩ := List.mem_map.1 hu; rfl)]
    exact hown
  · intro q u a hu ha
    simp [ha] at hu
    subst hu
    exact ⟨rfl, hb a (List.mem_of_getElem? ha)⟩
  · intro u hu
    obtain ⟨x, _, rfl⟩ := List.mem_map.1 hu
    rfl

/-- the cells of a slice, as append reads them -/
def SrcRow (w : World) (s : Nat) (x : Value) (m : Nat) (news : List Value) : Prop :=
  ∃ ao c, x = .slice ao m c ∧ (ao = none → c = 0 ∧ m = 0) ∧ news.length = m * s ∧ (∀ j u, news[j]? = some u → ∃ b o, ao = some ⟨b, o, none⟩ ∧ w.cell? ⟨b, o + j, none⟩ = some u) ∧ ∀ u ∈ news, u.oneCell' = true
theorem SliceOf.src {w : World} {v : Value} {l : List Int} (h : Ints w v l) : SrcRow w 1 v l.length (ints l) := by
  obtain ⟨ao, n, cap, rfl, rfl, h1, h2, h3, hr⟩ := h
  refine ⟨ao, cap, rfl, fun e => ⟨h3 e, by have := h3 e; omega⟩, by simp, fun j u hu => ?_, fun u hu => by obtain ⟨x, _, rfl⟩ := List.mem_map.1 hu; rfl⟩
  rw [List.getElem?_map] at hu
  cases hj : l[j]? with
  | none => simp [hj] at hu
  | some a =>
    obtain ⟨b, o, u', hao, ⟨rfl, _⟩, _, hc⟩ := hr j a hj
    simp [hj] at hu
    subst hu
    have : w.cell? ⟨b, o + j * 1 + 0, none⟩ = some (.int .i64 a) := hc 0 _ rfl
    exact ⟨b, o, hao, by simpa using this⟩

theorem wpList_append_row {P : Program} {w : World} {ops : Array Oper} {rest : List Oper} {o : Oper} {a : Act} {Q : Exit → Act → World → Prop} (hgd : o.guard = none) (s x : Operand) (t : TypeId)
    (ho : o.op = .call { callee := .builtin .append, args := #[s, x], argTypes := #[t, t] })
    (base : Nat) (e : TypeId) (z : Value) (size bytes : Nat) (ht : P.underlying t = some (.slice e)) (hi : (P.info? e).map (fun i => (i.zero, i.size, i.bytes)) = some (some z, size, bytes))
    (hzs : z.cells.size = size) (hsz : 0 < size)
    (v : Value) (n : Nat) (xs : List Value) (hs : a.eval s = v) (hown : w.ownsRow base e size v n xs)
    (vx : Value) (m : Nat) (news : List Value) (hx : a.eval x = vx) (hsrc : SrcRow w size vx m news)
    (h63 : n + m ≤ maxLen) (hbytes : (n + m) * bytes ≤ 140737488355328) (hbase : base ≤ w.heap.size)
    (h : ∀ v' w', w'.ownsRow base e size v' (n + m) (xs ++ news) → w.grownBy w' v.ownBlock → (v' = .slice none 0 0 ↔ v = .slice none 0 0 ∧ m = 0) → wpList P ops Q rest (a.put o.dst v') w') : wpList P ops Q (o :: rest) a w := by
  obtain ⟨i, hi1, hi2, hi3, hi4⟩ := info_parts hi
  obtain ⟨ao, c, rfl, hnil, hl, hcells, h1⟩ := hsrc
  cases ao with
  | none =>
    obtain ⟨rfl, rfl⟩ := hnil rfl
    have hnews : news = [] := List.eq_nil_of_length_eq_zero (by simpa using hl)
    subst hnews
    exact wpList_append_own_none hgd s x t ho base e i size ht hi1 v n xs hs hown hx (h v w (by simpa using hown) (World.grownBy.refl _ _) (by simp))
  | some ad =>
    refine wpList_append_own w hgd s x t ho base e i z size bytes ht hi1 hi2 hi3 hi4 hzs hsz v n xs hs hown ad m c news hx hl (fun j u hu => ?_) h1 h63 hbytes hbase h
    obtain ⟨b, o', hao, hc⟩ := hcells j u hu
    cases hao
    rw [Addr.add_lit]
    exact hc
theorem of_wanted {c : Prop} [Decidable c] {A E : Prop} (hc : c) (h : if c then A else E) : A := by rwa [if_pos hc] at h
/-- a row of single cells: what copy into it leaves -/
theorem ownsRow_splice {w : World} {base : Nat} {e : TypeId} {g n cap : Nat} {xs : List Value} (hown : w.ownsRow base e 1 (.slice (some ⟨g, 0, none⟩) n cap) n xs) :
    ∃ cur : List Value, w.heap[g]? = some (.cells cur.toArray e (0, 0)) ∧ n ≤ cur.length ∧ base ≤ g ∧ ∀ (w' : World) (cs : List Value) (off : Nat), off + cs.length ≤ n →
      w'.heap[g]? = some (.cells (splice cur off cs).toArray e (0, 0)) → w'.ownsRow base e 1 (.slice (some ⟨g, 0, none⟩) n cap) n (splice xs off cs) := by
  obtain ⟨hl, h⟩ := hown
  rcases h with ⟨hv, _⟩ | ⟨g', cap', cur, hv, hb, hg, h1, h2, h3, h4⟩
  · cases hv
  · cases hv
    have hcl : cur.toList.length = cap := by simpa using h3
    have hx : cur.toList.take n = xs := by simpa using h4
    refine ⟨cur.toList, by simpa using hg, by omega, hb, fun w' cs off hoff hw' => ⟨?_, .inr ⟨g, cap, _, rfl, hb, hw', h1, h2, ?_, ?_⟩⟩⟩
    · simp only [splice, List.length_append, List.length_take, List.length_drop]
      omega
    · simp only [splice, List.size_toArray, List.length_append, List.length_take, List.length_drop]
      omega
    · have hxl : xs.length = n := by simpa using hl
      have e : splice cur.toList off cs = splice xs off cs ++ cur.toList.drop n := by
        have hc : cur.toList = xs ++ cur.toList.drop n := by rw [← hx]; exact (List.take_append_drop n _).symm
        generalize cur.toList.drop n = rest at hc ⊢
        rw [hc]
        simp only [splice]
        rw [List.take_append_of_le_length (by omega), List.drop_append_of_le_length (by omega)]
        simp only [List.append_assoc]
      have hsl : (splice xs off cs).length = n := by rw [length_splice _ _ _ (by omega)]; exact hxl
      rw [Nat.mul_one]
      show (splice cur.toList off cs).take n = _
      rw [e, List.take_append_of_le_length (by omega), List.take_of_length_le (by omega)]
theorem ownsRow_block {w : World} {base : Nat} {e : TypeId} {s : Nat} {n0 : Nat} {xs : List Value} {ao : Option Addr} {n cap : Nat} (h : w.ownsRow base e s (.slice ao n cap) n0 xs) : ∀ b o sp, ao = some ⟨b, o, sp⟩ → base ≤ b := by
  intro b o sp hao
  rcases h.2 with ⟨hv, _⟩ | ⟨g, cap', cur, hv, hb, _⟩
  · cases hv; cases hao
  · cases hv; cases hao; exact hb
/-- a store into another block -/
theorem SliceOf.setOther {w : World} {ao : Option Addr} {n cap : Nat} {l : List Int} (h : Ints w (.slice ao n cap) l) {p : Addr} (u : Value) (hp : ∀ b o, ao = some ⟨b, o, none⟩ → b ≠ p.block) : Ints (w.setCell p u) (.slice ao n cap) l := by
  obtain ⟨ao', n', cap', hv, hn, h1, h2, h3, hr⟩ := h
  cases hv
  refine ⟨ao, n, cap, rfl, hn, h1, h2, h3, fun q a hq => ?_⟩
  obtain ⟨b, o, x, hao, hx, hs, hc⟩ := hr q a hq
  refine ⟨b, o, x, hao, hx, hs, fun j c hj => ?_⟩
  rw [World.cell?_setCell_other _ _ _ _ (fun e => hp b o hao (by rw [e]))]
  exact hc j c hj
theorem SliceOf.drew {w : World} {v : Value} {l : List Int} (h : Ints w v l) : Ints w.drew v l := h
theorem wp_copy {P : Program} {o : Oper} {a : Act} {w : World} {K : Act → World → Prop} {Q : Exit → Act → World → Prop} (hgd : o.guard = none) (d s : Operand) (dT sT : TypeId)
    (ho : o.op = .call { callee := .builtin .copy, args := #[d, s], argTypes := #[dT, sT] }) (elem : TypeId) (hu : P.underlying dT = some (.slice elem)) (hsz : (P.info? elem).map (·.size) = some 1)
    (dp sp : Option Addr) (dLen dCap sLen sCap : Nat) (hd : a.eval d = .slice dp dLen dCap) (hs : a.eval s = .slice sp sLen sCap)
    (g off : Nat) (cur : List Value) (t : TypeId) (hg : w.heap[g]? = some (.cells cur.toArray t (0, 0))) (cs : List Value) (hn : cs.length = Nat.min sLen dLen)
    (hpos : 0 < cs.length → dp = some ⟨g, off, none⟩ ∧ ∃ ad, sp = some ad ∧ ∀ j v, cs[j]? = some v → w.cell? (ad.add j) = some v)
    (hfit : off + cs.length ≤ cur.length) (h1 : ∀ v ∈ cs, v.oneCell' = true) (B : Nat) (w0 : World) (hb : Below B w0 w) (hBg : B ≤ g)
    (h : ∀ w', Hid (w'.heap[g]? = some (.cells (splice cur off cs).toArray t (0, 0))) → Below B w0 w' → K (a.put o.dst (goInt cs.length)) w') : o.wp P a w K Q :=
  of_wanted (by simp [Region.wanted, hgd]) (step_copy_splice (ops := #[]) (E := True) hgd d s dT sT ho elem hu hsz dp sp dLen dCap sLen sCap hd hs g off cur t hg cs hn hpos hfit h1 B w0 hb hBg h)
theorem ownsRow_up {w w' : World} {base : Nat} {e : TypeId} {s : Nat} {v : Value} {n : Nat} {xs : List Value} (h : w.ownsRow base e s v n xs) (hb : Below w.heap.size w w') : w'.ownsRow base e s v n xs := by
  refine ⟨h.1, ?_⟩
  rcases h.2 with h2 | ⟨g, cap, cur, hv, hg, hh, r⟩
  · exact .inl h2
  · exact .inr ⟨g, cap, cur, hv, hg, (hb.block g (Array.getElem?_eq_some_iff.1 hh).1).trans hh, r⟩
theorem splice_set (L : List Int) (z : Int) (hL : 0 < L.length) : (splice (ints L) 1 (ints (L.take (L.length - 1)))).set 0 (.int .i64 z) = ints (z :: L.take (L.length - 1)) := by
  cases L with
  | nil => simp at hL
  | cons x L => simp [splice]; omega
theorem wp_of_list {P : Program} {ops : Array Oper} {o : Oper} {a : Act} {w : World} {K : Act → World → Prop} (hg : o.guard = none) (h : wpList P ops (Only K) [o] a w) : o.wp P a w K (Only K) := by
  unfold wpList at h
  rw [if_pos (by simp [Region.wanted, hg])] at h
  rcases h with h | ⟨_, _, _, hf⟩
  · exact h
  · exact hf.elim
/-- a slice of numbers in blocks from B on -/
def IntsFrom (B : Nat) (w : World) (v : Value) (l : List Int) : Prop := Ints w v l ∧ ∀ ao n cap b o sp, v = .slice ao n cap → ao = some ⟨b, o, sp⟩ → B ≤ b
theorem IntsFrom.fst {B : Nat} {w : World} {v : Value} {l : List Int} (h : IntsFrom B w v l) : Ints w v l := h.1
theorem IntsFrom.mono {B B' : Nat} {w : World} {v : Value} {l : List Int} (h : IntsFrom B w v l) (hB : B' ≤ B) : IntsFrom B' w v l := ⟨h.1, fun ao n cap b o sp h1 h2 => Nat.le_trans hB (h.2 ao n cap b o sp h1 h2)⟩
theorem IntsFrom.up {B : Nat} {w w' : World} {v : Value} {l : List Int} (h : IntsFrom B w v l) (hb : Below w.heap.size w w') : IntsFrom B w' v l := ⟨SliceOf.up h.1 hb, h.2⟩
theorem IntsFrom.drew {B : Nat} {w : World} {v : Value} {l : List Int} (h : IntsFrom B w v l) : IntsFrom B w.drew v l := h
theorem IntsFrom.setBelow {B : Nat} {w : World} {v : Value} {l : List Int} (h : IntsFrom B w v l) {p : Addr} (hp : p.block < B) (u : Value) : IntsFrom B (w.setCell p u) v l := by
  obtain ⟨h1, h2⟩ := h
  obtain ⟨ao, n, cap, rfl, H, _⟩ := SliceOf.shape h1
  refine ⟨SliceOf.setOther h1 u fun b o e => ?_, h2⟩
  have := h2 ao n cap b o none rfl e
  omega
theorem IntsFrom.ofOwn {w : World} {v : Value} {l : List Int} {base : Nat} {e : TypeId} (hown : w.ownsRow base e 1 v l.length (ints l)) (hb : I64 l) : IntsFrom base w v l :=
  ⟨Ints.ofOwn hown hb, fun ao n cap b o sp hv hao => by subst hv; exact ownsRow_block hown b o sp hao⟩
theorem IntsFrom.nil (B : Nat) (w : World) : IntsFrom B w (.slice none 0 0) [] :=
  ⟨⟨none, 0, 0, rfl, rfl, Nat.le_refl _, by simp [maxLen], fun _ => rfl, fun q a h => by simp at h⟩, fun ao n cap b o sp hv hao => by cases hv; cases hao⟩
theorem IntsFrom.shape {B : Nat} {w : World} {v : Value} {l : List Int} (h : IntsFrom B w v l) : ∃ ao n cap, v = .slice ao n cap ∧ IntsFrom B w (.slice ao n cap) l ∧ Hid (n = l.length) ∧ n ≤ cap ∧ cap ≤ 9223372036854775807 := by
  obtain ⟨ao, n, cap, rfl, H, hn, h1, h2⟩ := SliceOf.shape h.1
  exact ⟨ao, n, cap, rfl, h, hn, h1, h2⟩
theorem IntsFrom.takeV {B : Nat} {w : World} {l : List Int} {ao : Option Addr} {n cap : Nat} (h : IntsFrom B w (.slice ao n cap) l) {k : Nat} (hk : k ≤ n) : IntsFrom B w (.slice ao k cap) (l.take k) :=
  ⟨SliceOf.takeV h.1 hk, fun ao' n' cap' b o sp hv hao => by cases hv; exact h.2 ao n cap b o sp rfl hao⟩
end Go.Proofs.Ytfpdnigihjmohaa
