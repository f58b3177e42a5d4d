/- What a walk's heap means in a world: who owns which block, what is kept, and the steps that a world takes. Conditions: none. -/
import Derived.Test.YtbdgmbaflfmooaaGreatDoorRcBase
set_option linter.unusedVariables false
set_option linter.unusedSimpArgs false
namespace Go.Rc

/-- What is fixed of a walk: the program, the world at its begin, the blocks that it owned then, the ones that nobody writes, its frame's size, its deferred calls. -/
structure Ctx where
  P : Program
  w0 : World
  own0 : Nat → Prop
  F0 : Nat → Prop
  n : Nat
  ds : List Deferred

def Owned (ρ : List Value) (H : Heap) (b : Nat) : Prop := ∃ (i : Nat) (o : AObj) (h : Value), H[i]? = some o ∧ ρ[i]? = some h ∧ o.owns = true ∧ blk h = some b

def Fz (G : Ctx) (ρ : List Value) (H : Heap) (w : World) (b : Nat) : Prop := G.F0 b ∨ (G.w0.heap.size ≤ b ∧ b < w.heap.size ∧ ¬ Owned ρ H b)

/-- The cells of a row's elements, one behind the other. -/
def RowCells (ρ : List Value) (S : Nat → Prop) (w : World) (ag : Bool) (sz : Nat) (es : List AV) (xs : List Value) : Prop :=
  (∀ (i : Nat) (e : AV), es[i]? = some e → e.cells.length = sz ∧ e.isAgg = ag) ∧
  ∀ (i : Nat) (e : AV) (j : Nat) (c : AV), es[i]? = some e → e.cells[j]? = some c → ∃ x, xs[i * sz + j]? = some x ∧ x.oneCell' = true ∧ VR ρ S w c x

def MapCells (ρ : List Value) (S : Nat → Prop) (w : World) (es : List (ByteArray × AV)) (ms : Array MapEntry) (clock : Nat) : Prop :=
  ms.size = es.length ∧
  (∀ (i : Nat) (k : ByteArray) (x : AV) (m : MapEntry), es[i]? = some (k, x) → ms[i]? = some m → m.key = .string k ∧ VR ρ S w x m.val) ∧
  (∀ (i : Nat) (m : MapEntry), ms[i]? = some m → m.born = i) ∧ clock = ms.size

/-- What an object is: its handle, and the memory behind it. -/
def OR (ρ : List Value) (S : Nat → Prop) (w : World) : AObj → Value → Prop
  | .var t ag m v, h => v.cells.length = m ∧ v.isAgg = ag ∧ ∃ b vs, h = .pointer (some ⟨b, 0, none⟩) ∧ w.heap[b]? = some (.cells vs t (0, 0)) ∧ vs.size = v.cells.length ∧
      ∀ (i : Nat) (c : AV) (x : Value), v.cells[i]? = some c → vs[i]? = some x → VR ρ S w c x
  | .row t ag sz es, h => ∃ xs, w.ownsRow 0 t sz h es.length xs ∧ RowCells ρ S w ag sz es xs
  | .map es, h => ∃ r ms clock, h = .map (some r) ∧ w.heap[r]? = some (.map ms clock) ∧ MapCells ρ S w es ms clock
  | .it s pos, h => ∃ r, h = .pointer (some ⟨r, 0, none⟩) ∧ w.heap[r]? = some (.stringIter s pos)
  | .mit m since seen last, h => ∃ r b, h = .pointer (some ⟨r, 0, none⟩) ∧ ρ[m]? = some (.map (some b)) ∧ w.heap[r]? = some (.mapIter (some b) since seen.toArray last)
  | .fz x, h => DR S w x h
  | .dead, _ => True
  | .slot, h => h = .tuple #[]
  | .lp st pend N ps assign body env, h => ∃ l, h = .func (.yield l) #[] #[] ∧ ∃ (fn : FuncId) (tmps : Array Value) (dfs : Nat), w.heap[l]? = some (.loop { state := st, pending := pend, fn := fn, tmps := tmps, params := ps.toArray, assign := assign, body := body, defers := dfs }) ∧
      tmps.size = N ∧ ∀ t v, env.get t = some v → t < N ∧ VR ρ S w v (tmps.getD t undef)
  | .dfr, h => ∃ r, h = .pointer (some ⟨r, 0, none⟩) ∧ w.heap[r]? = some (.deferred (some []))

theorem RowCells.keep {ρ ρ' : List Value} {S S' : Nat → Prop} {w w' : World} (hρ : Rp ρ ρ') (hk : Kp S S' w w') {ag : Bool} {sz : Nat} {es : List AV} {xs : List Value}
    (h : RowCells ρ S w ag sz es xs) : RowCells ρ' S' w' ag sz es xs :=
  ⟨h.1, fun i e j c he hj => let ⟨x, hx, h1, hv⟩ := h.2 i e j c he hj; ⟨x, hx, h1, hv.keep hρ hk⟩⟩

theorem MapCells.keep {ρ ρ' : List Value} {S S' : Nat → Prop} {w w' : World} (hρ : Rp ρ ρ') (hk : Kp S S' w w') {es : List (ByteArray × AV)} {ms : Array MapEntry} {clock : Nat}
    (h : MapCells ρ S w es ms clock) : MapCells ρ' S' w' es ms clock :=
  ⟨h.1, fun i k x m he hm => ⟨(h.2.1 i k x m he hm).1, (h.2.1 i k x m he hm).2.keep hρ hk⟩, h.2.2.1, h.2.2.2⟩

theorem ownsRow_keep {w w' : World} {t : TypeId} {sz n : Nat} {v : Value} {xs : List Value} (h : w.ownsRow 0 t sz v n xs)
    (hb : ∀ b, blk v = some b → w'.heap[b]? = w.heap[b]?) : w'.ownsRow 0 t sz v n xs := by
  refine ⟨h.1, ?_⟩
  rcases h.2 with h2 | ⟨g, cap, cur, hv, hg, hh, r⟩
  · exact .inl h2
  · refine .inr ⟨g, cap, cur, hv, hg, ?_, r⟩
    rw [hb g (by rw [hv]; rfl)]
    exact hh

theorem OR.keep {ρ ρ' : List Value} {S S' : Nat → Prop} {w w' : World} (hρ : Rp ρ ρ') (hk : Kp S S' w w') {o : AObj} {h : Value}
    (hb : ∀ b, o.owns = true → blk h = some b → w'.heap[b]? = w.heap[b]?) (ho : OR ρ S w o h) : OR ρ' S' w' o h := by
  cases o with
  | var t ag m v =>
    obtain ⟨h1, h2, b, vs, rfl, hh, hl, hc⟩ := ho
    exact ⟨h1, h2, b, vs, rfl, (hb b rfl rfl).trans hh, hl, fun i c x h1 h2 => (hc i c x h1 h2).keep hρ hk⟩
  | row t ag sz es =>
    obtain ⟨xs, hx, hc⟩ := ho
    exact ⟨xs, ownsRow_keep hx (fun b => hb b rfl), hc.keep hρ hk⟩
  | map es =>
    obtain ⟨r, ms, clock, rfl, hh, hc⟩ := ho
    exact ⟨r, ms, clock, rfl, (hb r rfl rfl).trans hh, hc.keep hρ hk⟩
  | it s pos =>
    obtain ⟨r, rfl, hh⟩ := ho
    exact ⟨r, rfl, (hb r rfl rfl).trans hh⟩
  | mit m since seen last =>
    obtain ⟨r, b, rfl, hm, hh⟩ := ho
    refine ⟨r, b, rfl, ?_, (hb r rfl rfl).trans hh⟩
    obtain ⟨h', h1, e⟩ := hρ m _ hm
    rcases e with rfl | ⟨_, _, _, _, _, _, e, _⟩ | e
    · exact h1
    · cases e
    · cases e
  | fz x => exact DR.keep hk ho
  | dead => trivial
  | slot => exact ho
  | lp st pend N ps assign body env =>
    obtain ⟨l, rfl, fn, tmps, dfs, hh, hn, he⟩ := ho
    exact ⟨l, rfl, fn, tmps, dfs, (hb l rfl rfl).trans hh, hn, fun t v ht => ⟨(he t v ht).1, (he t v ht).2.keep hρ hk⟩⟩
  | dfr =>
    obtain ⟨r, rfl, hh⟩ := ho
    exact ⟨r, rfl, (hb r rfl rfl).trans hh⟩

theorem OR.lt {ρ : List Value} {S : Nat → Prop} {w : World} {o : AObj} {h : Value} (ho : OR ρ S w o h) (hw : o.owns = true) {b : Nat} (hb : blk h = some b) : b < w.heap.size := by
  cases o with
  | var t ag m v =>
    obtain ⟨_, _, b', vs, rfl, hh, _⟩ := ho
    cases hb
    exact (Array.getElem?_eq_some_iff.1 hh).1
  | row t ag sz es =>
    obtain ⟨xs, hx, _⟩ := ho
    rcases hx.2 with ⟨rfl, _⟩ | ⟨g, cap, cur, rfl, _, hh, _⟩
    · cases hb
    · cases hb
      exact (Array.getElem?_eq_some_iff.1 hh).1
  | map es =>
    obtain ⟨r, ms, clock, rfl, hh, _⟩ := ho
    cases hb
    exact (Array.getElem?_eq_some_iff.1 hh).1
  | it s pos =>
    obtain ⟨r, rfl, hh⟩ := ho
    cases hb
    exact (Array.getElem?_eq_some_iff.1 hh).1
  | mit m since seen last =>
    obtain ⟨r, b, rfl, hm, hh⟩ := ho
    cases hb
    exact (Array.getElem?_eq_some_iff.1 hh).1
  | fz x => cases hw
  | dead => cases hw
  | slot => cases hw
  | lp st pend N ps assign body env =>
    obtain ⟨l, rfl, fn, tmps, dfs, hh, _⟩ := ho
    cases hb
    exact (Array.getElem?_eq_some_iff.1 hh).1
  | dfr =>
    obtain ⟨r, rfl, hh⟩ := ho
    cases hb
    exact (Array.getElem?_eq_some_iff.1 hh).1

structure Sat (G : Ctx) (ρ : List Value) (H : Heap) (w : World) : Prop where
  len : ρ.length = H.length
  obj : ∀ (i : Nat) (o : AObj) (h : Value), H[i]? = some o → ρ[i]? = some h → OR ρ (Fz G ρ H w) w o h
  dist : ∀ (i j : Nat) (o o' : AObj) (h h' : Value) (b : Nat), H[i]? = some o → ρ[i]? = some h → o.owns = true → blk h = some b →
    H[j]? = some o' → ρ[j]? = some h' → o'.owns = true → blk h' = some b → i = j
  own : ∀ b, Owned ρ H b → ¬ G.F0 b ∧ (G.own0 b ∨ G.w0.heap.size ≤ b)
  os : w.os = G.w0.os
  tape : w.tape = G.w0.tape
  output : w.output = G.w0.output
  size : G.w0.heap.size ≤ w.heap.size
  frame : ∀ b, b < G.w0.heap.size → ¬ G.own0 b → w.heap[b]? = G.w0.heap[b]?
  f0 : ∀ b, G.F0 b → b < G.w0.heap.size ∧ ¬ G.own0 b

variable {G : Ctx} {ρ ρ' : List Value} {H H' : Heap} {w w' : World}

theorem Sat.lt (h : Sat G ρ H w) {b : Nat} (hb : Owned ρ H b) : b < w.heap.size := by
  obtain ⟨i, o, x, h1, h2, h3, h4⟩ := hb
  exact (h.obj i o x h1 h2).lt h3 h4

theorem Sat.fz_lt (h : Sat G ρ H w) {b : Nat} (hb : Fz G ρ H w b) : b < w.heap.size := by
  rcases hb with hb | hb
  · exact Nat.lt_of_lt_of_le (h.f0 b hb).1 h.size
  · exact hb.2.1

theorem Sat.fz_not (h : Sat G ρ H w) {b : Nat} (hb : Fz G ρ H w b) : ¬ Owned ρ H b := by
  rcases hb with hb | hb
  · exact fun ho => (h.own b ho).1 hb
  · exact hb.2.2

/-- What a step of the world keeps: the blocks that it may write were owned; what is owned behind it was owned ahead, or is new. -/
structure Step (ρ ρ' : List Value) (H H' : Heap) (w w' : World) : Prop where
  os : w'.os = w.os
  tape : w'.tape = w.tape
  output : w'.output = w.output
  size : w.heap.size ≤ w'.heap.size
  blocks : ∀ b, b < w.heap.size → ¬ Owned ρ H b → w'.heap[b]? = w.heap[b]?
  own : ∀ b, Owned ρ' H' b → Owned ρ H b ∨ w.heap.size ≤ b
  rp : Rp ρ ρ'

theorem Step.refl (ρ : List Value) (H : Heap) (w : World) : Step ρ ρ H H w w := ⟨rfl, rfl, rfl, Nat.le_refl _, fun _ _ _ => rfl, fun _ h => .inl h, Rp.refl _⟩

theorem Sat.kp (h : Sat G ρ H w) (s : Step ρ ρ' H H' w w') : Kp (Fz G ρ H w) (Fz G ρ' H' w') w w' := by
  intro b hb
  have hlt := h.fz_lt hb
  have hno := h.fz_not hb
  refine ⟨?_, s.blocks b hlt hno⟩
  rcases hb with hb | hb
  · exact .inl hb
  · refine .inr ⟨hb.1, Nat.lt_of_lt_of_le hlt s.size, fun ho => ?_⟩
    rcases s.own b ho with h1 | h1
    · exact hno h1
    · omega

theorem Sat.step (h : Sat G ρ H w) (s : Step ρ ρ' H H' w w') (hl : ρ'.length = H'.length)
    (ho : Kp (Fz G ρ H w) (Fz G ρ' H' w') w w' → ∀ (i : Nat) (o : AObj) (x : Value), H'[i]? = some o → ρ'[i]? = some x → OR ρ' (Fz G ρ' H' w') w' o x)
    (hd : ∀ (i j : Nat) (o o' : AObj) (x x' : Value) (b : Nat), H'[i]? = some o → ρ'[i]? = some x → o.owns = true → blk x = some b →
      H'[j]? = some o' → ρ'[j]? = some x' → o'.owns = true → blk x' = some b → i = j) : Sat G ρ' H' w' where
  len := hl
  obj := ho (h.kp s)
  dist := hd
  own := by
    intro b hb
    rcases s.own b hb with h1 | h1
    · exact h.own b h1
    · have := h.size
      exact ⟨fun hf => by have := (h.f0 b hf).1; omega, .inr (by omega)⟩
  os := s.os.trans h.os
  tape := s.tape.trans h.tape
  output := s.output.trans h.output
  size := Nat.le_trans h.size s.size
  frame := by
    intro b hb hn
    have hb' := Nat.lt_of_lt_of_le hb h.size
    rw [s.blocks b hb' ?_]
    · exact h.frame b hb hn
    · intro ho'
      rcases (h.own b ho').2 with h1 | h1
      · exact hn h1
      · omega
  f0 := h.f0

/-! ### Blocks that are laid, and not owned -/
theorem heap_alloc_at {w : World} {o : Obj} {b : Nat} (hb : b < w.heap.size) : (w.alloc o).heap[b]? = w.heap[b]? := heap_alloc_old w o hb

theorem Sat.alloc_imm (h : Sat G ρ H w) (o : Obj) : Sat G ρ H (w.alloc o) ∧ Step ρ ρ H H w (w.alloc o) ∧ Fz G ρ H (w.alloc o) w.heap.size := by
  have s : Step ρ ρ H H w (w.alloc o) := ⟨rfl, rfl, rfl, by simp, fun b hb _ => heap_alloc_at hb, fun b hb => .inl hb, Rp.refl _⟩
  refine ⟨h.step s h.len (fun hk i o' x h1 h2 => ?_) h.dist, s, .inr ⟨h.size, by simp, fun ho => by have := h.lt ho; omega⟩⟩
  exact (h.obj i o' x h1 h2).keep (Rp.refl _) hk (fun b hw hb => heap_alloc_at ((h.obj i o' x h1 h2).lt hw hb))

theorem Sat.drew (h : Sat G ρ H w) : Sat G ρ H w.drew ∧ Step ρ ρ H H w w.drew := by
  have s : Step ρ ρ H H w w.drew := ⟨rfl, rfl, rfl, Nat.le_refl _, fun _ _ _ => rfl, fun b hb => .inl hb, Rp.refl _⟩
  exact ⟨h.step s h.len (fun hk i o x h1 h2 => (h.obj i o x h1 h2).keep (Rp.refl _) hk (fun _ _ _ => rfl)) h.dist, s⟩

/-- A new object of the walk's own. -/
theorem Sat.alloc_own (h : Sat G ρ H w) (o : Obj) (ob : AObj) (x : Value) (hb : blk x = some w.heap.size) (how : ob.owns = true)
    (hor : Sat G ρ H w → Step ρ (ρ ++ [x]) H (H ++ [ob]) w (w.alloc o) → OR (ρ ++ [x]) (Fz G (ρ ++ [x]) (H ++ [ob]) (w.alloc o)) (w.alloc o) ob x) :
    Sat G (ρ ++ [x]) (H ++ [ob]) (w.alloc o) ∧ Step ρ (ρ ++ [x]) H (H ++ [ob]) w (w.alloc o) := by
  have hown : ∀ b, Owned (ρ ++ [x]) (H ++ [ob]) b → Owned ρ H b ∨ w.heap.size ≤ b := by
    rintro b ⟨i, o', y, h1, h2, h3, h4⟩
    rcases Nat.lt_or_ge i H.length with hi | hi
    · rw [List.getElem?_append_left hi] at h1
      rw [List.getElem?_append_left (by rw [h.len]; exact hi)] at h2
      exact .inl ⟨i, o', y, h1, h2, h3, h4⟩
    · rw [List.getElem?_append_right (by rw [h.len]; exact hi)] at h2
      have h0 : i - ρ.length = 0 := by
        have := (List.getElem?_eq_some_iff.1 h2).1
        simp at this
        omega
      rw [h0] at h2
      cases h2
      rw [hb] at h4
      cases h4
      exact .inr (Nat.le_refl _)
  have s : Step ρ (ρ ++ [x]) H (H ++ [ob]) w (w.alloc o) := ⟨rfl, rfl, rfl, by simp, fun b hb _ => heap_alloc_at hb, hown, Rp.append _ _⟩
  refine ⟨h.step s (by simp [h.len]) (fun hk i o' y h1 h2 => ?_) ?_, s⟩
  · rcases Nat.lt_or_ge i H.length with hi | hi
    · rw [List.getElem?_append_left hi] at h1
      rw [List.getElem?_append_left (by rw [h.len]; exact hi)] at h2
      exact (h.obj i o' y h1 h2).keep s.rp hk (fun b hw hb => heap_alloc_at ((h.obj i o' y h1 h2).lt hw hb))
    · rw [List.getElem?_append_right hi] at h1
      rw [List.getElem?_append_right (by rw [h.len]; exact hi)] at h2
      have h0 : i - ρ.length = 0 := by
        have := (List.getElem?_eq_some_iff.1 h2).1
        simp at this
        omega
      have h0' : i - H.length = 0 := by rw [← h.len]; exact h0
      rw [h0] at h2
      rw [h0'] at h1
      cases h1
      cases h2
      exact hor h s
  · intro i j o1 o2 x1 x2 b h1 h2 h3 h4 h5 h6 h7 h8
    have hlt : ∀ (i : Nat) (o1 : AObj) (x1 : Value), (H ++ [ob])[i]? = some o1 → (ρ ++ [x])[i]? = some x1 → o1.owns = true → blk x1 = some b →
        (i < H.length ∧ H[i]? = some o1 ∧ ρ[i]? = some x1 ∧ b < w.heap.size) ∨ (i = H.length ∧ b = w.heap.size) := by
      intro i o1 x1 h1 h2 h3 h4
      rcases Nat.lt_or_ge i H.length with hi | hi
      · rw [List.getElem?_append_left hi] at h1
        rw [List.getElem?_append_left (by rw [h.len]; exact hi)] at h2
        exact .inl ⟨hi, h1, h2, (h.obj i o1 x1 h1 h2).lt h3 h4⟩
      · rw [List.getElem?_append_right (by rw [h.len]; exact hi)] at h2
        have h0 : i - ρ.length = 0 := by
          have := (List.getElem?_eq_some_iff.1 h2).1
          simp at this
          omega
        rw [h0] at h2
        cases h2
        rw [hb] at h4
        cases h4
        exact .inr ⟨by have := h.len; omega, rfl⟩
    rcases hlt i o1 x1 h1 h2 h3 h4 with ⟨a1, a2, a3, a4⟩ | ⟨a1, a2⟩ <;> rcases hlt j o2 x2 h5 h6 h7 h8 with ⟨b1, b2, b3, b4⟩ | ⟨b1, b2⟩
    · exact h.dist i j o1 o2 x1 x2 b a2 a3 h3 h4 b2 b3 h7 h8
    · omega
    · omega
    · omega

/-- A new object whose handle names no old block. -/
theorem Sat.new (h : Sat G ρ H w) (ob : AObj) (x : Value) (hos : w'.os = w.os) (htape : w'.tape = w.tape) (hout : w'.output = w.output) (hsize : w.heap.size ≤ w'.heap.size)
    (hbl : ∀ b, b < w.heap.size → w'.heap[b]? = w.heap[b]?) (hb : ∀ b, blk x = some b → w.heap.size ≤ b)
    (hor : Step ρ (ρ ++ [x]) H (H ++ [ob]) w w' → OR (ρ ++ [x]) (Fz G (ρ ++ [x]) (H ++ [ob]) w') w' ob x) :
    Sat G (ρ ++ [x]) (H ++ [ob]) w' ∧ Step ρ (ρ ++ [x]) H (H ++ [ob]) w w' := by
  have hget : ∀ (i : Nat) (o : AObj) (y : Value), (H ++ [ob])[i]? = some o → (ρ ++ [x])[i]? = some y → (i = H.length ∧ o = ob ∧ y = x) ∨ (i < H.length ∧ H[i]? = some o ∧ ρ[i]? = some y) := by
    intro i o y h1 h2
    rcases Nat.lt_or_ge i H.length with hi | hi
    · rw [List.getElem?_append_left hi] at h1
      rw [List.getElem?_append_left (by rw [h.len]; exact hi)] at h2
      exact .inr ⟨hi, h1, h2⟩
    · rw [List.getElem?_append_right hi] at h1
      rw [List.getElem?_append_right (by rw [h.len]; exact hi)] at h2
      have h0 : i - ρ.length = 0 := by
        have := (List.getElem?_eq_some_iff.1 h2).1
        simp at this
        omega
      have h0' : i - H.length = 0 := by rw [← h.len]; exact h0
      rw [h0] at h2
      rw [h0'] at h1
      simp at h1 h2
      exact .inl ⟨by have := h.len; omega, h1.symm, h2.symm⟩
  have hown : ∀ b, Owned (ρ ++ [x]) (H ++ [ob]) b → Owned ρ H b ∨ w.heap.size ≤ b := by
    rintro b ⟨i, o', y, h1, h2, h3, h4⟩
    rcases hget i o' y h1 h2 with ⟨_, _, rfl⟩ | ⟨_, h1, h2⟩
    · exact .inr (hb b h4)
    · exact .inl ⟨i, o', y, h1, h2, h3, h4⟩
  have s : Step ρ (ρ ++ [x]) H (H ++ [ob]) w w' := ⟨hos, htape, hout, hsize, fun b hb _ => hbl b hb, hown, Rp.append _ _⟩
  refine ⟨h.step s (by simp [h.len]) (fun hk i o' y h1 h2 => ?_) ?_, s⟩
  · rcases hget i o' y h1 h2 with ⟨_, rfl, rfl⟩ | ⟨_, h1, h2⟩
    · exact hor s
    · exact (h.obj i o' y h1 h2).keep s.rp hk (fun b hw hb' => hbl b ((h.obj i o' y h1 h2).lt hw hb'))
  · intro i j o1 o2 x1 x2 b h1 h2 h3 h4 h5 h6 h7 h8
    rcases hget i o1 x1 h1 h2 with ⟨e1, _, e2⟩ | ⟨_, g1, g2⟩ <;> rcases hget j o2 x2 h5 h6 with ⟨f1, _, f2⟩ | ⟨_, g5, g6⟩
    · omega
    · subst e2
      have := hb b h4
      have := (h.obj j o2 x2 g5 g6).lt h7 h8
      omega
    · subst f2
      have := hb b h8
      have := (h.obj i o1 x1 g1 g2).lt h3 h4
      omega
    · exact h.dist i j o1 o2 x1 x2 b g1 g2 h3 h4 g5 g6 h7 h8

/-- An object of the walk's own is written, grown, frozen or forgotten: its handle and its meaning change; all others stay. -/
theorem Sat.change (h : Sat G ρ H w) {id : Nat} {o0 : AObj} {x0 : Value} (h0 : H[id]? = some o0) (hx0 : ρ[id]? = some x0) (ob : AObj) (x : Value)
    (hos : w'.os = w.os) (htape : w'.tape = w.tape) (hout : w'.output = w.output) (hsize : w.heap.size ≤ w'.heap.size)
    (hbl : ∀ b, b < w.heap.size → (o0.owns = true → blk x0 ≠ some b) → w'.heap[b]? = w.heap[b]?)
    (hob : ∀ b, ob.owns = true → blk x = some b → (o0.owns = true ∧ blk x0 = some b) ∨ w.heap.size ≤ b)
    (hrp : x = x0 ∨ (∃ (a : Option Addr) (n c : Nat) (a' : Option Addr) (n' c' : Nat), x0 = .slice a n c ∧ x = .slice a' n' c' ∧ n < n') ∨ x0 = .tuple #[])
    (hor : Kp (Fz G ρ H w) (Fz G (ρ.set id x) (H.set id ob) w') w w' → Rp ρ (ρ.set id x) → OR (ρ.set id x) (Fz G (ρ.set id x) (H.set id ob) w') w' ob x) :
    Sat G (ρ.set id x) (H.set id ob) w' ∧ Step ρ (ρ.set id x) H (H.set id ob) w w' := by
  have hid : id < H.length := (List.getElem?_eq_some_iff.1 h0).1
  have hidρ : id < ρ.length := (List.getElem?_eq_some_iff.1 hx0).1
  have rp : Rp ρ (ρ.set id x) := by
    intro i y hy
    by_cases hi : id = i
    · subst hi
      rw [hx0] at hy
      cases hy
      exact ⟨x, by simp [hidρ], hrp⟩
    · exact ⟨y, by rw [List.getElem?_set_ne hi]; exact hy, .inl rfl⟩
  have hget : ∀ (i : Nat) (o : AObj) (y : Value), (H.set id ob)[i]? = some o → (ρ.set id x)[i]? = some y → (i = id ∧ o = ob ∧ y = x) ∨ (i ≠ id ∧ H[i]? = some o ∧ ρ[i]? = some y) := by
    intro i o y h1 h2
    by_cases hi : id = i
    · subst hi
      simp [hid, hidρ] at h1 h2
      exact .inl ⟨rfl, h1.symm, h2.symm⟩
    · rw [List.getElem?_set_ne hi] at h1 h2
      exact .inr ⟨fun e => hi e.symm, h1, h2⟩
  have hown : ∀ b, Owned (ρ.set id x) (H.set id ob) b → Owned ρ H b ∨ w.heap.size ≤ b := by
    rintro b ⟨i, o, y, h1, h2, h3, h4⟩
    rcases hget i o y h1 h2 with ⟨rfl, rfl, rfl⟩ | ⟨hi, h1, h2⟩
    · rcases hob b h3 h4 with ⟨e1, e2⟩ | e
      · exact .inl ⟨i, o0, x0, h0, hx0, e1, e2⟩
      · exact .inr e
    · exact .inl ⟨i, o, y, h1, h2, h3, h4⟩
  have s : Step ρ (ρ.set id x) H (H.set id ob) w w' :=
    ⟨hos, htape, hout, hsize, fun b hb hn => hbl b hb (fun e1 e2 => hn ⟨id, o0, x0, h0, hx0, e1, e2⟩), hown, rp⟩
  refine ⟨h.step s (by simp [h.len]) (fun hk i o y h1 h2 => ?_) ?_, s⟩
  · rcases hget i o y h1 h2 with ⟨rfl, rfl, rfl⟩ | ⟨hi, h1, h2⟩
    · exact hor hk rp
    · refine (h.obj i o y h1 h2).keep rp hk (fun b hw hb => hbl b ((h.obj i o y h1 h2).lt hw hb) (fun e1 e2 => hi ?_))
      exact h.dist i id o o0 y x0 b h1 h2 hw hb h0 hx0 e1 e2
  · intro i j o1 o2 x1 x2 b h1 h2 h3 h4 h5 h6 h7 h8
    rcases hget i o1 x1 h1 h2 with ⟨ei, eo, ex⟩ | ⟨hi, g1, g2⟩ <;> rcases hget j o2 x2 h5 h6 with ⟨ej, fo, fx⟩ | ⟨hj, g5, g6⟩
    · rw [ei, ej]
    · subst ei eo ex
      rcases hob b h3 h4 with ⟨e1, e2⟩ | e
      · exact (h.dist j i o2 o0 x2 x0 b g5 g6 h7 h8 h0 hx0 e1 e2).symm
      · have := (h.obj j o2 x2 g5 g6).lt h7 h8
        omega
    · subst ej fo fx
      rcases hob b h7 h8 with ⟨e1, e2⟩ | e
      · exact h.dist i j o1 o0 x1 x0 b g1 g2 h3 h4 h0 hx0 e1 e2
      · have := (h.obj i o1 x1 g1 g2).lt h3 h4
        omega
    · exact h.dist i j o1 o2 x1 x2 b g1 g2 h3 h4 g5 g6 h7 h8

end Go.Rc
