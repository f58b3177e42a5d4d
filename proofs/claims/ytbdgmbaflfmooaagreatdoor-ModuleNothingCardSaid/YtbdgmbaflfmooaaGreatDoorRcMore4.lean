/- Ranges over maps of any number of entries: each entry that is left may be the next one. Conditions: none. -/
import Derived.Test.YtbdgmbaflfmooaaGreatDoorRcStepH
import Derived.Test.YtbdgmbaflfmooaaGreatDoorRcStp
set_option linter.unusedVariables false
set_option linter.unusedSimpArgs false
namespace Go.Rc

theorem run_chooseN {P : Program} (n : Nat) (hn : 0 < n) (w : World) : ∃ j w1, (choose (.mapNext n)).run P w = .ok j w1 ∧ j < n ∧ (w1 = w ∨ w1 = w.drew) := by
  by_cases h : n ≤ 1
  · refine ⟨0, w, ?_, hn, .inl rfl⟩
    simp [choose, Sem.run, Question.forced, h]
  · refine ⟨w.tape w.drawn (.mapNext n) % n, w.drew, ?_, Nat.mod_lt _ hn, .inr rfl⟩
    have hf : (Question.mapNext n).forced = false := by simp [Question.forced, h]
    unfold choose
    simp only [Sem.run, hf]
    rfl

section
variable {P : Program} {o : Oper} {ev : Ev} {H : Heap}

theorem born_lt {ρ : List Value} {S : Nat → Prop} {w : World} {es : List (ByteArray × AV)} {ms : Array MapEntry} (hc : MapCells ρ S w es ms ms.size) {e : MapEntry} (he : e ∈ ms) : ∃ i, ms[i]? = some e ∧ e.born = i ∧ i < es.length := by
  obtain ⟨i, hi, rfl⟩ := Array.mem_iff_getElem.1 he
  have h1 : ms[i]? = some ms[i] := by simp [hi]
  exact ⟨i, h1, hc.2.2.1 i _ h1, by rw [← hc.1]; exact hi⟩

/-- The check that the machine makes ahead. -/
theorem last_ok {ρ : List Value} {S : Nat → Prop} {w : World} {es : List (ByteArray × AV)} {ms : Array MapEntry} {seen : List Nat} {last : Nat} (hc : MapCells ρ S w es ms ms.size) (hl : seen = [] ∨ 1 ≤ last) :
    (!seen.toArray.isEmpty && !ms.isEmpty && ms.all fun e => decide (e.born ≥ last)) = false := by
  rcases hl with rfl | hl
  · simp
  · cases he : ms.isEmpty with
    | true => simp
    | false =>
      have hpos : 0 < ms.size := by
        rcases Nat.eq_zero_or_pos ms.size with h | h
        · rw [Array.eq_empty_of_size_eq_zero h] at he; simp at he
        · exact h
      have h0 : ms[0]? = some ms[0] := by simp [hpos]
      have hb := hc.2.2.1 0 _ h0
      have : (ms.all fun e => decide (e.born ≥ last)) = false := by
        rw [Array.all_eq_false]
        exact ⟨0, hpos, by rw [hb]; simp; omega⟩
      rw [this]
      simp

theorem ok_nextAll {x : Operand} {id m since last : Nat} {seen : List Nat} {es : List (ByteArray × AV)} (ho : o.op = .next x false) (hx : ev x = some (.ptr id 0)) (hH : H[id]? = some (.mit m since seen last)) (hM : H[m]? = some (.map es))
    (hl : seen = [] ∨ 1 ≤ last) (hall : ∀ i, i < es.length → i ∈ seen) : OpOk P o ev H (.tup [.d (.v (.bool false))]) H :=
  .of_run fun G ρ w a _ hs he => by
    obtain ⟨r, b, ms, hρ, hxa, hm, hh, hb, hc⟩ := mit_at hs he hx hH hM
    have hg : (getObj r).run P w = .ok (.mapIter (some b) since seen.toArray last) w := by simp [getObj, Sem.run, hh]
    have hgb : (getObj b).run P w = .ok (.map ms ms.size) w := by simp [getObj, Sem.run, hb]
    have hleft : ms.filter (fun e => !seen.toArray.contains e.born) = #[] := by
      rw [Array.filter_eq_empty_iff]
      intro e he2
      obtain ⟨i, h1, h2, h3⟩ := born_lt hc he2
      have := hall i h3
      simp [h2, this]
    obtain ⟨j, w1, h1, h2, h3⟩ := run_chooseN (P := P) 1 (by omega) w
    refine ⟨ρ, w, .tuple #[.bool false], ?_, hs, Step.refl ρ H w, tupD (.cons (dv _ rfl) .nil)⟩
    have hc1 := run_choose1 (P := P) w
    simp only [execOp, ho, hxa, Instr.next, Sem.run_bind, hg, Result.andThen_ok, hgb, last_ok hc hl, hleft]
    simp [hc1, show (Question.mapNext 1).forced = true from rfl]

/-- One more round: with any entry that is left. -/
theorem ok_nextMany {x : Operand} {id m since last : Nat} {seen : List Nat} {es : List (ByteArray × AV)} (ho : o.op = .next x false) (hx : ev x = some (.ptr id 0)) (hH : H[id]? = some (.mit m since seen last)) (hM : H[m]? = some (.map es))
    (hl : seen = [] ∨ 1 ≤ last) (hsn : es.length ≤ since) (hex : ∃ i, i < es.length ∧ i ∉ seen) {G : Ctx} {ρ : List Value} {w : World} {a : Act} (hs : Sat G ρ H w) (he : EvR ρ (Fz G ρ H w) w ev a) {next : Act → World → Prop} {Q : Exit → Act → World → Prop}
    (hn : ∀ i k v, es[i]? = some (k, v) → i ∉ seen → ∀ ρ' w' x, Sat G ρ' (H.set id (.mit m since (seen ++ [i]) es.length)) w' → Step ρ ρ' H (H.set id (.mit m since (seen ++ [i]) es.length)) w w' →
      VR ρ' (Fz G ρ' (H.set id (.mit m since (seen ++ [i]) es.length)) w') w' (.tup [.d (.v (.bool true)), .d (.v (.string k)), v]) x → next (a.put o.dst x) w') : o.wp P a w next Q := by
  obtain ⟨r, b, ms, hρ, hxa, hm, hh, hb, hc⟩ := mit_at hs he hx hH hM
  have hg : (getObj r).run P w = .ok (.mapIter (some b) since seen.toArray last) w := by simp [getObj, Sem.run, hh]
  have hgb : (getObj b).run P w = .ok (.map ms ms.size) w := by simp [getObj, Sem.run, hb]
  generalize hleft : ms.filter (fun e => !seen.toArray.contains e.born) = left
  have hin : ∀ e, e ∈ left → ∃ i, ms[i]? = some e ∧ e.born = i ∧ i < es.length ∧ i ∉ seen := fun e he2 => by
    rw [← hleft, Array.mem_filter] at he2
    obtain ⟨i, h1, h2, h3⟩ := born_lt hc he2.1
    refine ⟨i, h1, h2, h3, ?_⟩
    have := he2.2
    rw [h2] at this
    simpa using this
  have hpos : 0 < left.size := by
    obtain ⟨i, h1, h2⟩ := hex
    have hi : i < ms.size := by rw [hc.1]; exact h1
    have hmi : ms[i]? = some ms[i] := by simp [hi]
    have hbi := hc.2.2.1 i _ hmi
    have : ms[i] ∈ left := by
      rw [← hleft, Array.mem_filter]
      refine ⟨by simp, ?_⟩
      rw [hbi]
      simpa using h2
    exact Array.size_pos_of_mem this
  have hold : left.filter (fun e => decide (e.born < since)) = left := by
    rw [Array.filter_eq_self]
    intro e he2
    obtain ⟨i, h1, h2, h3, h4⟩ := hin e he2
    exact decide_eq_true (by omega)
  have hnew : left.filter (fun e => decide (e.born ≥ since)) = #[] := by
    rw [Array.filter_eq_empty_iff]
    intro e he2
    obtain ⟨i, h1, h2, h3, h4⟩ := hin e he2
    simp
    omega
  have hne : left.isEmpty = false := by
    cases h : left.isEmpty with
    | false => rfl
    | true => simp at h; subst h; simp at hpos
  obtain ⟨j, w1, g1, g2, g3⟩ := run_chooseN (P := P) left.size hpos w
  have hj : left[j]? = some left[j] := by simp [g2]
  obtain ⟨i, h1, h2, h3, h4⟩ := hin left[j] (by simp)
  have hei : es[i]? = some es[i] := by simp [h3]
  obtain ⟨hke, hve⟩ := hc.2.1 i _ _ _ hei h1
  obtain ⟨s0, st0⟩ : Sat G ρ H w1 ∧ Step ρ ρ H H w w1 := by
    rcases g3 with rfl | rfl
    · exact ⟨hs, Step.refl ρ H w1⟩
    · exact hs.drew
  have hheap : w1.heap = w.heap := by rcases g3 with rfl | rfl <;> rfl
  have hh1 : w1.heap[r]? = some (.mapIter (some b) since seen.toArray last) := by rw [hheap]; exact hh
  have hrl : r < w1.heap.size := (Array.getElem?_eq_some_iff.1 hh1).1
  have hst := run_setObj (P := P) (w := w1) (o' := .map #[] 0) hrl (fun c e f h => by rw [hh1] at h; cases h) (.mapIter (some b) since (seen ++ [i]).toArray es.length)
  obtain ⟨s1, hst2⟩ := s0.change (w' := { w1 with heap := w1.heap.setIfInBounds r (.mapIter (some b) since (seen ++ [i]).toArray es.length) }) hH hρ (.mit m since (seen ++ [i]) es.length) (.pointer (some ⟨r, 0, none⟩)) rfl rfl rfl (by simp)
    (fun k hk hne => by
      have : r ≠ k := fun e => hne rfl (by rw [e]; rfl)
      simp [Array.getElem?_setIfInBounds_ne this]) (fun k _ hk => .inl ⟨rfl, hk⟩) (.inl rfl)
    (fun hk hrp => by
      obtain ⟨h', h1, e⟩ := hrp m _ hm
      rcases e with rfl | ⟨_, _, _, _, _, _, e, _⟩ | e
      · exact ⟨r, b, rfl, h1, by simp [hrl]⟩
      · cases e
      · cases e)
  have hstep := st0.trans hst2
  have hrun : (execOp a.eval o).run P w = .ok (.value (.tuple #[.bool true, .string es[i].1, left[j].val])) { w1 with heap := w1.heap.setIfInBounds r (.mapIter (some b) since (seen ++ [i]).toArray es.length) } := by
    have hpush : seen.toArray.push left[j].born = (seen ++ [i]).toArray := by rw [h2]; simp
    have hcand : (#[] ++ Array.map some (left ++ #[]) : Array (Option MapEntry)) = left.map some := by simp
    have hkey : left[j].key = .string es[i].1 := hke
    simp only [execOp, ho, hxa, Instr.next, Sem.run_bind, hg, Result.andThen_ok, hgb, last_ok hc hl, hleft, hold, hnew, hne, Bool.false_eq_true, if_false, hcand, Array.size_map, g1, Array.getElem?_map, hj, Option.map_some, hpush]
    simp only [hc.1, hst, Result.andThen_ok, Sem.run_pure, hkey]
  unfold Oper.wp
  rw [hrun]
  exact hn i _ _ hei h4 _ _ _ s1 hstep (tupD (.cons (dv _ rfl) (.cons (dv _ rfl) (.cons (hve.keep hstep.rp (hs.kp hstep)) .nil))))

theorem find_born (l : List MapEntry) : ∀ (off i : Nat), (∀ j e, l[j]? = some e → e.born = off + j) → l.find? (fun e => e.born == off + i) = l[i]? := by
  induction l with
  | nil => intro off i h; simp
  | cons a r ih =>
    intro off i h
    have h0 := h 0 a rfl
    cases i with
    | zero => simp [h0]
    | succ i =>
      have hne : (a.born == off + (i + 1)) = false := by simp; omega
      rw [List.find?_cons, hne]
      have := ih (off + 1) i (fun j e he => by rw [h (j + 1) e (by simpa using he)]; omega)
      rw [show off + 1 + i = off + (i + 1) by omega] at this
      simpa using this

theorem ok_entryMany {x : Operand} {id m since i : Nat} {seen : List Nat} {es : List (ByteArray × AV)} {k : ByteArray} {v : AV} (ho : o.op = .entry x) (hx : ev x = some (.ptr id 0)) (hH : H[id]? = some (.mit m since seen es.length)) (hM : H[m]? = some (.map es))
    (hl : seen.getLast? = some i) (hi : es[i]? = some (k, v)) : OpOk P o ev H (.tup [.d (.v (.string k)), v]) H :=
  .of_run fun G ρ w a _ hs he => by
    obtain ⟨r, b, ms, hρ, hxa, hm, hh, hb, hc⟩ := mit_at hs he hx hH hM
    have hlt : i < ms.size := by rw [hc.1]; exact (List.getElem?_eq_some_iff.1 hi).1
    have hmi : ms[i]? = some ms[i] := by simp [hlt]
    obtain ⟨hke, hve⟩ := hc.2.1 i k v _ hi hmi
    have hg : (getObj r).run P w = .ok (.mapIter (some b) since seen.toArray es.length) w := by simp [getObj, Sem.run, hh]
    have hgb : (getObj b).run P w = .ok (.map ms ms.size) w := by simp [getObj, Sem.run, hb]
    have hback : seen.toArray.back? = some i := by simp [hl]
    have hfind : ms.find? (fun e => e.born == i) = some ms[i] := by
      rw [← Array.find?_toList]
      have := find_born ms.toList 0 i (fun j e he => by rw [Nat.zero_add]; exact hc.2.2.1 j e (by simpa using he))
      rw [Nat.zero_add] at this
      rw [this]
      simp
    refine ⟨ρ, w, .tuple #[.string k, ms[i].val], ?_, hs, Step.refl ρ H w, tupD (.cons (dv _ rfl) (.cons hve .nil))⟩
    have hne : (ms.size != es.length) = false := by simp [hc.1]
    simp only [execOp, ho, hxa, Instr.entry, Sem.run_bind, hg, Result.andThen_ok, hback, hgb, hne, Bool.false_eq_true, if_false, hfind, Sem.run_pure, hke]

end

/-- The entries that are left. -/
noncomputable def leftM (seen : List Nat) (es : List (ByteArray × AV)) : Nat → List (Nat × ByteArray × AV) :=
  List.rec (motive := fun _ => Nat → List (Nat × ByteArray × AV)) (fun _ => []) (fun e _ ih i => match seen.any (Nat.beq i) with
    | true => ih (Nat.succ i)
    | false => (i, e.1, e.2) :: ih (Nat.succ i)) es

theorem mem_leftM {seen : List Nat} (es : List (ByteArray × AV)) : ∀ {n i : Nat} {k : ByteArray} {v : AV}, es[i]? = some (k, v) → n + i ∉ seen → (n + i, k, v) ∈ leftM seen es n := by
  induction es with
  | nil => intro n i k v h; simp at h
  | cons e r ih =>
    intro n i k v h hn
    show (n + i, k, v) ∈ (match seen.any (Nat.beq n) with
      | true => leftM seen r (Nat.succ n)
      | false => (n, e.1, e.2) :: leftM seen r (Nat.succ n))
    cases i with
    | zero =>
      simp at h
      subst h
      have : seen.any (Nat.beq n) = false := by
        rw [List.any_eq_false]
        intro x hx hb
        exact hn (by rw [Nat.add_zero, Nat.eq_of_beq_eq_true hb]; exact hx)
      rw [this]
      simp
    | succ i =>
      have := ih (n := n + 1) (i := i) (by simpa using h) (by rw [show n + 1 + i = n + (i + 1) by omega]; exact hn)
      rw [show n + 1 + i = n + (i + 1) by omega] at this
      split
      · exact this
      · exact List.mem_cons_of_mem _ this

theorem leftM_nil {seen : List Nat} {es : List (ByteArray × AV)} (h : leftM seen es 0 = []) : ∀ i, i < es.length → i ∈ seen := by
  intro i hi
  by_cases hn : i ∈ seen
  · exact hn
  · have := mem_leftM (seen := seen) es (n := 0) (i := i) (k := es[i].1) (v := es[i].2) (by simp [hi]) (by rw [Nat.zero_add]; exact hn)
    rw [h] at this
    cases this

theorem leftM_ex {seen : List Nat} (es : List (ByteArray × AV)) : ∀ {n : Nat} {q : Nat × ByteArray × AV}, q ∈ leftM seen es n → ∃ i, i < es.length ∧ n + i ∉ seen := by
  induction es with
  | nil => intro n q h; cases h
  | cons e r ih =>
    intro n q h
    have h : q ∈ (match seen.any (Nat.beq n) with
      | true => leftM seen r (Nat.succ n)
      | false => (n, e.1, e.2) :: leftM seen r (Nat.succ n)) := h
    split at h
    · obtain ⟨i, h1, h2⟩ := ih h
      exact ⟨i + 1, by simp; omega, by rw [show n + (i + 1) = Nat.succ n + i by omega]; exact h2⟩
    · rename_i hb
      refine ⟨0, by simp, fun hm => ?_⟩
      rw [List.any_eq_false] at hb
      exact hb n (by simpa using hm) (Nat.beq_refl n)

noncomputable def allM (k : Nat → ByteArray → AV → Prop) (l : List (Nat × ByteArray × AV)) : Prop :=
  List.rec (motive := fun _ => Prop) True (fun e r ih => List.casesOn (motive := fun _ => Prop) r (k e.1 e.2.1 e.2.2) (fun _ _ => k e.1 e.2.1 e.2.2 ∧ ih)) l

theorem allM_mem {k : Nat → ByteArray → AV → Prop} (l : List (Nat × ByteArray × AV)) (h : allM k l) : ∀ e, e ∈ l → k e.1 e.2.1 e.2.2 := by
  induction l with
  | nil => intro e he; cases he
  | cons a r ih =>
    intro e he
    cases r with
    | nil =>
      have h : k a.1 a.2.1 a.2.2 := h
      rcases List.mem_cons.1 he with rfl | he
      · exact h
      · cases he
    | cons b s =>
      have h : k a.1 a.2.1 a.2.2 ∧ allM k (b :: s) := h
      rcases List.mem_cons.1 he with rfl | he
      · exact h.1
      · exact ih h.2 e he

/-- What more than one way may lead to: a round of a range over a map. -/
noncomputable def moreK (op : Op) (ev : Ev) (hs : HS) (k : AV → HS → Prop) : Prop := match op with
  | .next x false => match ev x with
    | some (.ptr id 0) => match hs.t.get id with
      | some (.mit m since seen last) => match hs.t.get m with
        | some (.map es) => match Nat.ble es.length since && (Nat.beq seen.length 0 || Nat.ble 1 last) with
          | true => match leftM seen es 0 with
            | [] => k (.tup [.d (.v (.bool false))]) hs
            | l => allM (fun i key v => k (.tup [.d (.v (.bool true)), .d (.v (.string key)), v]) (hs.put id (.mit m since (seen ++ [i]) es.length))) l
          | false => False
        | _ => False
      | _ => False
    | _ => False
  | .entry x => match ev x with
    | some (.ptr id 0) => match hs.t.get id with
      | some (.mit m since seen last) => match hs.t.get m with
        | some (.map es) => match seen.getLast? with
          | some i => match nth es i with
            | some (key, v) => match Nat.beq last es.length with
              | true => k (.tup [.d (.v (.string key)), v]) hs
              | false => False
            | none => False
          | none => False
        | _ => False
      | _ => False
    | _ => False
  | _ => False

theorem moreK_ok {P : Program} {o : Oper} {ev : Ev} {hs : HS} {H : Heap} {k : AV → HS → Prop} (hh : HtOk hs H) (h : moreK o.op ev hs k) {G : Ctx} {ρ : List Value} {w : World} {a : Act} (hG : G.P = P) (hst : Sat G ρ H w) (he : EvR ρ (Fz G ρ H w) w ev a) {next : Act → World → Prop} {Q : Exit → Act → World → Prop}
    (hn : ∀ v hs', k v hs' → ∀ ρ' H' w' x, Sat G ρ' H' w' → Step ρ ρ' H H' w w' → Ht2 hs H hs' H' → VR ρ' (Fz G ρ' H' w') w' v x → next (a.put o.dst x) w') : o.wp P a w next Q ∧ ∀ c, o.op ≠ .defer c := by
  unfold moreK at h
  split at h
  · rename_i x hop
    refine ⟨?_, fun c e => by rw [hop] at e; cases e⟩
    split at h
    · rename_i id hx
      split at h
      · rename_i m since seen last hg
        split at h
        · rename_i es hgm
          split at h
          · rename_i hc
            simp only [Bool.and_eq_true, Bool.or_eq_true] at hc
            have h1 := Nat.le_of_ble_eq_true hc.1
            have h2 : seen = [] ∨ 1 ≤ last := hc.2.imp (fun h => List.eq_nil_of_length_eq_zero (Nat.eq_of_beq_eq_true h)) Nat.le_of_ble_eq_true
            split at h
            · rename_i hl
              exact ok_nextAll hop hx (hh.2 _ _ hg) (hh.2 _ _ hgm) h2 (leftM_nil hl) G ρ w a hG hst he _ _ fun ρ' w' x s1 s2 s3 => hn _ _ h ρ' H w' x s1 s2 hh.same2 s3
            · rename_i hl
              have hex : ∃ i, i < es.length ∧ i ∉ seen := by
                cases hq : leftM seen es 0 with
                | nil => exact (hl hq).elim
                | cons q r =>
                  obtain ⟨i, g1, g2⟩ := leftM_ex es (n := 0) (q := q) (by rw [hq]; simp)
                  exact ⟨i, g1, by rw [Nat.zero_add] at g2; exact g2⟩
              refine ok_nextMany hop hx (hh.2 _ _ hg) (hh.2 _ _ hgm) h2 h1 hex hst he fun i key v g1 g2 ρ' w' x s1 s2 s3 => ?_
              have hm := mem_leftM es (n := 0) g1 (by rw [Nat.zero_add]; exact g2)
              rw [Nat.zero_add] at hm
              exact hn _ _ (allM_mem _ h _ hm) ρ' _ w' x s1 s2 (hh.put2 hg _) s3
          · exact h.elim
        · exact h.elim
      · exact h.elim
    · exact h.elim
  · rename_i x hop
    refine ⟨?_, fun c e => by rw [hop] at e; cases e⟩
    split at h
    · rename_i id hx
      split at h
      · rename_i m since seen last hg
        split at h
        · rename_i es hgm
          split at h
          · rename_i i hl
            split at h
            · rename_i key v hi
              rw [nth_eq] at hi
              split at h
              · rename_i hb
                have := Nat.eq_of_beq_eq_true hb
                subst this
                exact ok_entryMany hop hx (hh.2 _ _ hg) (hh.2 _ _ hgm) hl hi G ρ w a hG hst he _ _ fun ρ' w' x s1 s2 s3 => hn _ _ h ρ' H w' x s1 s2 hh.same2 s3
              · exact h.elim
            · exact h.elim
          · exact h.elim
        · exact h.elim
      · exact h.elim
    · exact h.elim
  · exact h.elim

end Go.Rc
