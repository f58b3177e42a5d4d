/- Ranges over texts and small maps, windows of rows, comparisons, bytes that become a text. Conditions: none. -/
import Derived.Test.YtbdgmbaflfmooaaGreatDoorRcMaps
import Derived.Laws.RangeString
set_option linter.unusedVariables false
set_option linter.unusedSimpArgs false
namespace Go.Rc

variable {P : Program} {T : Tb} {o : Oper} {ev : Ev} {H : Heap}

theorem set_same {ρ : List Value} {id : Nat} {x : Value} (h : ρ[id]? = some x) : ρ.set id x = ρ := by
  apply List.ext_getElem?
  intro j
  by_cases hj : id = j
  · subst hj
    rw [List.getElem?_set_self (List.getElem?_eq_some_iff.1 h).1, h]
  · rw [List.getElem?_set_ne hj]

theorem run_setObj {w : World} {r : Nat} {o' : Obj} (hr : r < w.heap.size) (hc : ∀ c e f, w.heap[r]? ≠ some (.cells c e f)) (x : Obj) : (setObj r x).run P w = .ok () { w with heap := w.heap.setIfInBounds r x } := by
  unfold setObj
  have h : w.heap[r]? = some w.heap[r] := by simp [hr]
  cases hx : w.heap[r] <;> simp [Sem.run, hr, hx]
  exact (hc _ _ _ (h.trans (by rw [hx]))).elim

theorem ok_rangeStr {t : TypeId} {i : TI} {x : Operand} {s : ByteArray} (hT : TbOk P T) (ho : o.op = .range t x) (hi : T t = some i) (hk : i.k = .str) (hx : ev x = some (.d (.v (.string s)))) :
    OpOk P o ev H (.ptr H.length 0) (H ++ [.it s 0]) :=
  .of_run fun G ρ w a _ hs he => by
    obtain ⟨info, d, hok⟩ := hT t i hi
    have hfit := hok.k
    rw [hk] at hfit
    have hd : d = .string := hfit
    subst hd
    obtain ⟨s1, s2⟩ := hs.alloc_own (.stringIter s 0) (.it s 0) (.pointer (some ⟨w.heap.size, 0, none⟩)) rfl rfl (fun hs s => ⟨w.heap.size, rfl, heap_alloc_new w _⟩)
    refine ⟨_, _, .pointer (some ⟨w.heap.size, 0, none⟩), by simp [execOp, ho, he.v hx, Instr.range, run_underlying hok.und, run_newObj], s1, s2, .ptr _ 0 w.heap.size ?_⟩
    rw [← hs.len]
    simp

theorem tupD {ρ : List Value} {S : Nat → Prop} {w : World} {xs : List AV} {vs : List Value} (h : AllR (VR ρ S w) xs vs) : VR ρ S w (.tup xs) (.tuple vs.toArray) :=
  .tup _ _ (by simpa using h.1) fun i c x h1 h2 => h.2 i c x h1 (by simpa using h2)

theorem dv {ρ : List Value} {S : Nat → Prop} {w : World} (x : Value) (h : x.isAgg = false) : VR ρ S w (.d (.v x)) x := .d _ _ (.v _ h)

theorem iter_at {G : Ctx} {ρ : List Value} {w : World} {a : Act} {x : Operand} {id : Nat} (he : EvR ρ (Fz G ρ H w) w ev a) (hx : ev x = some (.ptr id 0)) :
    ∃ b, ρ[id]? = some (.pointer (some ⟨b, 0, none⟩)) ∧ a.eval x = .pointer (some ⟨b, 0, none⟩) := by
  have h := he x _ hx
  generalize a.eval x = y at h
  cases h with
  | ptr _ _ b hb => exact ⟨b, hb, rfl⟩

theorem ok_nextStr {x : Operand} {id pos : Nat} {s : ByteArray} {b : UInt8} (ho : o.op = .next x true) (hx : ev x = some (.ptr id 0)) (hH : H[id]? = some (.it s pos)) (hb : s.data.toList[pos]? = some b) (hlt : b.toNat < 128) :
    OpOk P o ev H (.tup [.d (.v (.bool true)), .d (.v (.int .i64 (Int.ofNat pos))), .d (.v (.int .i32 (Int.ofNat b.toNat)))]) (H.set id (.it s (pos + 1))) :=
  .of_run fun G ρ w a _ hs he => by
    obtain ⟨r, hρ, hxa⟩ := iter_at he hx
    obtain ⟨r', e, hh⟩ := hs.obj id _ _ hH hρ
    cases e
    have hrl : r < w.heap.size := (Array.getElem?_eq_some_iff.1 hh).1
    have hps : pos < s.size := by
      have h1 := (List.getElem?_eq_some_iff.1 hb).1
      have : s.data.toList.length = s.size := by rw [Array.length_toList]; rfl
      omega
    have hbe : s[pos]'hps = b := by
      have h2 := (List.getElem?_eq_some_iff.1 hb).2
      rw [← h2]
      simp
      rfl
    have hdec := decode_ascii s pos hps (by rw [hbe]; exact hlt)
    rw [hbe] at hdec
    have hg : (getObj r).run P w = .ok (.stringIter s pos) w := by simp [getObj, Sem.run, hh]
    have hst := run_setObj (P := P) (o' := .stringIter s pos) hrl (fun c e f h => by rw [hh] at h; cases h) (.stringIter s (pos + 1))
    obtain ⟨s1, s2⟩ := hs.change (w' := { w with heap := w.heap.setIfInBounds r (.stringIter s (pos + 1)) }) hH hρ (.it s (pos + 1)) (.pointer (some ⟨r, 0, none⟩)) rfl rfl rfl (by simp)
      (fun k hk hne => by
        have : r ≠ k := fun e => hne rfl (by rw [e]; rfl)
        simp [Array.getElem?_setIfInBounds_ne this]) (fun k _ hk => .inl ⟨rfl, hk⟩) (.inl rfl)
      (fun hk hrp => ⟨r, rfl, by simp [hrl]⟩)
    refine ⟨_, _, .tuple #[.bool true, .int .i64 (Int.ofNat pos), .int .i32 (Int.ofNat b.toNat)], ?_, s1, s2, tupD (.cons (dv _ rfl) (.cons (dv _ rfl) (.cons (dv _ rfl) .nil)))⟩
    simp only [execOp, ho, hxa, Instr.next, Sem.run_bind, hg, Result.andThen_ok, hps, if_true, hdec, hst, Sem.run_pure]
    rfl

theorem ok_nextEnd {x : Operand} {id pos : Nat} {s : ByteArray} (ho : o.op = .next x true) (hx : ev x = some (.ptr id 0)) (hH : H[id]? = some (.it s pos)) (hb : s.data.toList[pos]? = none) :
    OpOk P o ev H (.tup [.d (.v (.bool false))]) H :=
  .of_run fun G ρ w a _ hs he => by
    obtain ⟨r, hρ, hxa⟩ := iter_at he hx
    obtain ⟨r', e, hh⟩ := hs.obj id _ _ hH hρ
    cases e
    have hps : ¬ pos < s.size := by
      have h1 := List.getElem?_eq_none_iff.1 hb
      have : s.data.toList.length = s.size := by rw [Array.length_toList]; rfl
      omega
    have hg : (getObj r).run P w = .ok (.stringIter s pos) w := by simp [getObj, Sem.run, hh]
    refine ⟨ρ, w, .tuple #[.bool false], ?_, hs, Step.refl ρ H w, tupD (.cons (dv _ rfl) .nil)⟩
    simp only [execOp, ho, hxa, Instr.next, Sem.run_bind, hg, Result.andThen_ok, hps, if_false, Sem.run_pure]

/-! ### maps of one entry at most -/
theorem ok_rangeMap {t k e : TypeId} {i : TI} {x : Operand} {id : Nat} {es : List (ByteArray × AV)} (hT : TbOk P T) (ho : o.op = .range t x) (hi : T t = some i) (hk : i.k = .map k e) (hx : ev x = some (.mp id)) (hH : H[id]? = some (.map es)) :
    OpOk P o ev H (.ptr H.length 0) (H ++ [.mit id es.length [] es.length]) :=
  .of_run fun G ρ w a _ hs he => by
    obtain ⟨info, d, hok⟩ := hT t i hi
    have hfit := hok.k
    rw [hk] at hfit
    have hd : d = .map k e := hfit
    subst hd
    have h1 := he x _ hx
    generalize hxa : a.eval x = y at h1
    cases h1 with
    | mp _ r hr =>
      obtain ⟨r', ms, clock, e1, hh, hc⟩ := hs.obj id _ _ hH hr
      cases e1
      have hg : (getObj r).run P w = .ok (.map ms clock) w := by simp [getObj, Sem.run, hh]
      have hcl : clock = es.length := by rw [hc.2.2.2, hc.1]
      obtain ⟨s1, s2⟩ := hs.alloc_own (.mapIter (some r) clock #[] clock) (.mit id es.length [] es.length) (.pointer (some ⟨w.heap.size, 0, none⟩)) rfl rfl (fun hs s =>
        ⟨w.heap.size, r, rfl, by rw [List.getElem?_append_left (List.getElem?_eq_some_iff.1 hr).1]; exact hr, by rw [← hcl]; exact heap_alloc_new w _⟩)
      refine ⟨_, _, .pointer (some ⟨w.heap.size, 0, none⟩), by simp [execOp, ho, hxa, Instr.range, run_underlying hok.und, hg, run_newObj], s1, s2, .ptr _ 0 w.heap.size ?_⟩
      rw [← hs.len]
      simp

theorem run_choose1 (w : World) : (choose (.mapNext 1)).run P w = .ok 0 w := by
  simp [choose, Sem.run, Question.forced]

theorem filt0 (p : MapEntry → Bool) : Array.filter p #[] 0 0 = #[] := rfl
theorem filt1 (p : MapEntry → Bool) (e : MapEntry) : Array.filter p #[e] 0 1 = if p e then #[e] else #[] := by
  have : Array.filter p #[e] = if p e then #[e] else #[] := by cases h : p e <;> simp [h]
  exact this
theorem sz0 : (#[] : Array MapEntry).size = 0 := rfl
theorem sz1 (e : MapEntry) : (#[e] : Array MapEntry).size = 1 := rfl
theorem all1 (p : MapEntry → Bool) (e : MapEntry) : Array.all #[e] p = p e := by simp

/-- The iterator and its map, in memory. -/
theorem mit_at {G : Ctx} {ρ : List Value} {w : World} {a : Act} {x : Operand} {id m since last : Nat} {seen : List Nat} {es : List (ByteArray × AV)} (hs : Sat G ρ H w) (he : EvR ρ (Fz G ρ H w) w ev a) (hx : ev x = some (.ptr id 0))
    (hH : H[id]? = some (.mit m since seen last)) (hM : H[m]? = some (.map es)) :
    ∃ r b ms, ρ[id]? = some (.pointer (some ⟨r, 0, none⟩)) ∧ a.eval x = .pointer (some ⟨r, 0, none⟩) ∧ ρ[m]? = some (.map (some b)) ∧ w.heap[r]? = some (.mapIter (some b) since seen.toArray last) ∧
      w.heap[b]? = some (.map ms ms.size) ∧ MapCells ρ (Fz G ρ H w) w es ms ms.size := by
  obtain ⟨r, hρ, hxa⟩ := iter_at he hx
  obtain ⟨r', b, e, hm, hh⟩ := hs.obj id _ _ hH hρ
  cases e
  obtain ⟨b', ms, clock, e, hb, hc⟩ := hs.obj m _ _ hM hm
  cases e
  have := hc.2.2.2
  subst this
  exact ⟨r, b, ms, hρ, hxa, hm, hh, hb, hc⟩

theorem ok_next0 {x : Operand} {id m since last : Nat} (ho : o.op = .next x false) (hx : ev x = some (.ptr id 0)) (hH : H[id]? = some (.mit m since [] last)) (hM : H[m]? = some (.map [])) :
    OpOk P o ev H (.tup [.d (.v (.bool false))]) H :=
  .of_run fun G ρ w a _ hs he => by
    obtain ⟨r, b, ms, hρ, hxa, hm, hh, hb, hc⟩ := mit_at hs he hx hH hM
    have h0 : ms = #[] := Array.eq_empty_of_size_eq_zero hc.1
    subst h0
    have hg : (getObj r).run P w = .ok (.mapIter (some b) since #[] last) w := by simp [getObj, Sem.run, hh]
    have hgb : (getObj b).run P w = .ok (.map #[] 0) w := by simp [getObj, Sem.run, hb]
    refine ⟨ρ, w, .tuple #[.bool false], ?_, hs, Step.refl ρ H w, tupD (.cons (dv _ rfl) .nil)⟩
    simp only [execOp, ho, hxa, Instr.next, Sem.run_bind, hg, Result.andThen_ok, hgb, sz0, filt0]
    simp [run_choose1, show (Question.mapNext 1).forced = true from rfl]

theorem ok_next1 {x : Operand} {id m since last : Nat} {k : ByteArray} {v : AV} (ho : o.op = .next x false) (hx : ev x = some (.ptr id 0)) (hH : H[id]? = some (.mit m since [] last)) (hM : H[m]? = some (.map [(k, v)])) (hsn : 1 ≤ since) :
    OpOk P o ev H (.tup [.d (.v (.bool true)), .d (.v (.string k)), v]) (H.set id (.mit m since [0] 1)) :=
  .of_run fun G ρ w a _ hs he => by
    obtain ⟨r, b, ms, hρ, hxa, hm, hh, hb, hc⟩ := mit_at hs he hx hH hM
    have hsz : ms.size = 1 := hc.1
    obtain ⟨e, rfl⟩ : ∃ e, ms = #[e] := by
      cases ms with
      | mk l => match l, hsz with
        | [e], _ => exact ⟨e, rfl⟩
    obtain ⟨hke, hve⟩ := hc.2.1 0 k v e rfl rfl
    have hbe := hc.2.2.1 0 e rfl
    have hrl : r < w.heap.size := (Array.getElem?_eq_some_iff.1 hh).1
    have hg : (getObj r).run P w = .ok (.mapIter (some b) since #[] last) w := by simp [getObj, Sem.run, hh]
    have hgb : (getObj b).run P w = .ok (.map #[e] 1) w := by
      have hb' : w.heap[b]? = some (.map #[e] 1) := hb
      simp [getObj, Sem.run, hb']
    have hst := run_setObj (P := P) (w := w) (o' := .map #[] 0) hrl (fun c e f h => by rw [hh] at h; cases h) (.mapIter (some b) since #[0] 1)
    obtain ⟨s1, hst2⟩ := hs.change (w' := { w with heap := w.heap.setIfInBounds r (.mapIter (some b) since #[0] 1) }) hH hρ (.mit m since [0] 1) (.pointer (some ⟨r, 0, none⟩)) rfl rfl rfl (by simp)
      (fun k hk hne => by
        have : r ≠ k := fun e => hne rfl (by rw [e]; rfl)
        simp [Array.getElem?_setIfInBounds_ne this]) (fun k _ hk => .inl ⟨rfl, hk⟩) (.inl rfl)
      (fun hk hrp => by
        obtain ⟨h', h1, e⟩ := hrp m _ hm
        rcases e with rfl | ⟨_, _, _, _, _, _, e, _⟩ | e
        · exact ⟨r, b, rfl, h1, by simp [hrl]⟩
        · cases e
        · cases e)
    refine ⟨_, _, .tuple #[.bool true, .string k, e.val], ?_, s1, hst2, tupD (.cons (dv _ rfl) (.cons (dv _ rfl) (.cons (hve.keep hst2.rp (hs.kp hst2)) .nil)))⟩
    have h1 : decide (e.born < since) = true := by rw [hbe]; exact decide_eq_true (by omega)
    have h2 : decide (since ≤ e.born) = false := by rw [hbe]; exact decide_eq_false (by omega)
    have h3 : (#[] : Array Nat).contains e.born = false := by simp
    simp only [execOp, ho, hxa, Instr.next, Sem.run_bind, hg, Result.andThen_ok, hgb, sz1, filt1, h3, h1, h2, Bool.not_false, if_true, ge_iff_le, Bool.false_eq_true, if_false, filt0, sz0]
    simp [run_choose1, show (Question.mapNext 1).forced = true from rfl, hbe, hst, hke]

theorem ok_nextOver {x : Operand} {id m since last : Nat} {k : ByteArray} {v : AV} (ho : o.op = .next x false) (hx : ev x = some (.ptr id 0)) (hH : H[id]? = some (.mit m since [0] last)) (hM : H[m]? = some (.map [(k, v)])) (hl : 1 ≤ last) :
    OpOk P o ev H (.tup [.d (.v (.bool false))]) H :=
  .of_run fun G ρ w a _ hs he => by
    obtain ⟨r, b, ms, hρ, hxa, hm, hh, hb, hc⟩ := mit_at hs he hx hH hM
    have hsz : ms.size = 1 := hc.1
    obtain ⟨e, rfl⟩ : ∃ e, ms = #[e] := by
      cases ms with
      | mk l => match l, hsz with
        | [e], _ => exact ⟨e, rfl⟩
    have hbe := hc.2.2.1 0 e rfl
    have hg : (getObj r).run P w = .ok (.mapIter (some b) since #[0] last) w := by simp [getObj, Sem.run, hh]
    have hgb : (getObj b).run P w = .ok (.map #[e] 1) w := by
      have hb' : w.heap[b]? = some (.map #[e] 1) := hb
      simp [getObj, Sem.run, hb']
    refine ⟨ρ, w, .tuple #[.bool false], ?_, hs, Step.refl ρ H w, tupD (.cons (dv _ rfl) .nil)⟩
    have h2 : decide (last ≤ e.born) = false := by rw [hbe]; exact decide_eq_false (by omega)
    have h3 : (#[0] : Array Nat).contains e.born = true := by simp [hbe]
    have h4 : Array.all #[e] (fun x => decide (x.born ≥ last)) 0 1 = false := by
      have := all1 (fun x => decide (x.born ≥ last)) e
      rw [show Array.all #[e] (fun x => decide (x.born ≥ last)) 0 1 = Array.all #[e] (fun x => decide (x.born ≥ last)) from rfl, this]
      exact h2
    simp only [execOp, ho, hxa, Instr.next, Sem.run_bind, hg, Result.andThen_ok, hgb, sz1, filt1, h3, h4, Bool.not_true, Bool.and_false, Bool.false_eq_true, if_false, filt0, sz0]
    simp [run_choose1, show (Question.mapNext 1).forced = true from rfl]

theorem ok_entry {x : Operand} {id m since : Nat} {k : ByteArray} {v : AV} (ho : o.op = .entry x) (hx : ev x = some (.ptr id 0)) (hH : H[id]? = some (.mit m since [0] 1)) (hM : H[m]? = some (.map [(k, v)])) :
    OpOk P o ev H (.tup [.d (.v (.string k)), v]) H :=
  .of_run fun G ρ w a _ hs he => by
    obtain ⟨r, b, ms, hρ, hxa, hm, hh, hb, hc⟩ := mit_at hs he hx hH hM
    have hsz : ms.size = 1 := hc.1
    obtain ⟨e, rfl⟩ : ∃ e, ms = #[e] := by
      cases ms with
      | mk l => match l, hsz with
        | [e], _ => exact ⟨e, rfl⟩
    obtain ⟨hke, hve⟩ := hc.2.1 0 k v e rfl rfl
    have hbe := hc.2.2.1 0 e rfl
    have hg : (getObj r).run P w = .ok (.mapIter (some b) since #[0] 1) w := by simp [getObj, Sem.run, hh]
    have hgb : (getObj b).run P w = .ok (.map #[e] 1) w := by
      have hb' : w.heap[b]? = some (.map #[e] 1) := hb
      simp [getObj, Sem.run, hb']
    refine ⟨ρ, w, .tuple #[.string k, e.val], ?_, hs, Step.refl ρ H w, tupD (.cons (dv _ rfl) (.cons hve .nil))⟩
    simp only [execOp, ho, hxa, Instr.entry, Sem.run_bind, hg, Result.andThen_ok, hgb]
    simp [hbe, hke, hgb]

end Go.Rc
