/- Maps with texts as keys: made, read, written. Conditions: none. -/
import Derived.Test.YtbdgmbaflfmooaaGreatDoorRcTab
set_option linter.unusedVariables false
set_option linter.unusedSimpArgs false
namespace Go.Rc

/-! ### texts as lists of bytes -/
def eqL : List UInt8 → List UInt8 → Bool
  | [], [] => true
  | a :: r, b :: s => match Nat.beq a.toNat b.toNat with
    | true => eqL r s
    | false => false
  | _, _ => false

theorem eqL_iff (a b : List UInt8) : eqL a b = decide (a = b) := by
  induction a generalizing b with
  | nil => cases b <;> simp [eqL]
  | cons x r ih =>
    cases b with
    | nil => simp [eqL]
    | cons y s =>
      simp only [eqL]
      split
      · rename_i h
        have h1 : x.toNat = y.toNat := Nat.eq_of_beq_eq_true h
        have h2 : x = y := UInt8.toNat_inj.1 h1
        subst h2
        rw [ih]
        simp
      · rename_i h
        have : x ≠ y := fun e => by subst e; exact absurd (Nat.beq_refl x.toNat) (by rw [h]; simp)
        simp [this]

def eqS (a b : ByteArray) : Bool := eqL a.data.toList b.data.toList

theorem eqS_eq (a b : ByteArray) : eqS a b = decide (a = b) := by
  unfold eqS
  rw [eqL_iff]
  by_cases h : a = b
  · subst h; simp
  · rw [decide_eq_false h, decide_eq_false (fun e => h (bytes_ext e))]

theorem eqS_refl (a : ByteArray) : eqS a a = true := by rw [eqS_eq]; simp

theorem beq_string (a b : ByteArray) : (a == b) = decide (a = b) := by
  cases a with
  | mk x => cases b with
    | mk y =>
      show ByteArray.beq ⟨x⟩ ⟨y⟩ = _
      have h : ByteArray.beq ⟨x⟩ ⟨y⟩ = (x == y) := rfl
      rw [h]
      by_cases e : x = y
      · subst e; simp
      · rw [decide_eq_false (fun h => e (by cases h; rfl))]
        exact beq_eq_false_iff_ne.2 e

/-- The place of a key, and what lies there. -/
def findA (s : ByteArray) : List (ByteArray × AV) → Nat → Option (Nat × AV)
  | [], _ => none
  | (k, v) :: r, i => match eqS k s with
    | true => some (i, v)
    | false => findA s r (i + 1)

theorem findNow_rel {ρ : List Value} {S : Nat → Prop} {w : World} (s : ByteArray) : ∀ (es : List (ByteArray × AV)) (ms : List MapEntry) (i : Nat), ms.length = es.length →
    (∀ (i : Nat) (k : ByteArray) (x : AV) (m : MapEntry), es[i]? = some (k, x) → ms[i]? = some m → m.key = .string k ∧ VR ρ S w x m.val) →
    match findA s es i with
    | none => Instr.findNow .string (.string s) ms i = some none
    | some (j, v) => ∃ x, Instr.findNow .string (.string s) ms i = some (some (j, x)) ∧ VR ρ S w v x ∧ i ≤ j ∧ (∃ k m, es[j - i]? = some (k, v) ∧ ms[j - i]? = some m ∧ m.val = x ∧ k = s) := by
  intro es
  induction es with
  | nil =>
    intro ms i hl h
    obtain rfl : ms = [] := List.eq_nil_of_length_eq_zero hl
    simp [findA, Instr.findNow]
  | cons p es ih =>
    intro ms i hl h
    obtain ⟨k, v⟩ := p
    cases ms with
    | nil => simp at hl
    | cons m ms =>
      obtain ⟨hk, hv⟩ := h 0 k v m rfl rfl
      simp only [findA, Instr.findNow, hk, Instr.sameNow]
      have hb : (s == k) = eqS k s := by
        rw [beq_string, eqS_eq]
        by_cases e : s = k
        · subst e; simp
        · rw [decide_eq_false e, decide_eq_false (fun h => e h.symm)]
      rw [hb]
      cases he : eqS k s with
      | true =>
        simp only
        refine ⟨m.val, rfl, hv, Nat.le_refl _, k, m, by simp, by simp, rfl, ?_⟩
        rw [eqS_eq] at he
        exact of_decide_eq_true he
      | false =>
        simp only
        have := ih ms (i + 1) (by simpa using hl) (fun j k x m h1 h2 => h (j + 1) k x m (by simpa using h1) (by simpa using h2))
        split at this
        · rename_i hf
          exact this
        · rename_i j v' hf
          obtain ⟨x, h1, h2, h3, k', m', h4, h5, h6, h7⟩ := this
          refine ⟨x, h1, h2, by omega, k', m', ?_, ?_, h6, h7⟩
          · rw [show j - i = (j - (i + 1)) + 1 by omega]; simpa using h4
          · rw [show j - i = (j - (i + 1)) + 1 by omega]; simpa using h5

variable {P : Program} {T : Tb} {o : Oper} {ev : Ev} {H : Heap}

theorem run_checkKey {k : TypeId} (hk : P.underlying k = some .string) (b : Bool) (s : ByteArray) (w : World) : (Instr.checkKey b 10000 k (.string s)).run P w = .ok () w := by
  show (Instr.checkKey b (9999 + 1) k (.string s)).run P w = .ok () w
  generalize 9999 = n
  simp [Instr.checkKey, run_underlying hk]

theorem run_zv {ρ : List Value} {S : Nat → Prop} {t : TypeId} {i : TI} {info : TypeInfo} {d : TypeDesc} (h : i.ok P t info d) (w : World) :
    ∃ x, (zeroValue t).run P w = .ok x w ∧ VR ρ S w (zv i) x := by
  refine ⟨_, run_zeroValue h w, ?_⟩
  unfold zv
  have hz : ∀ x, x ∈ i.z → DR S w (.v x) x := fun x hx => .v x (isAgg_of_one (h.z1 x hx))
  cases ha : i.agg with
  | true =>
    simp only [if_true]
    refine .d _ _ (.agg _ _ (by simp) fun j c x h1 h2 => ?_)
    simp only [List.getElem?_map, Option.map_eq_some_iff] at h1
    obtain ⟨y, hy, rfl⟩ := h1
    have : y = x := by simpa [hy] using h2
    subst this
    exact hz y (List.mem_of_getElem? hy)
  | false =>
    have h1 := h.one ha
    have h2 := h.zl
    rw [h1] at h2
    match hq : i.z, h2 with
    | [x], _ => exact .d _ _ (hz x (by simp [hq]))

theorem ok_makeMap {t : TypeId} (ho : o.op = .makeMap t none) : OpOk P o ev H (.mp H.length) (H ++ [.map []]) :=
  .of_run fun G ρ w a _ hs he => by
    obtain ⟨s1, s2⟩ := hs.alloc_own (.map #[] 0) (.map []) (.map (some w.heap.size)) rfl rfl (fun hs s =>
      ⟨w.heap.size, #[], 0, rfl, heap_alloc_new w _, rfl, fun i k x m h => by simp at h, fun i m h => by simp at h, rfl⟩)
    refine ⟨_, _, .map (some w.heap.size), by simp [execOp, ho, Instr.makeMap, run_newObj], s1, s2, .mp _ _ ?_⟩
    rw [← hs.len]
    simp

/-- What a lookup answers. -/
def lookA (i : TI) (ok : Bool) (f : Option (Nat × AV)) : AV :=
  match f with
  | some (_, v) => match ok with
    | true => .tup [v, .d (.v (.bool true))]
    | false => v
  | none => match ok with
    | true => .tup [zv i, .d (.v (.bool false))]
    | false => zv i

theorem tup2 {ρ : List Value} {S : Nat → Prop} {w : World} {v : AV} {x : Value} (h : VR ρ S w v x) (b : Bool) : VR ρ S w (.tup [v, .d (.v (.bool b))]) (.tuple #[x, .bool b]) := by
  refine .tup _ _ rfl fun i c y h1 h2 => ?_
  match i with
  | 0 => simp at h1 h2; subst h1 h2; exact h
  | 1 => simp at h1 h2; subst h1 h2; exact .d _ _ (.v _ rfl)
  | i + 2 => simp at h1

theorem ok_lookup {t k e : TypeId} {i ik ie : TI} {m x : Operand} {c : Bool} {id : Nat} {es : List (ByteArray × AV)} {s : ByteArray} (hT : TbOk P T) (ho : o.op = .lookup t m x c) (hi : T t = some i) (hk : i.k = .map k e)
    (hik : T k = some ik) (hkk : ik.k = .str) (hie : T e = some ie) (hm : ev m = some (.mp id)) (hH : H[id]? = some (.map es)) (hx : ev x = some (.d (.v (.string s)))) : OpOk P o ev H (lookA ie c (findA s es 0)) H := by
  obtain ⟨info, d, hok⟩ := hT t i hi
  obtain ⟨infok, dk, hokk⟩ := hT k ik hik
  obtain ⟨infoe, de, hoke⟩ := hT e ie hie
  have hfit := hok.k
  rw [hk] at hfit
  have hd : d = .map k e := hfit
  subst hd
  have hfitk := hokk.k
  rw [hkk] at hfitk
  have hdk : dk = .string := hfitk
  subst hdk
  refine .of_run fun G ρ w a _ hs he => ?_
  have h1 := he m _ hm
  have h2 := he.v hx
  generalize hma : a.eval m = ma at h1
  cases h1 with
  | mp _ r hr =>
    obtain ⟨r', ms, clock, e1, hh, hc⟩ := hs.obj id _ _ hH hr
    cases e1
    have hg : (getObj r).run P w = .ok (.map ms clock) w := by simp [getObj, Sem.run, hh]
    have hfind := findNow_rel (ρ := ρ) (S := Fz G ρ H w) (w := w) s es ms.toList 0 (by simpa using hc.1) (fun i k x m h1 h2 => hc.2.1 i k x m h1 (by simpa using h2))
    have hrun : ∃ y, (Instr.lookup t (.map (some r)) (.string s) c).run P w = .ok y w ∧ VR ρ (Fz G ρ H w) w (lookA ie c (findA s es 0)) y := by
      simp only [Instr.lookup, Sem.run_bind, run_underlying hok.und, Result.andThen_ok, hg, Sem.run_pure, run_checkKey hokk.und, Instr.findKey, run_underlying hokk.und]
      split at hfind
      · rename_i hf
        simp only [hf, lookA, hfind, Sem.run_pure, Result.andThen_ok, Sem.run_bind]
        obtain ⟨z, hz, hvz⟩ := run_zv (ρ := ρ) (S := Fz G ρ H w) hoke w
        cases c with
        | true => exact ⟨.tuple #[z, .bool false], by simp [hz], tup2 hvz _⟩
        | false => exact ⟨z, by simp [hz], hvz⟩
      · rename_i j v hf
        obtain ⟨y, h1, h2, _⟩ := hfind
        simp only [hf, lookA, h1, Sem.run_pure, Result.andThen_ok, Sem.run_bind]
        cases c with
        | true => exact ⟨.tuple #[y, .bool true], by simp, tup2 h2 _⟩
        | false => exact ⟨y, by simp, h2⟩
    obtain ⟨y, hy, hvy⟩ := hrun
    exact ⟨ρ, w, y, by simp only [execOp, ho, hma, h2, Sem.run_bind, hy, Result.andThen_ok, Sem.run_pure], hs, Step.refl ρ H w, hvy⟩

theorem ok_lookup_nil {t k e : TypeId} {i ik ie : TI} {m x : Operand} {c : Bool} {s : ByteArray} (hT : TbOk P T) (ho : o.op = .lookup t m x c) (hi : T t = some i) (hk : i.k = .map k e)
    (hik : T k = some ik) (hkk : ik.k = .str) (hie : T e = some ie) (hm : ev m = some (.d (.v (.map none)))) (hx : ev x = some (.d (.v (.string s)))) : OpOk P o ev H (lookA ie c none) H := by
  obtain ⟨info, d, hok⟩ := hT t i hi
  obtain ⟨infok, dk, hokk⟩ := hT k ik hik
  obtain ⟨infoe, de, hoke⟩ := hT e ie hie
  have hfit := hok.k
  rw [hk] at hfit
  have hd : d = .map k e := hfit
  subst hd
  have hfitk := hokk.k
  rw [hkk] at hfitk
  have hdk : dk = .string := hfitk
  subst hdk
  refine .pure fun ρ S w a he => ?_
  have h1 := he.v hm
  have h2 := he.v hx
  obtain ⟨z, hz, hvz⟩ := run_zv (ρ := ρ) (S := S) hoke w
  have hrun : ∃ y, (Instr.lookup t (.map none) (.string s) c).run P w = .ok y w ∧ VR ρ S w (lookA ie c none) y := by
    simp only [Instr.lookup, Sem.run_bind, run_underlying hok.und, Result.andThen_ok, Sem.run_pure, run_checkKey hokk.und, Instr.findKey, run_underlying hokk.und, Instr.findNow, lookA]
    cases c with
    | true => exact ⟨.tuple #[z, .bool false], by simp [hz], tup2 hvz _⟩
    | false => exact ⟨z, by simp [hz], hvz⟩
  obtain ⟨y, hy, hvy⟩ := hrun
  exact ⟨y, by simp only [execOp, ho, h1, h2, Sem.run_bind, hy, Result.andThen_ok, Sem.run_pure], hvy⟩

def updA (s : ByteArray) (v : AV) (es : List (ByteArray × AV)) : List (ByteArray × AV) :=
  match findA s es 0 with
  | some (j, _) => es.set j (s, v)
  | none => es ++ [(s, v)]

theorem ok_mapUpdate {t k e : TypeId} {i ik : TI} {m x y : Operand} {id : Nat} {es : List (ByteArray × AV)} {s : ByteArray} {v : AV} (hT : TbOk P T) (ho : o.op = .mapUpdate t m x y) (hi : T t = some i) (hk : i.k = .map k e)
    (hik : T k = some ik) (hkk : ik.k = .str) (hm : ev m = some (.mp id)) (hH : H[id]? = some (.map es)) (hx : ev x = some (.d (.v (.string s)))) (hy : ev y = some v) : OpOk P o ev H (.d (.v undef)) (H.set id (.map (updA s v es))) := by
  obtain ⟨info, d, hok⟩ := hT t i hi
  obtain ⟨infok, dk, hokk⟩ := hT k ik hik
  have hfit := hok.k
  rw [hk] at hfit
  have hd : d = .map k e := hfit
  subst hd
  have hfitk := hokk.k
  rw [hkk] at hfitk
  have hdk : dk = .string := hfitk
  subst hdk
  refine .of_skip fun G ρ w a _ hs he => ?_
  have h1 := he m _ hm
  have h2 := he.v hx
  have h3 := he y _ hy
  generalize hma : a.eval m = ma at h1
  cases h1 with
  | mp _ r hr =>
    obtain ⟨r', ms, clock, e1, hh, hc⟩ := hs.obj id _ _ hH hr
    cases e1
    have hrlt : r < w.heap.size := (Array.getElem?_eq_some_iff.1 hh).1
    have hg : (getObj r).run P w = .ok (.map ms clock) w := by simp [getObj, Sem.run, hh]
    have hfind := findNow_rel (ρ := ρ) (S := Fz G ρ H w) (w := w) s es ms.toList 0 (by simpa using hc.1) (fun i k x m h1 h2 => hc.2.1 i k x m h1 (by simpa using h2))
    have hset : ∀ (ms' : Array MapEntry) (clock' : Nat), (setObj r (.map ms' clock')).run P w = .ok () { w with heap := w.heap.setIfInBounds r (.map ms' clock') } := by
      intro ms' clock'
      unfold setObj
      simp [Sem.run, hh]
    have fin : ∀ (ms' : Array MapEntry) (clock' : Nat) (es' : List (ByteArray × AV)), MapCells ρ (Fz G ρ H w) w es' ms' clock' → (Instr.mapUpdate t (.map (some r)) (.string s) (a.eval y)).run P w = .ok () { w with heap := w.heap.setIfInBounds r (.map ms' clock') } →
        ∃ ρ' w', (execOp a.eval o).run P w = .ok .skip w' ∧ Sat G ρ' (H.set id (.map es')) w' ∧ Step ρ ρ' H (H.set id (.map es')) w w' := by
      intro ms' clock' es' hmc hrun
      obtain ⟨s1, s2⟩ := hs.change (w' := { w with heap := w.heap.setIfInBounds r (.map ms' clock') }) hH hr (.map es') (.map (some r)) rfl rfl rfl (by simp)
        (fun b hb hne => by
          have : r ≠ b := fun e => hne rfl (by rw [e]; rfl)
          simp [Array.getElem?_setIfInBounds_ne this]) (fun b _ hb => .inl ⟨rfl, hb⟩) (.inl rfl)
        (fun hk hrp => ⟨r, ms', clock', rfl, by simp [hrlt], hmc.keep hrp hk⟩)
      exact ⟨_, _, by simp only [execOp, ho, hma, h2, Sem.run_bind, hrun, Result.andThen_ok, Sem.run_pure], s1, s2⟩
    split at hfind
    · rename_i hf
      have hu : updA s v es = es ++ [(s, v)] := by simp [updA, hf]
      rw [hu]
      refine fin (ms.push { key := .string s, val := a.eval y, born := clock }) (clock + 1) _ ?_ ?_
      · have hg2 : ∀ (i : Nat) (m : MapEntry), (ms.push { key := .string s, val := a.eval y, born := clock })[i]? = some m → (i < ms.size ∧ ms[i]? = some m) ∨ (i = ms.size ∧ m = { key := .string s, val := a.eval y, born := clock }) := by
          intro i m hm
          rw [Array.getElem?_push] at hm
          split at hm
          · rename_i e
            cases hm
            exact .inr ⟨e, rfl⟩
          · exact .inl ⟨(Array.getElem?_eq_some_iff.1 hm).1, hm⟩
        refine ⟨by simp [hc.1], fun i k x m p q => ?_, fun i m q => ?_, by simp [hc.2.2.2]⟩
        · rcases hg2 i m q with ⟨a1, a2⟩ | ⟨a1, a2⟩
          · rw [List.getElem?_append_left (by rw [← hc.1]; exact a1)] at p
            exact hc.2.1 i k x m p a2
          · subst a1 a2
            rw [hc.1, List.getElem?_append_right (Nat.le_refl _)] at p
            simp at p
            obtain ⟨rfl, rfl⟩ := p
            exact ⟨rfl, h3⟩
        · rcases hg2 i m q with ⟨a1, a2⟩ | ⟨a1, a2⟩
          · exact hc.2.2.1 i m a2
          · subst a2
            simp [hc.2.2.2, a1]
      · simp only [Instr.mapUpdate, Sem.run_bind, run_underlying hok.und, Result.andThen_ok, hg, Sem.run_pure, run_checkKey hokk.und, Instr.findKey, run_underlying hokk.und, hfind, hset]
    · rename_i j v0 hf
      obtain ⟨y0, hfn, hvy, _, k0, m0, hek, hmk, hmv, rfl⟩ := hfind
      simp only [Nat.sub_zero] at hek hmk
      have hmk' : ms[j]? = some m0 := by simpa using hmk
      have hjl := (Array.getElem?_eq_some_iff.1 hmk').1
      have hkey := (hc.2.1 j k0 v0 m0 hek hmk').1
      have hu : updA k0 v es = es.set j (k0, v) := by simp [updA, hf]
      rw [hu]
      refine fin (ms.modify j fun e => { e with key := .string k0, val := a.eval y }) clock _ ?_ ?_
      · have hg2 : ∀ (i : Nat) (m : MapEntry), (ms.modify j fun e => { e with key := .string k0, val := a.eval y })[i]? = some m → (i ≠ j ∧ ms[i]? = some m) ∨ (i = j ∧ m = { m0 with key := .string k0, val := a.eval y }) := by
          intro i m hm
          rw [Array.getElem?_modify] at hm
          split at hm
          · rename_i e
            subst e
            rw [hmk'] at hm
            simp at hm
            exact .inr ⟨rfl, hm.symm⟩
          · rename_i e
            exact .inl ⟨fun h => e h.symm, hm⟩
        refine ⟨by simp [hc.1], fun i k x m p q => ?_, fun i m q => ?_, by simp [hc.2.2.2]⟩
        · rcases hg2 i m q with ⟨a1, a2⟩ | ⟨a1, a2⟩
          · rw [List.getElem?_set_ne (fun e => a1 e.symm)] at p
            exact hc.2.1 i k x m p a2
          · subst a1 a2
            rw [List.getElem?_set_self (by rw [← hc.1]; exact hjl)] at p
            simp at p
            obtain ⟨rfl, rfl⟩ := p
            exact ⟨rfl, h3⟩
        · rcases hg2 i m q with ⟨a1, a2⟩ | ⟨a1, a2⟩
          · exact hc.2.2.1 i m a2
          · subst a1 a2
            exact hc.2.2.1 i m0 hmk'
      · have hstay : (Instr.keyThatStays (((ms[j]?).map (·.key)).getD (.string k0)) (.string k0)).run P w = .ok (.string k0) w := by
          rw [hmk']
          simp only [Option.map_some, Option.getD_some, hkey]
          show (Instr.keyThatStays (.string k0) (.string k0)).run P w = .ok (.string k0) w
          unfold Instr.keyThatStays
          have : Instr.sameBits 10000 (.string k0) (.string k0) = true := by
            show Instr.sameBits (9999 + 1) (.string k0) (.string k0) = true
            generalize 9999 = n
            simp [Instr.sameBits, beq_string]
          rw [this]
          rfl
        simp only [Instr.mapUpdate, Sem.run_bind, run_underlying hok.und, Result.andThen_ok, hg, Sem.run_pure, run_checkKey hokk.und, Instr.findKey, run_underlying hokk.und, hfn, hstay, hset]

end Go.Rc
