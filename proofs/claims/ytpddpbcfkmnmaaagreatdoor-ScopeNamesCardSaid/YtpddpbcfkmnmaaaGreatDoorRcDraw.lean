/- Regions whose order is left open: one run in the text's order, with checks that say that each order ends alike. Conditions: none. -/
import Derived.Test.YtpddpbcfkmnmaaaGreatDoorRcSame
set_option linter.unusedVariables false
set_option linter.unusedSimpArgs false
namespace Go.Rc

def bindsA (e : Edge) : Bool := match e.ground with
  | .textOnly _ => false
  | .gcOnly _ => false
  | _ => true

theorem bindsA_eq (e : Edge) : Region.binds .any e = bindsA e := by
  unfold Region.binds bindsA
  cases e.ground <;> rfl

/-- What must be ahead of an operation, as a number's bits. -/
def maskOf (ms : List Nat) : List Edge → Nat
  | [] => 0
  | e :: r => match bindsA e with
    | true => Nat.lor (Nat.lor (2 ^ e.on) (ms.getD e.on 0)) (maskOf ms r)
    | false => maskOf ms r

def masks : List Oper → List Nat → List Nat
  | [], ms => ms
  | o :: r, ms => masks r (ms ++ [maskOf ms o.after.toList])

/-- j must be ahead of i. -/
def bef (ms : List Nat) (j i : Nat) : Bool := Nat.testBit (ms.getD i 0) j

def edgesOk : List Oper → Nat → Bool
  | [], _ => true
  | o :: r, i => (o.after.toList.all fun e => !bindsA e || Nat.ble (e.on + 1) i) && edgesOk r (i + 1)

def findDst (t : Nat) : List Oper → Nat → Option Nat
  | [], _ => none
  | o :: r, k => match o.dst with
    | some d => match Nat.beq d t with
      | true => some k
      | false => findDst t r (k + 1)
    | none => findDst t r (k + 1)

/-- No two operations of a region write one temporary. -/
def dstsOk : List Oper → Bool
  | [] => true
  | o :: r => match o.dst with
    | some d => match findDst d r 0 with
      | some _ => false
      | none => dstsOk r
    | none => dstsOk r

/-- Operations that change memory stand in a chain. -/
def chainOk (ms : List Nat) : List Oper → Nat → List Nat → Bool
  | [], _, _ => true
  | o :: r, i, acts => match isAct o.op with
    | true => (acts.all fun j => bef ms j i) && chainOk ms r (i + 1) (i :: acts)
    | false => chainOk ms r (i + 1) acts

noncomputable def evJ (all : List Oper) (ms : List Nat) (env0 : Tr AV) (V : Nat → Option AV) (j : Nat) : Ev
  | .tmp t => match findDst t all 0 with
    | some k => match bef ms k j with
      | true => V k
      | false => match bef ms j k || Nat.beq k j with
        | true => env0.get t
        | false => none
    | none => env0.get t
  | x => evO env0 x

noncomputable def wantJ (all : List Oper) (ms : List Nat) (N : Nat) (V : Nat → Option AV) (j : Nat) (g : Option (Nat × Bool)) : Option Bool :=
  match g with
  | none => some true
  | some (k, want) => match bef ms k j with
    | true => match nth all k with
      | some o => match o.dst with
        | some d => match Nat.ble (d + 1) N with
          | true => match V k with
            | some (.d (.v (.bool b))) => match want with
              | true => some b
              | false => some (!b)
            | some (.d (.v (.tuple _))) => some false
            | _ => none
          | false => none
        | none => none
      | none => none
    | false => none

def cnt (p : Nat → Bool) : Nat → Nat
  | 0 => 0
  | n + 1 => match p n with
    | true => Nat.succ (cnt p n)
    | false => cnt p n

theorem cnt_mono {p q : Nat → Bool} {n : Nat} (h : ∀ j, j < n → p j = true → q j = true) : cnt p n ≤ cnt q n := by
  induction n with
  | zero => exact Nat.le_refl _
  | succ n ih =>
    have := ih (fun j hj => h j (by omega))
    simp only [cnt]
    cases hp : p n with
    | true => rw [h n (by omega) hp]; simp only; omega
    | false => cases q n <;> simp only <;> omega

theorem cnt_congr {p q : Nat → Bool} {n : Nat} (h : ∀ j, j < n → p j = q j) : cnt p n = cnt q n :=
  Nat.le_antisymm (cnt_mono fun j hj hp => by rw [← h j hj]; exact hp) (cnt_mono fun j hj hp => by rw [h j hj]; exact hp)

theorem cnt_flip {p q : Nat → Bool} {n i : Nat} (hi : i < n) (hp : p i = false) (hq : q i = true) (h : ∀ j, j < n → j ≠ i → p j = q j) : cnt q n = cnt p n + 1 := by
  induction n with
  | zero => omega
  | succ n ih =>
    simp only [cnt]
    by_cases hin : i = n
    · subst hin
      rw [hp, hq, cnt_congr (p := p) (q := q) (fun j hj => h j (by omega) (by omega))]
    · have := ih (by omega) (fun j hj => h j (by omega))
      rw [h n (by omega) (fun e => hin e.symm)]
      cases q n <;> simp only [this]

theorem cnt_zero {p : Nat → Bool} {n : Nat} (h : cnt p n = 0) : ∀ j, j < n → p j = false := by
  induction n with
  | zero => intro j hj; omega
  | succ n ih =>
    intro j hj
    simp only [cnt] at h
    cases hp : p n with
    | true => rw [hp] at h; simp at h
    | false =>
      rw [hp] at h
      by_cases e : j = n
      · rw [e]; exact hp
      · exact ih h j (by omega)

theorem cnt_pos {p : Nat → Bool} {n k : Nat} (h : cnt p n = k + 1) : ∃ j, j < n ∧ p j = true ∧ ∀ i, i < j → p i = false := by
  induction n generalizing k with
  | zero => simp [cnt] at h
  | succ n ih =>
    cases hz : cnt p n with
    | zero =>
      simp only [cnt] at h
      cases hp : p n with
      | true => exact ⟨n, by omega, hp, cnt_zero hz⟩
      | false => rw [hp] at h; simp only at h; omega
    | succ m =>
      obtain ⟨j, h1, h2, h3⟩ := ih hz
      exact ⟨j, by omega, h2, h3⟩

noncomputable def actAt (all : List Oper) (j : Nat) : Bool := match nth all j with
  | some o => isAct o.op
  | none => false

def undefA : AV := .d (.v undef)

/-- What a run in the text's order has found, and why each other order finds it. -/
structure Cert (T : Tb) (cf : FuncId → List AV → HS → CR) (all : List Oper) (ms : List Nat) (N : Nat) (env0 : Tr AV) (V : Nat → Option AV) (S : Nat → HS) : Prop where
  edges : ∀ (i : Nat) (o : Oper), all[i]? = some o → ∀ e, e ∈ o.after.toList → bindsA e = true → e.on < i
  mask : ∀ (i : Nat) (o : Oper), all[i]? = some o → ∀ j, bef ms j i = true → ∃ e, e ∈ o.after.toList ∧ bindsA e = true ∧ (j = e.on ∨ bef ms j e.on = true)
  dst : ∀ (t i : Nat) (o : Oper), all[i]? = some o → o.dst = some t → findDst t all 0 = some i
  dstN : ∀ (t i : Nat) (o : Oper), all[i]? = some o → o.dst = some t → t < N
  chain : ∀ (i j : Nat) (o o' : Oper), all[i]? = some o → all[j]? = some o' → i < j → isAct o.op = true → isAct o'.op = true → bef ms i j = true
  step : ∀ (i : Nat) (o : Oper), all[i]? = some o → match wantJ all ms N V i o.guard with
    | none => False
    | some false => V i = some undefA ∧ (isAct o.op = true → S (cnt (actAt all) i + 1) = S (cnt (actAt all) i))
    | some true => ∃ v, V i = some v ∧ match isAct o.op with
      | true => stepO T o.op (evJ all ms env0 V i) (S (cnt (actAt all) i)) = .ok v (S (cnt (actAt all) i + 1)) ∨
          ∃ f args, stepO T o.op (evJ all ms env0 V i) (S (cnt (actAt all) i)) = .call f args ∧ ∃ m, cf f args (S (cnt (actAt all) i)) = .ret v (S (cnt (actAt all) i + 1)) m
      | false => stepP T o.op (evJ all ms env0 V i) = some v ∨
          ∀ s, cnt (fun j => actAt all j && bef ms j i) all.length ≤ s → s ≤ cnt (fun j => actAt all j && !bef ms i j) all.length → stepO T o.op (evJ all ms env0 V i) (S s) = .ok v (S s)

def lst (listed : Array Bool) (i : Nat) : Bool := listed.getD i false

structure Inv (all : List Oper) (ms : List Nat) (N : Nat) (env0 : Tr AV) (V : Nat → Option AV) (S : Nat → HS) (G : Ctx) (ρ0 : List Value) (H0 : Heap) (w0 : World) (ds : List Df) (listed : Array Bool) (a : Act) (w : World) : Prop where
  size : listed.size = all.length
  closed : ∀ i, lst listed i = true → ∀ j, bef ms j i = true → lst listed j = true
  at_ : ∃ ρ H, Sat G ρ H w ∧ Step ρ0 ρ H0 H w0 w ∧ HtOk (S (cnt (fun j => actAt all j && lst listed j) all.length)) H ∧ a.tmps.size = N ∧ DsOk ρ (Fz G ρ H w) w ds a.defers ∧
    (∀ (j : Nat) (o : Oper) (d : Nat) (v : AV), all[j]? = some o → o.dst = some d → lst listed j = true → V j = some v → VR ρ (Fz G ρ H w) w v (a.tmps.getD d undef)) ∧
    (∀ t v, env0.get t = some v → (∀ (j : Nat) (o : Oper), all[j]? = some o → o.dst = some t → lst listed j = false) → t < N ∧ VR ρ (Fz G ρ H w) w v (a.tmps.getD t undef))

theorem findDst_some {t : Nat} : ∀ (l : List Oper) (k i : Nat), findDst t l k = some i → k ≤ i ∧ ∃ o, l[i - k]? = some o ∧ o.dst = some t := by
  intro l
  induction l with
  | nil => intro k i h; simp [findDst] at h
  | cons o r ih =>
    intro k i h
    simp only [findDst] at h
    have tail : findDst t r (k + 1) = some i → k ≤ i ∧ ∃ o', (o :: r)[i - k]? = some o' ∧ o'.dst = some t := by
      intro h
      obtain ⟨h1, o', h2, h3⟩ := ih (k + 1) i h
      refine ⟨by omega, o', ?_, h3⟩
      rw [show i - k = (i - (k + 1)) + 1 by omega]
      simpa using h2
    split at h
    · rename_i d hd
      split at h
      · rename_i hb
        cases h
        exact ⟨Nat.le_refl _, o, by simp, by rw [hd, Nat.eq_of_beq_eq_true hb]⟩
      · exact tail h
    · exact tail h

variable {P : Program} {T : Tb} {cf : FuncId → List AV → HS → CR} {ops : Array Oper} {all : List Oper} {ms : List Nat} {N : Nat} {env0 : Tr AV} {V : Nat → Option AV} {S : Nat → HS} {G : Ctx} {ρ0 : List Value} {H0 : Heap} {w0 : World} {ds : List Df}

theorem lst_set {listed : Array Bool} {i : Nat} (hi : i < listed.size) (j : Nat) : lst (listed.setIfInBounds i true) j = if j = i then true else lst listed j := by
  unfold lst
  simp only [Array.getD_eq_getD_getElem?]
  by_cases h : j = i
  · subst h; simp [hi]
  · rw [if_neg h, Array.getElem?_setIfInBounds_ne (fun e => h e.symm)]

theorem ready_iff {listed : Array Bool} (hall : ops.toList = all) (hs : listed.size = ops.size) (i : Nat) : i ∈ Region.ready .any ops listed ↔ ∃ o, all[i]? = some o ∧ lst listed i = false ∧ ∀ e, e ∈ o.after.toList → bindsA e = true → lst listed e.on = true := by
  unfold Region.ready
  simp only [List.mem_filter, List.mem_range, Bool.and_eq_true]
  constructor
  · rintro ⟨hi, h1, h2⟩
    have ho : ops[i]? = some ops[i] := by simp [hi]
    rw [ho] at h2
    refine ⟨ops[i], by rw [← hall]; simp [hi], ?_, fun e he hb => ?_⟩
    · unfold lst
      have hi' : i < listed.size := by omega
      simp only [Array.getD_eq_getD_getElem?, Array.getElem?_eq_getElem hi', Option.getD_some] at h1 ⊢
      simpa using h1
    · simp only [Option.map_some, Option.getD_some, Array.all_eq_true_iff_forall_mem] at h2
      have := h2 e (by simpa using he)
      rw [bindsA_eq, hb] at this
      simpa [lst] using this
  · rintro ⟨o, ho, h1, h2⟩
    have hi : i < ops.size := by
      have := (List.getElem?_eq_some_iff.1 ho).1
      rw [← hall] at this
      simpa using this
    have ho' : ops[i]? = some o := by rw [← hall] at ho; simpa using ho
    refine ⟨hi, ?_, ?_⟩
    · unfold lst at h1
      have hi' : i < listed.size := by omega
      simp only [Array.getD_eq_getD_getElem?, Array.getElem?_eq_getElem hi', Option.getD_some] at h1 ⊢
      simp [h1]
    · rw [ho']
      simp only [Option.map_some, Option.getD_some, Array.all_eq_true_iff_forall_mem]
      intro e he
      rw [bindsA_eq]
      cases hb : bindsA e with
      | false => rfl
      | true =>
        have := h2 e (by simpa using he) hb
        simpa [lst] using this

/-- What is listed ahead of an operation that may come next. -/
theorem ahead {listed : Array Bool} (C : Cert T cf all ms N env0 V S) (hcl : ∀ i, lst listed i = true → ∀ j, bef ms j i = true → lst listed j = true) {i : Nat} {o : Oper} (ho : all[i]? = some o)
    (hr : ∀ e, e ∈ o.after.toList → bindsA e = true → lst listed e.on = true) : ∀ j, bef ms j i = true → lst listed j = true := by
  intro j hj
  obtain ⟨e, h1, h2, h3⟩ := C.mask i o ho j hj
  rcases h3 with rfl | h3
  · exact hr e h1 h2
  · exact hcl _ (hr e h1 h2) j h3

theorem Inv.ev (C : Cert T cf all ms N env0 V S) {listed : Array Bool} {a : Act} {w : World} (I : Inv all ms N env0 V S G ρ0 H0 w0 ds listed a w) {i : Nat} {o : Oper} (ho : all[i]? = some o) (hi : lst listed i = false)
    (hr : ∀ e, e ∈ o.after.toList → bindsA e = true → lst listed e.on = true) {ρ : List Value} {H : Heap}
    (hv : ∀ (j : Nat) (o : Oper) (d : Nat) (v : AV), all[j]? = some o → o.dst = some d → lst listed j = true → V j = some v → VR ρ (Fz G ρ H w) w v (a.tmps.getD d undef))
    (hold : ∀ t v, env0.get t = some v → (∀ (j : Nat) (o : Oper), all[j]? = some o → o.dst = some t → lst listed j = false) → t < N ∧ VR ρ (Fz G ρ H w) w v (a.tmps.getD t undef)) :
    EvR ρ (Fz G ρ H w) w (evJ all ms env0 V i) a := by
  have hah := ahead C I.closed ho hr
  intro x y hx
  have hnt : ∀ x y, (∀ t, x ≠ .tmp t) → evO env0 x = some y → VR ρ (Fz G ρ H w) w y (a.eval x) := by
    intro x y hne hx
    cases x with
    | tmp t => exact (hne t rfl).elim
    | const v =>
      simp only [evO] at hx
      split at hx
      · cases hx
      · cases hx
        rename_i hv
        exact .d _ _ (.v _ hv)
    | global g => simp [evO] at hx
    | func f =>
      simp only [evO] at hx
      cases hx
      exact .fn f [] [] #[] #[] rfl rfl (fun i c x h => by simp at h) (fun i c x h => by simp at h)
  cases x with
  | tmp t =>
    simp only [evJ] at hx
    split at hx
    · rename_i k hk
      obtain ⟨_, ok, hok, hdk⟩ := findDst_some all 0 k hk
      rw [Nat.sub_zero] at hok
      split at hx
      · rename_i hb
        exact hv k ok t y hok hdk (hah k hb) hx
      · split at hx
        · rename_i hb
          refine (hold t y hx fun j o' hj hdj => ?_).2
          have : j = k := by
            have := C.dst t j o' hj hdj
            rw [hk] at this
            cases this
            rfl
          subst this
          simp only [Bool.or_eq_true] at hb
          rcases hb with hb | hb
          · cases hl : lst listed j with
            | false => rfl
            | true =>
              have := I.closed j hl i hb
              rw [hi] at this
              cases this
          · rw [Nat.eq_of_beq_eq_true hb]; exact hi
        · cases hx
    · rename_i hk
      refine (hold t y hx fun j o' hj hdj => ?_).2
      have := C.dst t j o' hj hdj
      rw [hk] at this
      cases this
  | const v => exact hnt _ _ (fun t h => by cases h) hx
  | global g => exact hnt _ _ (fun t h => by cases h) hx
  | func f => exact hnt _ _ (fun t h => by cases h) hx

theorem Inv.want (C : Cert T cf all ms N env0 V S) (hall : ops.toList = all) {listed : Array Bool} {a : Act} {w : World} (I : Inv all ms N env0 V S G ρ0 H0 w0 ds listed a w) {i : Nat} {o : Oper} (ho : all[i]? = some o)
    (hr : ∀ e, e ∈ o.after.toList → bindsA e = true → lst listed e.on = true) {ρ : List Value} {H : Heap} (hN : a.tmps.size = N)
    (hv : ∀ (j : Nat) (o : Oper) (d : Nat) (v : AV), all[j]? = some o → o.dst = some d → lst listed j = true → V j = some v → VR ρ (Fz G ρ H w) w v (a.tmps.getD d undef)) {b : Bool} (hw : wantJ all ms N V i o.guard = some b) :
    Region.wanted o (yielded ops a.tmps) = b := by
  have hah := ahead C I.closed ho hr
  unfold wantJ at hw
  unfold Region.wanted
  cases hg : o.guard with
  | none => rw [hg] at hw; simpa using hw
  | some p =>
    obtain ⟨k, want⟩ := p
    rw [hg] at hw
    simp only at hw ⊢
    split at hw
    · rename_i hb
      split at hw
      · rename_i ok hok
        rw [nth_eq] at hok
        split at hw
        · rename_i d hd
          split at hw
          · rename_i hdN
            have hlt : d < a.tmps.size := by rw [hN]; exact Nat.le_of_ble_eq_true hdN
            have hy : yielded ops a.tmps k = match a.tmps[d]? with | some (.bool b) => some b | _ => none := by
              unfold yielded
              rw [← hall] at hok
              rw [show ops[k]? = some ok by simpa using hok]
              simp only [Option.bind_some, hd]
              cases a.tmps[d]? with
              | none => rfl
              | some x => cases x <;> rfl
            split at hw
            · rename_i b' hb'
              have h2 := hv k ok d _ hok hd (hah k hb) hb'
              simp only [Array.getD_eq_getD_getElem?, Array.getElem?_eq_getElem hlt, Option.getD_some] at h2
              generalize hx : a.tmps[d] = x at h2
              cases h2 with
              | d _ _ hd =>
                generalize hbb : Value.bool b' = bb at hd
                cases hd
                rw [hy, Array.getElem?_eq_getElem hlt, hx, ← hbb]
                cases want <;> cases b' <;> cases b <;> simp at hw ⊢
            · rename_i us hb'
              have h2 := hv k ok d _ hok hd (hah k hb) hb'
              simp only [Array.getD_eq_getD_getElem?, Array.getElem?_eq_getElem hlt, Option.getD_some] at h2
              generalize hx : a.tmps[d] = x at h2
              cases h2 with
              | d _ _ hd => cases hd; rw [hy, Array.getElem?_eq_getElem hlt, hx]; cases hw; rfl
            · cases hw
          · cases hw
        · cases hw
      · cases hw
    · cases hw

end Go.Rc
