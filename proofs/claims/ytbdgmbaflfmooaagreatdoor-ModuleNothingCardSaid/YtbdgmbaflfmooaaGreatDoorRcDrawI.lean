/- Regions whose order is left open, part 3: each order ends alike. Conditions: none. -/
import Derived.Test.YtbdgmbaflfmooaaGreatDoorRcDrawR
set_option linter.unusedVariables false
set_option linter.unusedSimpArgs false
namespace Go.Rc

structure RGok (g : RG) (N : Nat) : Prop where
  edges : ∀ (i : Nat) (o : Oper), g.all[i]? = some o → ∀ e, e ∈ o.after.toList → bindsA e = true → e.on < i
  mask : ∀ (i : Nat) (o : Oper), g.all[i]? = some o → ∀ j, bef g.ms j i = true → ∃ e, e ∈ o.after.toList ∧ bindsA e = true ∧ (j = e.on ∨ bef g.ms j e.on = true)
  dst : ∀ (t i : Nat) (o : Oper), g.all[i]? = some o → o.dst = some t → findDst t g.all 0 = some i
  dstN : ∀ (t i : Nat) (o : Oper), g.all[i]? = some o → o.dst = some t → t < N
  chain : g.acts.Pairwise fun a b => bef g.ms a b = true
  part : ∀ (i : Nat) (o : Oper), g.all[i]? = some o → i ∈ g.acts ∨ i ∈ g.oths
  disj : ∀ i, i ∈ g.acts → i ∉ g.oths
  nodA : g.acts.Nodup
  nodO : g.oths.Nodup
  fl : ∀ (p f : Nat), g.fl[p]? = some f → slotOf f g.fl g.n0 = some (g.n0 + p) ∧ f ∈ g.oths
  D : ∀ id, id ∈ g.D → id < g.n0
  ol : ∀ i, i ∈ g.oths → i < g.all.length

theorem slotOf_some {i : Nat} : ∀ {l : List Nat} {n s : Nat}, slotOf i l n = some s → ∃ p, l[p]? = some i ∧ s = n + p := by
  intro l
  induction l with
  | nil => intro n s h; simp [slotOf] at h
  | cons f r ih =>
    intro n s h
    simp only [slotOf] at h
    split at h
    · rename_i hb
      cases h
      exact ⟨0, by simp [Nat.eq_of_beq_eq_true hb], rfl⟩
    · obtain ⟨p, h1, h2⟩ := ih h
      exact ⟨p + 1, by simpa using h1, by omega⟩

theorem mem_slotsNot {ms : List Nat} {i : Nat} : ∀ {l : List Nat} {n p f : Nat}, l[p]? = some f → bef ms f i = false → n + p ∈ slotsNot ms i l n := by
  intro l
  induction l with
  | nil => intro n p f h; simp at h
  | cons a r ih =>
    intro n p f h hb
    cases p with
    | zero =>
      simp at h
      subst h
      simp only [slotsNot, hb]
      simp
    | succ p =>
      have := ih (n := n + 1) (p := p) (f := f) (by simpa using h) hb
      rw [show n + 1 + p = n + (p + 1) by omega] at this
      simp only [slotsNot]
      split
      · exact this
      · exact List.mem_cons_of_mem _ this

/-- What is left to run. -/
def Rs (T : Tb) (cf : CF) (g : RG) (env0 : Tr AV) (κ : Tr AV → HS → Prop) (π : AV → HS → Prop) (js oth : List Nat) (V : Tr AV) (S : HS) : Prop := match js with
  | [] => oth = [] ∧ κ V S
  | j :: r => (∀ i, i ∈ oth → ∃ a, a ∈ j :: r ∧ bef g.ms a i = true) ∧ aStep T cf g env0 j V S (fun V S => drA T cf g env0 κ π r oth V S) π

theorem drA_adv {T : Tb} {cf : CF} {g : RG} {env0 : Tr AV} {κ : Tr AV → HS → Prop} {π : AV → HS → Prop} {listed : Array Bool} {H : Heap} {js oth : List Nat} {V : Tr AV} {S : HS} {W : Nat → Option AV}
    (hS : Kn T g listed S.t H) (h : drA T cf g env0 κ π js oth V S) (hb : Blw V W) (hW : ∀ i, i ∈ oth → W i = none) (hn : oth.Nodup) :
    ∃ V' W' oth', Rs T cf g env0 κ π js oth' V' S ∧ Blw V' W' ∧ Wle W W' ∧ (∀ i, i ∈ oth' → i ∈ oth) ∧ oth'.Nodup ∧ (∀ i, (i ∉ oth ∨ i ∈ oth') → W' i = W i) ∧
      ∀ i, i ∈ oth → i ∉ oth' → (∀ j, j ∈ js → bef g.ms j i = false) ∧ ∃ o, g.all[i]? = some o ∧ QF T g env0 listed H W' i o := by
  cases js with
  | nil =>
    obtain ⟨V', W', h1, h2, h3, h4, h5⟩ := qRun_ok hS oth V W _ h hb hW hn
    refine ⟨V', W', [], ⟨rfl, h1⟩, h2, h3, (fun i hi => by cases hi), List.nodup_nil, fun i hi => ?_, fun i hi _ => ⟨(fun j hj => by cases hj), h5 i hi⟩⟩
    rcases hi with hi | hi
    · exact h4 i hi
    · cases hi
  | cons j r =>
    rw [drA_cons] at h
    obtain ⟨V', W', h1, h2, h3, h4, h5⟩ := qRun_ok hS _ V W _ h hb (fun i hi => hW i (List.mem_filter.1 hi).1) (hn.filter _)
    refine ⟨V', W', oth.filter fun i => !early g.ms (j :: r) i, ⟨fun i hi => ?_, h1⟩, h2, h3, fun i hi => (List.mem_filter.1 hi).1, hn.filter _, fun i hi => ?_, fun i hi hno => ?_⟩
    · have := (List.mem_filter.1 hi).2
      unfold early at this
      simp only [Bool.not_eq_true', List.all_eq_false, Bool.not_eq_true, Bool.not_eq_false'] at this
      obtain ⟨a, ha, hab⟩ := this
      exact ⟨a, ha, by simpa using hab⟩
    · refine h4 i fun hm => ?_
      rcases hi with hi | hi
      · exact hi (List.mem_filter.1 hm).1
      · have h1 := (List.mem_filter.1 hi).2
        rw [(List.mem_filter.1 hm).2] at h1
        cases h1
    · have he : early g.ms (j :: r) i = true := by
        cases he : early g.ms (j :: r) i with
        | true => rfl
        | false => exact (hno (List.mem_filter.2 ⟨hi, by rw [he]; rfl⟩)).elim
      refine ⟨fun a ha => ?_, h5 i (List.mem_filter.2 ⟨hi, he⟩)⟩
      unfold early at he
      have := List.all_eq_true.1 he a ha
      simpa using this

structure Inv (T : Tb) (cf : CF) (g : RG) (N : Nat) (env0 : Tr AV) (κ : Tr AV → HS → Prop) (π : AV → HS → Prop) (G : Ctx) (ρ0 : List Value) (H0 : Heap) (w0 : World) (hs0 : HS) (ds : List Df)
    (listed : Array Bool) (a : Act) (w : World) (W : Nat → Option AV) (V : Tr AV) (S : HS) (js oth : List Nat) (ρ : List Value) (H : Heap) : Prop where
  size : listed.size = g.all.length
  closed : ∀ i, lst listed i = true → ∀ j, bef g.ms j i = true → lst listed j = true
  sat : Sat G ρ H w
  step : Step ρ0 ρ H0 H w0 w
  tn : a.tmps.size = N
  ds : DsOk ρ (Fz G ρ H w) w ds a.defers
  vals : ∀ (j : Nat) (o : Oper) (d : Nat) (v : AV), g.all[j]? = some o → o.dst = some d → lst listed j = true → W j = some v → VR ρ (Fz G ρ H w) w v (a.tmps.getD d undef)
  old : ∀ t v, env0.get t = some v → (∀ (j : Nat) (o : Oper), g.all[j]? = some o → o.dst = some t → lst listed j = false) → t < N ∧ VR ρ (Fz G ρ H w) w v (a.tmps.getD t undef)
  rs : Rs T cf g env0 κ π js oth V S
  blw : Blw V W
  kn : Kn T g listed S.t H
  sn : S.n = H.length
  keep : Keep hs0 H0 S H
  slots : ∀ p f, g.fl[p]? = some f → lst listed f = false → H[g.n0 + p]? = some .slot
  pend : ∀ i, (i ∈ js ∨ i ∈ oth) → lst listed i = false ∧ W i = none
  dn : ∀ (i : Nat) (o : Oper), g.all[i]? = some o → i ∉ js → i ∉ oth → (∃ v, W i = some v) ∧ (∀ j, j ∈ js → bef g.ms j i = false) ∧ ((i ∈ g.acts ∧ lst listed i = true) ∨ (i ∈ g.oths ∧ (lst listed i = false → QF T g env0 listed H W i o)))
  jsp : js.Pairwise fun a b => bef g.ms a b = true
  jsn : js.Nodup
  otn : oth.Nodup
  jsa : ∀ i, i ∈ js → i ∈ g.acts
  oto : ∀ i, i ∈ oth → i ∈ g.oths

section
variable {P : Program} {T : Tb} {cf : CF} {g : RG} {N : Nat} {env0 : Tr AV} {κ : Tr AV → HS → Prop} {π : AV → HS → Prop} {G : Ctx} {ρ0 : List Value} {H0 : Heap} {w0 : World} {hs0 : HS} {ds : List Df}
  {listed : Array Bool} {a : Act} {w : World} {W : Nat → Option AV} {V : Tr AV} {S : HS} {js oth : List Nat} {ρ : List Value} {H : Heap}

theorem ahead (C : RGok g N) (hcl : ∀ i, lst listed i = true → ∀ j, bef g.ms j i = true → lst listed j = true) {i : Nat} {o : Oper} (ho : g.all[i]? = some o)
    (hr : ∀ e, e ∈ o.after.toList → bindsA e = true → lst listed e.on = true) : ∀ j, bef g.ms j i = true → lst listed j = true := by
  intro j hj
  obtain ⟨e, h1, h2, h3⟩ := C.mask i o ho j hj
  rcases h3 with rfl | h3
  · exact hr e h1 h2
  · exact hcl _ (hr e h1 h2) j h3

theorem Inv.ev (C : RGok g N) (I : Inv T cf g N env0 κ π G ρ0 H0 w0 hs0 ds listed a w W V S js oth ρ H) {i : Nat} {o : Oper} (ho : g.all[i]? = some o) (hi : lst listed i = false)
    (hah : ∀ j, bef g.ms j i = true → lst listed j = true) {V' : Tr AV} (hV : Blw V' W) : EvR ρ (Fz G ρ H w) w (evJ g.all g.ms env0 V' i) a := by
  intro x y hx
  have hnt : ∀ x y, (∀ t, x ≠ .tmp t) → evO env0 x = some y → VR ρ (Fz G ρ H w) w y (a.eval x) := by
    intro x y hne hx
    cases x with
    | tmp t => exact (hne t rfl).elim
    | const v =>
      simp only [evO] at hx
      split at hx
      · cases hx
      · cases hx
        rename_i hv
        exact .d _ _ (.v _ hv)
    | global g => simp [evO] at hx
    | func f =>
      simp only [evO] at hx
      cases hx
      exact .fn f [] [] #[] #[] rfl rfl (fun i c x h => by simp at h) (fun i c x h => by simp at h)
  cases x with
  | tmp t =>
    simp only [evJ] at hx
    split at hx
    · rename_i k hk
      obtain ⟨_, ok, hok, hdk⟩ := findDst_some g.all 0 k hk
      rw [Nat.sub_zero] at hok
      split at hx
      · rename_i hb
        exact I.vals k ok t y hok hdk (hah k hb) (hV k y hx)
      · split at hx
        · rename_i hb
          refine (I.old t y hx fun j o' hj hdj => ?_).2
          have : j = k := by
            have := C.dst t j o' hj hdj
            rw [hk] at this
            cases this
            rfl
          subst this
          simp only [Bool.or_eq_true] at hb
          rcases hb with hb | hb
          · cases hl : lst listed j with
            | false => rfl
            | true =>
              have := I.closed j hl i hb
              rw [hi] at this
              cases this
          · rw [Nat.eq_of_beq_eq_true hb]; exact hi
        · cases hx
    · rename_i hk
      refine (I.old t y hx fun j o' hj hdj => ?_).2
      have := C.dst t j o' hj hdj
      rw [hk] at this
      cases this
  | const v => exact hnt _ _ (fun t h => by cases h) hx
  | global g => exact hnt _ _ (fun t h => by cases h) hx
  | func f => exact hnt _ _ (fun t h => by cases h) hx

theorem Inv.want (C : RGok g N) {ops : Array Oper} (hall : ops.toList = g.all) (I : Inv T cf g N env0 κ π G ρ0 H0 w0 hs0 ds listed a w W V S js oth ρ H) {i : Nat} {o : Oper}
    (hah : ∀ j, bef g.ms j i = true → lst listed j = true) {b : Bool} (hg : GuardF g W i o b) : Region.wanted o (yielded ops a.tmps) = b := by
  unfold GuardF at hg
  unfold Region.wanted
  cases ho : o.guard with
  | none => rw [ho] at hg; rw [hg]
  | some p =>
    obtain ⟨k, want⟩ := p
    rw [ho] at hg
    obtain ⟨hb, ok, d, hok, hd, hc⟩ := hg
    have hdN := C.dstN d k ok hok hd
    have hlt : d < a.tmps.size := by rw [I.tn]; exact hdN
    have hnth : nth g.all k = some ok := by rw [nth_eq]; exact hok
    have key : ∀ (v : Value), (∃ y, W k = some (.d (.v y)) ∧ y = v) → yielded ops a.tmps k = asB v := by
      rintro v ⟨y, hy, rfl⟩
      have hv := I.vals k ok d _ hok hd (hah k hb) hy
      generalize hx : a.tmps.getD d undef = x at hv
      cases hv with
      | d _ _ h => cases h; exact yielded_at hall hnth hd hlt hx
    simp only
    rcases hc with ⟨c, hc, rfl⟩ | ⟨us, hc, rfl⟩
    · rw [key _ ⟨_, hc, rfl⟩]
      cases c <;> cases want <;> rfl
    · rw [key _ ⟨_, hc, rfl⟩]
      rfl

end
end Go.Rc
