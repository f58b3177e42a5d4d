/- Regions whose order is left open, part 7: a region. Conditions: none. -/
import Derived.Test.YtbdgmbaflfmooaaGreatDoorRcDrawM
set_option linter.unusedVariables false
set_option linter.unusedSimpArgs false
namespace Go.Rc

noncomputable def actAt (all : List Oper) (j : Nat) : Bool := match nth all j with
  | some o => isAct o.op
  | none => false

/-- A new object or a literal, that no order is asked of. -/
noncomputable def looseAt (all : List Oper) (j : Nat) : Bool := match nth all j with
  | some o => match o.guard with
    | none => match o.op with
      | .alloc _ => true
      | .buildSlice _ _ _ => true
      | _ => false
    | some _ => false
  | none => false

noncomputable def allocAt (all : List Oper) (j : Nat) : Bool := match nth all j with
  | some o => match o.op with
    | .alloc _ => true
    | _ => false
  | none => false

def chainL (ms : List Nat) : List Nat → Bool
  | [] => true
  | j :: r => r.all (bef ms j) && chainL ms r

theorem chainL_iff {ms : List Nat} : ∀ {l : List Nat}, chainL ms l = true → l.Pairwise fun a b => bef ms a b = true := by
  intro l
  induction l with
  | nil => intro _; exact .nil
  | cons j r ih =>
    intro h
    simp only [chainL, Bool.and_eq_true, List.all_eq_true] at h
    exact .cons h.1 (ih h.2)

noncomputable def floats (all : List Oper) (ms : List Nat) (l : List Nat) : List Nat :=
  l.filter fun i => looseAt all i && l.any fun j => actAt all j && !bef ms i j && !bef ms j i && !Nat.beq i j

noncomputable def memN (l : List Nat) (i : Nat) : Bool := l.any (Nat.beq i)

theorem memN_iff {l : List Nat} {i : Nat} : memN l i = true ↔ i ∈ l := by
  unfold memN
  simp only [List.any_eq_true]
  constructor
  · rintro ⟨x, h1, h2⟩
    rw [Nat.eq_of_beq_eq_true h2]
    exact h1
  · exact fun h => ⟨i, h, Nat.beq_refl i⟩

def idsOf : AV → List Nat
  | .ptr id _ => [id]
  | .row id _ => [id]
  | .rp id _ _ _ _ => [id]
  | .win id _ _ _ _ => [id]
  | .mp id => [id]
  | _ => []

/-- What an operation that is quiet would find at the begin, as far as this is easily told. -/
noncomputable def ghost (T : Tb) (op : Op) (ev : Ev) (hs : HS) : Option AV := match op with
  | .move x => ev x
  | .assign x => ev x
  | .nilCheck x => ev x
  | .fieldAddr _ _ _ => stepP T op ev
  | .load _ x => match ev x with
    | some (.ptr _ _) => match stepO T op ev hs with
      | .ok v _ => some v
      | _ => none
    | _ => none
  | _ => none

noncomputable def reads (op : Op) (ev : Ev) : List Nat := match op with
  | .load _ x => match ev x with
    | some v => idsOf v
    | none => []
  | .indexAddr _ x _ => match ev x with
    | some v => idsOf v
    | none => []
  | .index _ x _ => match ev x with
    | some v => idsOf v
    | none => []
  | .lookup _ x _ _ => match ev x with
    | some v => idsOf v
    | none => []
  | .slice _ x _ _ _ => match ev x with
    | some v => idsOf v
    | none => []
  | _ => []

/-- The objects that quiet operations read beside acts. -/
noncomputable def hintD (T : Tb) (g : RG) (env0 : Tr AV) (hs : HS) (l : List Oper) : Nat → Tr AV → List Nat :=
  List.rec (motive := fun _ => Nat → Tr AV → List Nat) (fun _ _ => [])
    (fun o _ ih i V => match g.free i with
      | true => match ghost T o.op (evJ g.all g.ms env0 V i) hs with
        | some v => ih (Nat.succ i) (V.set 64 i v)
        | none => ih (Nat.succ i) V
      | false => reads o.op (evJ g.all g.ms env0 V i) ++ match ghost T o.op (evJ g.all g.ms env0 V i) hs with
        | some v => ih (Nat.succ i) (V.set 64 i v)
        | none => ih (Nat.succ i) V) l

noncomputable def rg0 (all : List Oper) (n0 : Nat) (D : List Nat) (ms l fs : List Nat) : RG :=
  ⟨all, ms, fs.filter (allocAt all), n0, D, l.filter fun i => actAt all i && !memN fs i, l.filter fun i => !(actAt all i && !memN fs i)⟩

noncomputable def rgOf (T : Tb) (all : List Oper) (env0 : Tr AV) (hs : HS) (ms l fs : List Nat) : RG :=
  match (rg0 all hs.n [] ms l fs).oths.all (rg0 all hs.n [] ms l fs).free with
  | true => rg0 all hs.n [] ms l fs
  | false => rg0 all hs.n ((hintD T (rg0 all hs.n [] ms l fs) env0 hs all 0 .nil).filter fun id => Nat.ble (Nat.succ id) hs.n) ms l fs

theorem rgOf_eq (T : Tb) (all : List Oper) (env0 : Tr AV) (hs : HS) (ms l fs : List Nat) : ∃ D, rgOf T all env0 hs ms l fs = rg0 all hs.n D ms l fs ∧ ∀ id, id ∈ D → id < hs.n := by
  unfold rgOf
  split
  · exact ⟨[], rfl, fun id h => by cases h⟩
  · exact ⟨_, rfl, fun id h => Nat.le_of_ble_eq_true (List.mem_filter.1 h).2⟩

noncomputable def setSlots (T : Tb) (all : List Oper) (t : Tr AObj) (l : List Nat) : Nat → Tr AObj :=
  List.rec (motive := fun _ => Nat → Tr AObj) (fun _ => t) (fun f _ ih s => (ih (Nat.succ s)).set 64 s (obOf T all f)) l

theorem get_setSlots {T : Tb} {all : List Oper} {t : Tr AObj} (l : List Nat) : ∀ {s id : Nat} {o : AObj}, (setSlots T all t l s).get id = some o → (∃ p f, l[p]? = some f ∧ id = s + p ∧ o = obOf T all f) ∨ t.get id = some o := by
  induction l with
  | nil => intro s id o h; exact .inr h
  | cons f r ih =>
    intro s id o h
    rcases Tr.get_set 64 _ _ _ _ _ h with ⟨rfl, rfl⟩ | ⟨_, h⟩
    · exact .inl ⟨0, f, rfl, rfl, rfl⟩
    · rcases ih h with ⟨p, f', h1, h2, h3⟩ | h
      · exact .inl ⟨p + 1, f', by simpa using h1, by omega, h3⟩
      · exact .inr h

noncomputable def finE (l : List Oper) (V : Tr AV) : Nat → Tr AV → Tr AV :=
  List.rec (motive := fun _ => Nat → Tr AV → Tr AV) (fun _ env => env)
    (fun o _ ih i env => ih (Nat.succ i) (match o.dst with
      | some d => match V.get i with
        | some v => env.set 64 d v
        | none => env.del d
      | none => env)) l

noncomputable def delE (l : List Oper) : Tr AV → Tr AV :=
  List.rec (motive := fun _ => Tr AV → Tr AV) (fun env => env)
    (fun o _ ih env => ih (match o.dst with
      | some d => env.del d
      | none => env)) l

theorem finE_get {V : Tr AV} (l : List Oper) : ∀ {i : Nat} {env : Tr AV} {t : Nat} {y : AV}, (finE l V i env).get t = some y →
    (∃ j o, l[j]? = some o ∧ o.dst = some t ∧ V.get (i + j) = some y) ∨ ((∀ (j : Nat) (o : Oper), l[j]? = some o → o.dst ≠ some t) ∧ env.get t = some y) := by
  induction l with
  | nil => intro i env t y h; exact .inr ⟨fun j o hj => by simp at hj, h⟩
  | cons o r ih =>
    intro i env t y h
    rcases ih h with ⟨j, oj, h1, h2, h3⟩ | ⟨h1, h2⟩
    · exact .inl ⟨j + 1, oj, by simpa using h1, h2, by rw [show i + (j + 1) = Nat.succ i + j by omega]; exact h3⟩
    · have keep : o.dst ≠ some t → env.get t = some y → (∃ j o', (o :: r)[j]? = some o' ∧ o'.dst = some t ∧ V.get (i + j) = some y) ∨ ((∀ (j : Nat) (o' : Oper), (o :: r)[j]? = some o' → o'.dst ≠ some t) ∧ env.get t = some y) := fun g1 g2 => .inr ⟨fun j oj hj => by
        cases j with
        | zero => simp at hj; subst hj; exact g1
        | succ j => exact h1 j oj (by simpa using hj), g2⟩
      cases hd : o.dst with
      | none => rw [hd] at h2; exact keep (by rw [hd]; simp) h2
      | some d =>
        rw [hd] at h2
        simp only at h2
        cases hv : V.get i with
        | some v =>
          rw [hv] at h2
          rcases Tr.get_set 64 _ _ _ _ _ h2 with ⟨rfl, rfl⟩ | ⟨g1, g2⟩
          · exact .inl ⟨0, o, rfl, hd, hv⟩
          · exact keep (by rw [hd]; intro e; cases e; exact g1 rfl) g2
        | none =>
          rw [hv] at h2
          obtain ⟨g1, g2⟩ := Tr.get_del _ _ _ _ h2
          exact keep (by rw [hd]; intro e; cases e; exact g1 rfl) g2

theorem delE_get (l : List Oper) : ∀ {env : Tr AV} {t : Nat} {y : AV}, (delE l env).get t = some y → (∀ (j : Nat) (o : Oper), l[j]? = some o → o.dst ≠ some t) ∧ env.get t = some y := by
  induction l with
  | nil => intro env t y h; exact ⟨fun j o hj => by simp at hj, h⟩
  | cons o r ih =>
    intro env t y h
    obtain ⟨h1, h2⟩ := ih h
    cases hd : o.dst with
    | none =>
      rw [hd] at h2
      exact ⟨fun j oj hj => by
        cases j with
        | zero => simp at hj; subst hj; rw [hd]; simp
        | succ j => exact h1 j oj (by simpa using hj), h2⟩
    | some d =>
      rw [hd] at h2
      obtain ⟨g1, g2⟩ := Tr.get_del _ _ _ _ h2
      exact ⟨fun j oj hj => by
        cases j with
        | zero => simp at hj; subst hj; rw [hd]; intro e; cases e; exact g1 rfl
        | succ j => exact h1 j oj (by simpa using hj), g2⟩

noncomputable def drG (T : Tb) (cf : CF) (g : RG) (env0 : Tr AV) (hs : HS) (ds : List Df) (κ : KE) : Prop :=
  drA T cf g env0 (fun V S => κ .norm (finE g.all V 0 env0) S ds) (fun v S => κ (.pan v) (delE g.all env0) S ds) g.acts g.oths .nil ⟨setSlots T g.all hs.t g.fl hs.n, hs.n + g.fl.length⟩

noncomputable def drM (T : Tb) (cf : CF) (N : Nat) (all : List Oper) (env0 : Tr AV) (hs : HS) (ds : List Df) (κ : KE) (ms l : List Nat) : Prop :=
  match edgesOk all 0 && dstsOk all && dstsLt N all && chainL ms (l.filter fun i => actAt all i && !memN (floats all ms l) i) with
  | true => drG T cf (rgOf T all env0 hs ms l (floats all ms l)) env0 hs ds κ
  | false => False

noncomputable def drK (T : Tb) (cf : CF) (N : Nat) (all : List Oper) (env0 : Tr AV) (hs : HS) (ds : List Df) (κ : KE) : Prop :=
  drM T cf N all env0 hs ds κ (masks all []) (List.range all.length)

theorem slotOf_at {f : Nat} : ∀ {l : List Nat} {n p : Nat}, l.Nodup → l[p]? = some f → slotOf f l n = some (n + p) := by
  intro l
  induction l with
  | nil => intro n p _ h; simp at h
  | cons a r ih =>
    intro n p hn h
    obtain ⟨h1, h2⟩ := List.nodup_cons.1 hn
    cases p with
    | zero => simp at h; subst h; simp [slotOf, Nat.beq_refl]
    | succ p =>
      have hf : r[p]? = some f := by simpa using h
      have hne : ¬ a = f := fun e => h1 (by rw [e]; exact List.mem_of_getElem? hf)
      have hb : Nat.beq a f = false := by
        cases hb : Nat.beq a f with
        | false => rfl
        | true => exact (hne (Nat.eq_of_beq_eq_true hb)).elim
      simp only [slotOf, hb]
      rw [ih h2 hf]
      congr 1
      omega

theorem rg_ok {all : List Oper} {N n0 : Nat} {D : List Nat} (hD : ∀ id, id ∈ D → id < n0)
    (h : (edgesOk all 0 && dstsOk all && dstsLt N all && chainL (masks all []) ((List.range all.length).filter fun i => actAt all i && !memN (floats all (masks all []) (List.range all.length)) i)) = true) :
    RGok (rg0 all n0 D (masks all []) (List.range all.length) (floats all (masks all []) (List.range all.length))) N := by
  simp only [Bool.and_eq_true] at h
  obtain ⟨⟨⟨h1, h2⟩, h3⟩, h4⟩ := h
  refine ⟨fun i o hi e he hb => ?_, ?_, fun t i o hi hd => ?_, fun t i o hi hd => dstsLt_iff all h3 t i o hi hd, chainL_iff h4, fun i o hi => ?_, fun i hi ho => ?_, List.nodup_range.filter _, List.nodup_range.filter _, fun p f hp => ⟨?_, ?_⟩, hD, fun i hi => ?_⟩
  · have := edgesOk_iff all 0 h1 i o hi e he hb
    omega
  · obtain ⟨_, _, _, hm⟩ := masks_spec all []
    intro i o hi j hj
    exact hm i o hi j (by simpa [bef, rg0] using hj)
  · have := dstsOk_iff all h2 0 t i o hi hd
    simpa [rg0] using this
  · have hlt := (List.getElem?_eq_some_iff.1 hi).1
    have hlt : i ∈ List.range all.length := List.mem_range.2 hlt
    cases hc : (actAt all i && !memN (floats all (masks all []) (List.range all.length)) i) with
    | true => exact .inl (List.mem_filter.2 ⟨hlt, hc⟩)
    | false => exact .inr (List.mem_filter.2 ⟨hlt, by rw [hc]; rfl⟩)
  · have h1 := (List.mem_filter.1 hi).2
    have h2 := (List.mem_filter.1 ho).2
    rw [h1] at h2
    cases h2
  · exact slotOf_at ((List.nodup_range.filter _).filter _) hp
  · have hm := List.mem_of_getElem? hp
    have hf := (List.mem_filter.1 hm).1
    refine List.mem_filter.2 ⟨(List.mem_filter.1 hf).1, ?_⟩
    rw [memN_iff.2 hf]
    simp
  · exact List.mem_range.1 (List.mem_filter.1 hi).1

theorem drK_ok {P : Program} {T : Tb} (hT : TbOk P T) (hm : P.follows .mixedOrders = true) {cf : CF} (hcf : CallOk P cf) {ro : Option Nat} {N id : Nat} {ops : Array Oper} {env : Tr AV} {hs : HS} {ds : List Df} {κ : KE} {G : Ctx} {ρ : List Value} {H : Heap} {w : World} {a : Act} {Q : Exit → Act → World → Prop}
    (hG : G.P = P) (hst : Sat G ρ H w) (hh : HtOk hs H) (he : EnvOk ρ (Fz G ρ H w) w env a N) (hd : DsOk ρ (Fz G ρ H w) w ds a.defers) (hk : drK T cf N ops.toList env hs ds κ) (hq : Done G ρ hs H w N Q κ) : (Code.region id ops true).wpIn (Fw ro) 0 P Q a w := by
  unfold drK drM at hk
  split at hk
  · rename_i hstat
    obtain ⟨D, hrg, hD⟩ := rgOf_eq T ops.toList env hs (masks ops.toList []) (List.range ops.toList.length) (floats ops.toList (masks ops.toList []) (List.range ops.toList.length))
    rw [hrg] at hk
    have C := rg_ok hD hstat
    generalize hg : rg0 ops.toList hs.n D (masks ops.toList []) (List.range ops.toList.length) (floats ops.toList (masks ops.toList []) (List.range ops.toList.length)) = g at hk C
    have hall : g.all = ops.toList := by rw [← hg]; rfl
    have hn0 : g.n0 = hs.n := by rw [← hg]; rfl
    unfold drG at hk
    obtain ⟨d1, d2⟩ := hst.drew
    obtain ⟨ρ1, e1, e2⟩ := d1.slots g.fl.length
    have s2 := d2.trans e2
    have hkp := hst.kp s2
    have hlst : ∀ i, lst (Array.replicate ops.size false) i = false := fun i => by
      unfold lst
      simp only [Array.getD_eq_getD_getElem?, Array.getElem?_replicate]
      split <;> rfl
    have hKn : Kn T g (Array.replicate ops.size false) (setSlots T g.all hs.t g.fl hs.n) (H ++ List.replicate g.fl.length AObj.slot) := by
      intro id o ho
      rcases get_setSlots _ ho with ⟨p, f, g1, g2, g3⟩ | g1
      · exact .inl ⟨p, f, g1, hlst f, by rw [hn0]; exact g2, g3⟩
      · have := hh.2 id o g1
        have hlt := (List.getElem?_eq_some_iff.1 this).1
        refine .inr ⟨fun p f _ _ e => ?_, by rw [List.getElem?_append_left hlt]; exact this⟩
        rw [hn0, hh.1] at e
        omega
    obtain ⟨V', W', oth', a1, a2, a3, a4, a5, a6, a7⟩ := drA_adv hKn hk (W := fun _ => none) (fun k y hy => by rw [Tr.get_nil] at hy; cases hy) (fun _ _ => rfl) C.nodO
    refine wpIn_region_any hm ?_
    refine any_ok (ρ0 := ρ) (H0 := H) (w0 := w) (hs0 := hs) (ds := ds) (env0 := env) hT hcf hG C hall.symm (by rw [hn0, hh.1]; exact Nat.le_refl _) ?_ ?_ ops.size (Array.replicate ops.size false) a _ W' V' _ g.acts oth' ρ1 _
      ⟨by rw [hall]; simp, (fun i hi => by rw [hlst] at hi; cases hi), e1, s2, he.1, hd.keep s2.rp hkp, (fun j o d v h1 h2 h3 => by rw [hlst] at h3; cases h3), fun t v h1 h2 => ⟨(he.2 t v h1).1, (he.2 t v h1).2.keep s2.rp hkp⟩, a1, a2, hKn, by simp [hh.1], ⟨by simp, fun id h1 h2 => ⟨?_, by rw [List.getElem?_append_left h2]⟩⟩, fun p f h1 h2 => ?_, fun i hi => ⟨hlst i, ?_⟩, fun i o hi h1 h2 => ?_, C.chain, C.nodA, a5, fun i h => h, fun i h => a4 i h⟩ ?_
    · intro V S ρ' H' a' w' h1 h2 h3 h4 h5 h6 h7 h8
      refine hq _ _ _ _ h1 ρ' H' w' a' _ h2 h3 h4 ⟨h5, fun t v ht => ?_⟩ h6 rfl
      rcases finE_get _ ht with ⟨j, o, k1, k2, k3⟩ | ⟨k1, k2⟩
      · exact ⟨C.dstN t j o k1 k2, h7 j o t v k1 k2 (by rw [Nat.zero_add] at k3; exact k3)⟩
      · exact h8 t v k2 k1
    · intro v S ρ' H' a' w' x h1 h2 h3 h4 h5 h6 h7 h8
      exact hq _ _ _ _ h1 ρ' H' w' a' _ h2 h3 h4 ⟨h5, fun t v ht => h7 t v (delE_get _ ht).2 (delE_get _ ht).1⟩ h6 ⟨x, rfl, h8⟩
    · cases hg2 : (setSlots T g.all hs.t g.fl hs.n).get id with
      | none => rfl
      | some o =>
        rcases get_setSlots _ hg2 with ⟨p, f, g1, g2, g3⟩ | g1
        · rw [hh.1] at g2; omega
        · rw [h1] at g1; cases g1
    · have hp : p < g.fl.length := (List.getElem?_eq_some_iff.1 h1).1
      rw [hn0, hh.1, List.getElem?_append_right (by omega)]
      simp [hp]
    · rw [a6 i]
      rcases hi with hi | hi
      · exact .inl fun h => C.disj i hi h
      · exact .inr hi
    · have hio : i ∈ g.oths := (C.part i o hi).resolve_left h1
      obtain ⟨b1, o', b2, b3⟩ := a7 i hio h2
      rw [hi] at b2
      cases b2
      exact ⟨b3.val, b1, .inr ⟨hio, fun _ => b3⟩⟩
    · have hct : ∀ n, cnt (fun _ => true) n = n := fun n => by induction n with
        | zero => rfl
        | succ n ih => simp only [cnt, ih]
      rw [hall, show ops.size = ops.toList.length by simp]
      refine (cnt_congr fun j hj => ?_).trans (hct _)
      show (!lst (Array.replicate ops.size false) j) = true
      rw [hlst j]
      rfl
  · exact hk.elim

end Go.Rc
