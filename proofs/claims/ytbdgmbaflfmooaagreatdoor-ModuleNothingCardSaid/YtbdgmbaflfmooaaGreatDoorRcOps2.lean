/- Stores, addresses of fields, struct literals. Conditions: none. -/
import Derived.Test.YtbdgmbaflfmooaaGreatDoorRcOps
set_option linter.unusedVariables false
set_option linter.unusedSimpArgs false
namespace Go.Rc

/-- ns in the place of the first cells. -/
def overL : List AV → List AV → Option (List AV)
  | cs, [] => some cs
  | _ :: cs, n :: ns => match overL cs ns with
    | some r => some (n :: r)
    | none => none
  | [], _ :: _ => none

/-- ns in the place of the cells from off on. -/
def setL : List AV → Nat → List AV → Option (List AV)
  | cs, 0, ns => overL cs ns
  | c :: cs, k + 1, ns => match setL cs k ns with
    | some r => some (c :: r)
    | none => none
  | [], _ + 1, _ => none

theorem overL_eq (cs ns r : List AV) (h : overL cs ns = some r) : ns.length ≤ cs.length ∧ r = ns ++ cs.drop ns.length := by
  induction ns generalizing cs r with
  | nil => cases cs <;> (simp only [overL] at h; cases h; simp)
  | cons n ns ih =>
    cases cs with
    | nil => simp [overL] at h
    | cons c cs =>
      simp only [overL] at h
      split at h
      · rename_i r' hr
        cases h
        obtain ⟨h1, h2⟩ := ih cs r' hr
        exact ⟨by simpa using h1, by simp [h2]⟩
      · cases h

theorem setL_eq (cs ns r : List AV) (k : Nat) (h : setL cs k ns = some r) : k + ns.length ≤ cs.length ∧ r = cs.take k ++ ns ++ cs.drop (k + ns.length) := by
  induction k generalizing cs r with
  | zero =>
    simp only [setL] at h
    obtain ⟨h1, h2⟩ := overL_eq cs ns r h
    exact ⟨by omega, by simp [h2]⟩
  | succ k ih =>
    cases cs with
    | nil => simp [setL] at h
    | cons c cs =>
      simp only [setL] at h
      split at h
      · rename_i r' hr
        cases h
        obtain ⟨h1, h2⟩ := ih cs r' hr
        refine ⟨by simp; omega, ?_⟩
        rw [h2, show k + 1 + ns.length = (k + ns.length) + 1 by omega]
        simp
      · cases h

theorem AllR.setL {R : AV → Value → Prop} {cs ns r : List AV} {k : Nat} {vs us : List Value} (h : AllR R cs vs) (hn : AllR R ns us) (hr : setL cs k ns = some r) :
    AllR R r (vs.take k ++ us ++ vs.drop (k + us.length)) := by
  obtain ⟨h1, rfl⟩ := setL_eq cs ns r k hr
  rw [hn.1]
  exact ((h.take k).append hn).append (h.drop _)

section
variable {P : Program} {T : Tb} {o : Oper} {ev : Ev} {H : Heap}

theorem one_all {ρ : List Value} {S : Nat → Prop} {w : World} {cs : List AV} {vs : List Value} (h : AllR (VR ρ S w) cs vs) (h1 : cs.all AV.one = true) : ∀ v, v ∈ vs → v.oneCell' = true := by
  intro v hv
  obtain ⟨i, hi⟩ := List.getElem?_of_mem hv
  have hl : i < cs.length := by rw [← h.1]; exact (List.getElem?_eq_some_iff.1 hi).1
  have hc : cs[i]? = some cs[i] := by simp [hl]
  exact (h.2 i _ v hc hi).one (by simpa using (List.all_eq_true.1 h1) cs[i] (by simp))

theorem mkAgg_cells (r : List AV) : (mkAgg r).cells = r := by
  unfold mkAgg
  split
  · rename_i ds hd
    have := allD_map r ds hd
    simp [AV.cells, this]
  · rfl

theorem mkAgg_isAgg (r : List AV) : (mkAgg r).isAgg = true := by
  unfold mkAgg
  split <;> rfl

/-- v in the place of a part of v0. -/
def putPart (agg : Bool) (sz off : Nat) (ag : Bool) (m : Nat) (v0 v : AV) : Option AV :=
  match elOk agg sz v with
  | true => match Nat.beq off 0 && Nat.beq sz m && (agg == ag) with
    | true => some v
    | false => match ag with
      | true => match setL v0.cells off v.cells with
        | some r => some (mkAgg r)
        | none => none
      | false => none
  | false => none

theorem putPart_eq {agg : Bool} {sz off : Nat} {ag : Bool} {m : Nat} {v0 v v2 : AV} (hm : v0.cells.length = m) (h : putPart agg sz off ag m v0 v = some v2) :
    v.cells.length = sz ∧ v.cells.all AV.one = true ∧ setL v0.cells off v.cells = some v2.cells ∧ v2.isAgg = ag ∧ v2.cells.length = m := by
  unfold putPart at h
  split at h
  · rename_i he
    obtain ⟨h1, h2, h3⟩ := elOk_iff he
    split at h
    · rename_i hw
      cases h
      simp only [Bool.and_eq_true, beq_iff_eq] at hw
      obtain ⟨⟨g0, g1⟩, g2⟩ := hw
      have g0 : off = 0 := Nat.eq_of_beq_eq_true g0
      have g1 : sz = m := Nat.eq_of_beq_eq_true g1
      subst g0
      refine ⟨h1, h3, ?_, by rw [h2, g2], by rw [h1, g1]⟩
      have hlen : v.cells.length ≤ v0.cells.length := by omega
      rw [show setL v0.cells 0 v.cells = overL v0.cells v.cells by cases v0.cells <;> rfl]
      have key : ∀ (ns cs : List AV), ns.length = cs.length → overL cs ns = some ns := by
        intro ns
        induction ns with
        | nil => intro cs h; cases cs <;> simp_all [overL]
        | cons n ns ih => intro cs h; cases cs with
          | nil => simp at h
          | cons c cs => simp [overL, ih cs (by simpa using h)]
      exact key _ _ (by omega)
    · split at h
      · split at h
        · rename_i r hr
          cases h
          refine ⟨h1, h3, by rw [mkAgg_cells]; exact hr, mkAgg_isAgg r, ?_⟩
          rw [mkAgg_cells]
          obtain ⟨f1, f2⟩ := setL_eq v0.cells v.cells r off hr
          rw [f2]
          simp only [List.length_append, List.length_take, List.length_drop]
          omega
        · cases h
      · cases h
  · cases h

/-- A store into a variable of the walk's own. -/
theorem ok_store_own {t : TypeId} {i : TI} {ad x : Operand} {id off : Nat} {ty : TypeId} {ag : Bool} {m : Nat} {v0 v v2 : AV} (hT : TbOk P T) (ho : o.op = .store t ad x) (hi : T t = some i)
    (hv : ev ad = some (.ptr id off)) (hx : ev x = some v) (hH : H[id]? = some (.var ty ag m v0)) (hp : putPart i.agg i.sz off ag m v0 v = some v2) :
    OpOk P o ev H (.d (.v undef)) (H.set id (.var ty ag m v2)) := by
  obtain ⟨info, d, hok⟩ := hT t i hi
  refine .of_skip fun G ρ w a _ hs he => ?_
  have e1 := he ad _ hv
  have e2 := (he x _ hx).cells
  generalize hxa : a.eval ad = xa at e1
  cases e1 with
  | ptr _ _ b hb =>
    obtain ⟨hm, hag, b', vs, e, hh, hlen, hc⟩ := hs.obj id _ _ hH hb
    cases e
    obtain ⟨hl, h1, hr, hag2, hm2⟩ := putPart_eq hm hp
    have hall : AllR (VR ρ (Fz G ρ H w) w) v0.cells vs.toList := ⟨by simpa using hlen, fun i c x h1 h2 => hc i c x h1 (by simpa using h2)⟩
    have hu := one_all e2 h1
    have hsz : (a.eval x).cells.size = i.sz := by rw [← hl, ← e2.1]; simp
    have hfit : off + (a.eval x).cells.toList.length ≤ vs.size := by
      have := (setL_eq v0.cells v.cells _ off hr).1
      rw [e2.1]
      omega
    have hst := run_storeCells_at P b off ty (a.eval x).cells.toList 0 vs w hh (by simpa using hfit) hu
    simp only [Nat.add_zero] at hst
    generalize hnew : (vs.toList.take off ++ (a.eval x).cells.toList ++ vs.toList.drop (off + (a.eval x).cells.toList.length)).toArray = new at hst
    have hnl : AllR (VR ρ (Fz G ρ H w) w) v2.cells new.toList := by
      rw [← hnew]
      exact hall.setL e2 hr
    obtain ⟨s1, s2⟩ := hs.change (w' := w.setRow b new) hH hb (.var ty ag m v2) (.pointer (some ⟨b, 0, none⟩)) rfl rfl rfl (by simp)
      (fun k hk hne => setRow_other w b k new (fun e => hne rfl (by rw [e]; rfl))) (fun k _ hk => .inl ⟨rfl, hk⟩) (.inl rfl) (fun hk hrp => by
        refine ⟨hm2, hag2, b, new, rfl, setRow_heap w b vs new ty (0, 0) hh, by simpa using hnl.1, fun i c y h1 h2 => ?_⟩
        exact (hnl.2 i c y h1 (by simpa using h2)).keep hrp hk)
    have hset : ρ.set id (.pointer (some ⟨b, 0, none⟩)) = ρ := by
      apply List.ext_getElem?
      intro j
      by_cases hj : id = j
      · subst hj
        rw [List.getElem?_set_self (List.getElem?_eq_some_iff.1 hb).1, hb]
      · rw [List.getElem?_set_ne hj]
    rw [hset] at s1 s2
    refine ⟨ρ, w.setRow b new, ?_, s1, s2⟩
    simp only [execOp, ho, hxa, Instr.storeAt, Instr.sureAddr, Sem.run_bind, Sem.run_pure, Result.andThen_ok, storeVar, run_sizeOf' hok, hsz, ne_eq, not_true_eq_false, if_false, hst, ite_false]

/-! ### addresses -/
def addOff : AV → Nat → Option AV
  | .ptr id off, k => some (.ptr id (off + k))
  | .d (.cp c ag m off), k => some (.d (.cp c ag m (off + k)))
  | _, _ => none

theorem VR.addOff {ρ : List Value} {S : Nat → Prop} {w : World} {v v' : AV} {x : Value} {k : Nat} (h : VR ρ S w v x) (ha : addOff v k = some v') :
    ∃ a, x = .pointer (some a) ∧ VR ρ S w v' (.pointer (some (a.add k))) := by
  cases h with
  | d y v hd =>
    cases hd with
    | cp c ag m off b o cell hS hm hg hc hr =>
      simp only [Rc.addOff] at ha
      cases ha
      refine ⟨_, rfl, ?_⟩
      rw [addr_add, Nat.add_assoc]
      exact .d _ _ (.cp c ag m (off + k) b o cell hS hm hg hc hr)
    | _ => simp [Rc.addOff] at ha
  | ptr id off b hb =>
    simp only [Rc.addOff] at ha
    cases ha
    refine ⟨_, rfl, ?_⟩
    rw [addr_add]
    exact .ptr id (off + k) b hb
  | _ => simp [Rc.addOff] at ha

theorem run_fieldAt {s : TypeId} {i : TI} {fs : List (TypeId × Nat)} {f : Nat} {t : TypeId} {off : Nat} {ti : TI} (hT : TbOk P T) (hi : T s = some i) (hk : i.k = .struct fs) (hf : fs[f]? = some (t, off))
    (ht : T t = some ti) (hz : 0 < ti.sz) (a : Addr) (w : World) : (Instr.fieldAt s (.pointer (some a)) f).run P w = .ok (.pointer (some (a.add off))) w := by
  obtain ⟨info, d, hok⟩ := hT s i hi
  obtain ⟨info', d', hok'⟩ := hT t ti ht
  have hfit := hok.k
  rw [hk] at hfit
  obtain ⟨fields, rfl, hl, hfs⟩ := hfit
  obtain ⟨fl, h1, h2, h3⟩ := hfs f t off hf
  subst h2 h3
  simp only [Instr.fieldAt, Sem.run_bind, run_underlying hok.und, Result.andThen_ok, h1, Instr.sureAddr, Sem.run_pure, fieldPlace, run_sizeOf' hok']
  rw [if_neg (by omega)]
  rfl

theorem ok_fieldAddr {s : TypeId} {i : TI} {fs : List (TypeId × Nat)} {f : Nat} {t : TypeId} {off : Nat} {ti : TI} {ad : Operand} {v v' : AV} (hT : TbOk P T) (ho : o.op = .fieldAddr s ad f) (hi : T s = some i) (hk : i.k = .struct fs)
    (hf : fs[f]? = some (t, off)) (ht : T t = some ti) (hz : 0 < ti.sz) (hv : ev ad = some v) (ha : addOff v off = some v') : OpOk P o ev H v' H :=
  .pure fun ρ S w a he => by
    obtain ⟨b, hb, hr⟩ := (he ad v hv).addOff ha
    exact ⟨_, by simp only [execOp, ho, hb, Sem.run_bind, run_fieldAt hT hi hk hf ht hz, Result.andThen_ok, Sem.run_pure], hr⟩

/-- A field of a struct's value. -/
theorem ok_field {s : TypeId} {i : TI} {fs : List (TypeId × Nat)} {f : Nat} {t : TypeId} {off : Nat} {ti : TI} {x : Operand} {v v' : AV} (hT : TbOk P T) (ho : o.op = .field s x f) (hi : T s = some i) (hk : i.k = .struct fs)
    (hf : fs[f]? = some (t, off)) (ht : T t = some ti) (hv : ev x = some v) (hagg : v.isAgg = true) (hlen : v.cells.length = i.sz) (hp : Rc.part ti.agg ti.sz off true i.sz v = some v') : OpOk P o ev H v' H :=
  .pure fun ρ S w a he => by
    obtain ⟨info, d, hok⟩ := hT s i hi
    obtain ⟨info', d', hok'⟩ := hT t ti ht
    have hfit := hok.k
    rw [hk] at hfit
    obtain ⟨fields, rfl, hl, hfs⟩ := hfit
    obtain ⟨fl, h1, h2, h3⟩ := hfs f t off hf
    subst h2 h3
    have hvx := he x v hv
    have hc := hvx.cells
    have hx : ∃ vs, a.eval x = .agg vs := by
      have := hvx.isAgg
      rw [hagg] at this
      generalize a.eval x = y at this
      cases y <;> simp [Value.isAgg] at this
      exact ⟨_, rfl⟩
    obtain ⟨vs, hvs⟩ := hx
    rw [hvs] at hc hvx
    simp only [Value.cells] at hc
    have hrun : ∃ y, (Go.part fl.type vs fl.offset).run P w = .ok y w ∧ VR ρ S w v' y := by
      unfold Go.part
      rw [Sem.run_bind, run_isAgg hok', Result.andThen_ok]
      unfold Rc.part at hp
      split at hp
      · rename_i hw
        cases hp
        simp only [Bool.and_eq_true, beq_iff_eq] at hw
        obtain ⟨⟨g0, g1⟩, g2⟩ := hw
        have g0 : fl.offset = 0 := Nat.eq_of_beq_eq_true g0
        have g1 : ti.sz = i.sz := Nat.eq_of_beq_eq_true g1
        have hvl : vs.size = i.sz := by rw [← hlen, ← hc.1]; simp
        refine ⟨.agg (vs.extract fl.offset (fl.offset + ti.sz)), by simp only [g2, if_true, Sem.run_bind, run_sizeOf' hok', Result.andThen_ok, Sem.run_pure], ?_⟩
        rw [g0, g1, Nat.zero_add, ← hvl]
        simpa using hvx
      · cases hta : ti.agg with
        | true =>
          simp only [hta] at hp
          split at hp
          · cases hp
            refine ⟨.agg (vs.extract fl.offset (fl.offset + ti.sz)), by simp only [if_true, Sem.run_bind, run_sizeOf' hok', Result.andThen_ok, Sem.run_pure], VR.mkAgg ?_⟩
            have hd := (hc.drop fl.offset).take ti.sz
            simpa [Array.toList_extract, List.extract_eq_drop_take'] using hd
          · cases hp
        | false =>
          simp only [hta] at hp
          split at hp
          · rename_i c hcc
            split at hp
            · cases hp
            · cases hp
              obtain ⟨y, hy, hvy⟩ := hc.get hcc
              have : vs[fl.offset]? = some y := by simpa using hy
              exact ⟨y, by simp [this], hvy⟩
          · cases hp
    obtain ⟨y, hy, hvy⟩ := hrun
    refine ⟨y, ?_, hvy⟩
    simp only [execOp, ho, hvs, Instr.field, Sem.run_bind, run_underlying hok.und, Result.andThen_ok, h1, asAgg, Sem.run_pure, hy]
end
end Go.Rc
