/- Comparisons, bytes that become a text, windows of rows. Conditions: none. -/
import Derived.Test.YtbdgmbaflfmooaaGreatDoorRcMore
set_option linter.unusedVariables false
set_option linter.unusedSimpArgs false
namespace Go.Rc

variable {P : Program} {T : Tb} {o : Oper} {ev : Ev} {H : Heap}

/-- A row with elements is not nil. -/
theorem ok_eqRow {t yt e : TypeId} {i : TI} {x y : Operand} {op : BinOp} {id n : Nat} {te : TypeId} {ag : Bool} {sz : Nat} {es : List AV} {c : Bool} (hT : TbOk P T) (ho : o.op = .binOp op t x y yt) (hi : T t = some i) (hk : i.k = .slice e)
    (hx : ev x = some (.row id n)) (hy : ev y = some (.d (.v (.slice none 0 0)))) (hH : H[id]? = some (.row te ag sz es)) (hn : n = es.length) (h1 : 1 ≤ n) (hc : (op = .eql ∧ c = false) ∨ (op = .neq ∧ c = true)) : OpOk P o ev H (.d (.v (.bool c))) H :=
  .of_run fun G ρ w a _ hs he => by
    subst hn
    have h := he x _ hx
    have hya := he.v hy
    generalize hxa : a.eval x = z at h
    cases h with
    | row _ _ ad len cap v hρ hle hv hone =>
      obtain ⟨xs, hown, _⟩ := hs.obj id _ _ hH hρ
      rcases hown.2 with ⟨e1, e2⟩ | ⟨g, cap', cur, e1, _⟩
      · omega
      · cases e1
        have hv' := hv rfl
        subst hv'
        have key := run_eqNil hT hi (x := .slice (some ⟨g, 0, none⟩) es.length cap) (y := .slice none 0 0) (b := false) (by rw [hk]; rfl) (by rw [hk]; rfl) w
        refine ⟨ρ, w, .bool c, ?_, hs, Step.refl ρ H w, .d _ _ (.v _ rfl)⟩
        simp only [execOp, ho, hxa, hya]
        rcases hc with ⟨rfl, rfl⟩ | ⟨rfl, rfl⟩ <;> simp [binOp, eqGuard, key]

def ifcNil : AV → Option Bool
  | .ifc _ _ => some false
  | .d (.ifc _ _) => some false
  | .d (.v .nilIface) => some true
  | _ => none

theorem ok_eqIfc {t yt : TypeId} {i : TI} {x : Operand} {op : BinOp} {v : AV} {b c : Bool} (hT : TbOk P T) (ho : o.op = .binOp op t x (.const .nilIface) yt) (hi : T t = some i) (hk : i.k = .iface)
    (hx : ev x = some v) (hb : ifcNil v = some b) (hc : (op = .eql ∧ c = b) ∨ (op = .neq ∧ c = !b)) : OpOk P o ev H (.d (.v (.bool c))) H :=
  .pure fun ρ S w a he => by
    obtain ⟨info, d, hok⟩ := hT t i hi
    have hfit := hok.k
    rw [hk] at hfit
    obtain ⟨ms, rfl⟩ := hfit
    have h := he x v hx
    have hxv : (a.eval x = .nilIface ∧ b = true) ∨ (∃ t' u, a.eval x = .iface t' u ∧ b = false) := by
      generalize a.eval x = z at h
      cases h with
      | ifc t' y u hh => simp [ifcNil] at hb; subst hb; exact .inr ⟨_, _, rfl, rfl⟩
      | d y u hh =>
        cases hh with
        | ifc t' y u hh => simp [ifcNil] at hb; subst hb; exact .inr ⟨_, _, rfl, rfl⟩
        | v y hh =>
          cases z <;> simp [ifcNil] at hb
          subst hb
          exact .inl ⟨rfl, rfl⟩
        | _ => simp [ifcNil] at hb
      | _ => simp [ifcNil] at hb
    refine ⟨.bool c, ?_, .d _ _ (.v _ rfl)⟩
    have key : ∀ z b, (z = .nilIface ∧ b = true) ∨ (∃ t' u, z = .iface t' u ∧ b = false) → (Op.equal t z .nilIface).run P w = .ok b w := by
      intro z b hz
      show (Op.equalIn (9999 + 1) t z .nilIface).run P w = .ok b w
      generalize 9999 = q
      rcases hz with ⟨rfl, rfl⟩ | ⟨t', u, rfl, rfl⟩ <;> simp [Op.equalIn, run_underlying hok.und]
    have hk2 := key _ _ hxv
    have hga : a.eval (.const .nilIface) = .nilIface := rfl
    simp only [execOp, ho, hga]
    generalize a.eval x = z at hxv hk2
    have hg : ∀ op : BinOp, (eqGuard op t x (.const .nilIface) z .nilIface).run P w = .ok () w := by
      intro op
      rcases hxv with ⟨rfl, _⟩ | ⟨t', u, rfl, _⟩ <;> cases op <;> simp [eqGuard]
    rcases hc with ⟨rfl, rfl⟩ | ⟨rfl, rfl⟩ <;> (rcases hxv with ⟨rfl, rfl⟩ | ⟨t', u, rfl, rfl⟩ <;> simp [binOp, hg, hk2])

/-! ### structs of plain fields -/
/-- Are two structs of plain fields alike? -/
def eqF (T : Tb) : List (TypeId × Nat) → Nat → List AV → List AV → Option Bool
  | [], _, [], [] => some true
  | (t, off) :: r, k, x :: cs, y :: ds => match T t with
    | some i => match Nat.beq off k && !i.agg with
      | true => match eqF T r (Nat.succ k) cs ds with
        | some b => match i.k with
          | .int _ => match x, y with
            | .d (.v (.int j m)), .d (.v (.int l n)) => match sameK j l with
              | true => some (decide (m = n) && b)
              | false => none
            | _, _ => none
          | .str => match x, y with
            | .d (.v (.string m)), .d (.v (.string n)) => some (eqS m n && b)
            | _, _ => none
          | .bool => match x, y with
            | .d (.v (.bool m)), .d (.v (.bool n)) => some ((m == n) && b)
            | _, _ => none
          | _ => none
        | none => none
      | false => none
    | none => none
  | _, _, _, _ => none

theorem dv_inv {ρ : List Value} {S : Nat → Prop} {w : World} {x y : Value} (h : VR ρ S w (.d (.v x)) y) : y = x := by
  cases h with
  | d _ _ hd => cases hd; rfl

def eqBody (q : Nat) (xs ys : Array Value) (f : Field) (_ : Option Bool × Unit) : Sem (ForInStep (Option Bool × Unit)) :=
  if f.name ≠ "_" then do
    let a ← Go.part f.type xs f.offset
    let c ← Go.part f.type ys f.offset
    let r ← Op.equalIn (q + 1) f.type a c
    if (!r) = true then pure (ForInStep.done (some false, ())) else pure (ForInStep.yield (none, ()))
  else pure (ForInStep.yield (none, ()))

theorem eq_loop (hT : TbOk P T) {ρ : List Value} {S : Nat → Prop} {w : World} (q : Nat) (xs ys : Array Value) : ∀ (fs : List Field) (gs : List (TypeId × Nat)) (k : Nat) (cs ds : List AV) (b : Bool),
    (∀ (j : Nat) (t : TypeId) (off : Nat), gs[j]? = some (t, off) → ∃ f, fs[j]? = some f ∧ f.type = t ∧ f.offset = off) → fs.length = gs.length → (∀ f : Field, f ∈ fs → f.name ≠ "_") →
    (∀ (j : Nat) (c : AV), cs[j]? = some c → ∃ x, xs[k + j]? = some x ∧ VR ρ S w c x) → (∀ (j : Nat) (c : AV), ds[j]? = some c → ∃ x, ys[k + j]? = some x ∧ VR ρ S w c x) → eqF T gs k cs ds = some b →
    (forIn fs ((none, ()) : Option Bool × Unit) (eqBody q xs ys) : Sem (Option Bool × Unit)).run P w = .ok (if b then (none, ()) else (some false, ())) w := by
  intro fs
  induction fs with
  | nil =>
    intro gs k cs ds b hf hl hn hx hy h
    obtain rfl : gs = [] := List.eq_nil_of_length_eq_zero hl.symm
    cases cs <;> cases ds <;> simp [eqF] at h
    subst h
    rfl
  | cons f fs ih =>
    intro gs k cs ds b hf hl hn hx hy h
    cases gs with
    | nil => simp at hl
    | cons g gs =>
      obtain ⟨t, off⟩ := g
      cases cs with
      | nil => simp [eqF] at h
      | cons c cs =>
        cases ds with
        | nil => simp [eqF] at h
        | cons d ds =>
          obtain ⟨f', e1, e2, e3⟩ := hf 0 t off rfl
          simp at e1
          subst e1 e2 e3
          simp only [eqF] at h
          split at h
          · rename_i i hi
            split at h
            · rename_i hq
              simp only [Bool.and_eq_true, Bool.not_eq_true'] at hq
              have ho := Nat.eq_of_beq_eq_true hq.1
              split at h
              · rename_i b' hb'
                obtain ⟨info, dd, hok⟩ := hT _ _ hi
                obtain ⟨x, hx1, hx2⟩ := hx 0 c rfl
                obtain ⟨y, hy1, hy2⟩ := hy 0 d rfl
                rw [Nat.add_zero] at hx1 hy1
                have ih' := ih gs (k + 1) cs ds b' (fun j t o hj => by have := hf (j + 1) t o (by simpa using hj); simpa using this) (by simpa using hl) (fun f hf => hn f (by simp [hf]))
                  (fun j c hj => by have := hx (j + 1) c (by simpa using hj); rwa [show k + 1 + j = k + (j + 1) by omega]) (fun j c hj => by have := hy (j + 1) c (by simpa using hj); rwa [show k + 1 + j = k + (j + 1) by omega]) hb'
                have hpx : (Go.part f.type xs f.offset).run P w = .ok x w := by
                  unfold Go.part
                  rw [Sem.run_bind, run_isAgg hok, Result.andThen_ok, hq.2, ho]
                  simp [hx1]
                have hpy : (Go.part f.type ys f.offset).run P w = .ok y w := by
                  unfold Go.part
                  rw [Sem.run_bind, run_isAgg hok, Result.andThen_ok, hq.2, ho]
                  simp [hy1]
                have fin : ∀ r : Bool, (Op.equalIn (q + 1) f.type x y).run P w = .ok r w → b = (r && b') → _ := fun r hr hb => show (forIn (f :: fs) ((none, ()) : Option Bool × Unit) (eqBody q xs ys) : Sem (Option Bool × Unit)).run P w = .ok (if b then (none, ()) else (some false, ())) w by
                  have hne : f.name ≠ "_" := hn f (by simp)
                  rw [List.forIn_cons, Sem.run_bind]
                  simp only [eqBody, if_pos hne, Sem.run_bind, hpx, hpy, Result.andThen_ok, hr]
                  subst hb
                  cases r with
                  | true =>
                    simp only [Bool.not_true, Bool.false_eq_true, if_false, Sem.run_pure, Result.andThen_ok, Bool.true_and]
                    exact ih'
                  | false => simp
                have hfit := hok.k
                split at h
                · rename_i kk hk
                  rw [hk] at hfit
                  have hd : dd = .int kk := hfit
                  subst hd
                  split at h
                  · rename_i j m l n
                    split at h
                    · rename_i hs
                      cases h
                      have hs := sameK_eq hs
                      subst hs
                      have ex := dv_inv hx2
                      have ey := dv_inv hy2
                      subst ex ey
                      refine fin (decide (m = n)) ?_ rfl
                      simp only [Op.equalIn, Sem.run_bind, run_underlying hok.und, Result.andThen_ok, if_true, Sem.run_pure]
                      congr 1
                    · cases h
                  · cases h
                · rename_i hk
                  rw [hk] at hfit
                  have hd : dd = .string := hfit
                  subst hd
                  split at h
                  · rename_i m n
                    cases h
                    have ex := dv_inv hx2
                    have ey := dv_inv hy2
                    subst ex ey
                    refine fin (eqS m n) ?_ rfl
                    simp only [Op.equalIn, Sem.run_bind, run_underlying hok.und, Result.andThen_ok, Sem.run_pure]
                    rw [beq_string, eqS_eq]
                  · cases h
                · rename_i hk
                  rw [hk] at hfit
                  have hd : dd = .bool := hfit
                  subst hd
                  split at h
                  · rename_i m n
                    cases h
                    have ex := dv_inv hx2
                    have ey := dv_inv hy2
                    subst ex ey
                    refine fin (m == n) ?_ rfl
                    simp only [Op.equalIn, Sem.run_bind, run_underlying hok.und, Result.andThen_ok, Sem.run_pure]
                  · cases h
                · cases h
              · cases h
            · cases h
          · cases h

theorem ok_eqStruct {t yt : TypeId} {i : TI} {fs : List (TypeId × Nat)} {x y : Operand} {op : BinOp} {u v : AV} {b c : Bool} (hT : TbOk P T) (ho : o.op = .binOp op t x y yt) (hi : T t = some i) (hk : i.k = .struct fs) (he : i.eq = true)
    (hx : ev x = some u) (hy : ev y = some v) (hu : u.isAgg = true) (hv : v.isAgg = true) (hb : eqF T fs 0 u.cells v.cells = some b) (hc : (op = .eql ∧ c = b) ∨ (op = .neq ∧ c = !b)) : OpOk P o ev H (.d (.v (.bool c))) H :=
  .pure fun ρ S w a hev => by
    obtain ⟨info, d, hok⟩ := hT t i hi
    have hfit := hok.k
    rw [hk] at hfit
    obtain ⟨fields, rfl, hl, hfs⟩ := hfit
    obtain ⟨q1, q2, q3⟩ := hok.eqok he
    have h1 := hev x _ hx
    have h2 := hev y _ hy
    have agg : ∀ {z : AV} {zv : Value}, VR ρ S w z zv → z.isAgg = true → ∃ vs, zv = .agg vs := by
      intro z zv hz ha
      have := hz.isAgg
      rw [ha] at this
      cases zv <;> simp [Value.isAgg] at this
      exact ⟨_, rfl⟩
    obtain ⟨xs, hxs⟩ := agg h1 hu
    obtain ⟨ys, hys⟩ := agg h2 hv
    have c1 := h1.cells
    have c2 := h2.cells
    rw [hxs] at c1
    rw [hys] at c2
    simp only [Value.cells] at c1 c2
    have key : (Op.equal t (.agg xs) (.agg ys)).run P w = .ok b w := by
      show (Op.equalIn (9998 + 1 + 1) t (.agg xs) (.agg ys)).run P w = .ok b w
      generalize 9998 = q
      simp only [Op.equalIn, Sem.run_bind, run_underlying hok.und, Result.andThen_ok, run_program, q2, Bool.false_eq_true, if_false]
      rw [← Array.forIn_toList]
      have := eq_loop hT (ρ := ρ) (S := S) (w := w) q xs ys fields.toList fs 0 u.cells v.cells b (fun j t o hj => by obtain ⟨f, g1, g2⟩ := hfs j t o hj; exact ⟨f, by simpa using g1, g2⟩) (by simpa using hl) (q3 fields rfl)
        (fun j c hj => by obtain ⟨z, g1, g2⟩ := c1.get hj; exact ⟨z, by simpa using g1, g2⟩) (fun j c hj => by obtain ⟨z, g1, g2⟩ := c2.get hj; exact ⟨z, by simpa using g1, g2⟩) hb
      have hrw : ∀ (g : Field → Option Bool × Unit → Sem (ForInStep (Option Bool × Unit))), g = eqBody q xs ys → (forIn fields.toList ((none, ()) : Option Bool × Unit) g : Sem (Option Bool × Unit)).run P w = .ok (if b then (none, ()) else (some false, ())) w := fun g hg => by rw [hg]; exact this
      rw [hrw _ (by rfl)]
      cases b <;> rfl
    refine ⟨.bool c, ?_, .d _ _ (.v _ rfl)⟩
    simp only [execOp, ho, hxs, hys]
    have hg : ∀ op : BinOp, (eqGuard op t x y (.agg xs) (.agg ys)).run P w = .ok () w := by
      intro op
      cases op <;> simp [eqGuard, q1]
    rcases hc with ⟨rfl, rfl⟩ | ⟨rfl, rfl⟩ <;> simp [binOp, hg, key]

/-! ### bytes that become a text -/
/-- The bytes of a row. -/
def bytesA : List AV → Option (List UInt8)
  | [] => some []
  | .d (.v (.int .u8 (.ofNat n))) :: r => match bytesA r with
    | some l => some (UInt8.ofNat n :: l)
    | none => none
  | _ => none

/-! ### windows of rows -/
theorem row_at {G : Ctx} {ρ : List Value} {w : World} (hs : Sat G ρ H w) {id n : Nat} {te : TypeId} {ag : Bool} {sz : Nat} {es : List AV} (hH : H[id]? = some (.row te ag sz es)) (hn : n = es.length) {v : Value} (hv : VR ρ (Fz G ρ H w) w (.row id n) v) :
    ∃ a cap, ρ[id]? = some (.slice a es.length cap) ∧ v = .slice a es.length cap ∧ (1 ≤ es.length → ∃ g, a = some ⟨g, 0, none⟩) ∧ es.length ≤ cap := by
  subst hn
  cases hv with
  | row _ _ ad len cap v hρ hle hv hone =>
    obtain ⟨xs, hown, _⟩ := hs.obj id _ _ hH hρ
    rcases hown.2 with ⟨e1, e2⟩ | ⟨g, cap', cur, e1, _, _, hnc, _⟩
    · cases e1
      exact ⟨none, 0, by rw [e2]; exact hρ, by rw [e2]; exact hv e2, fun h => by omega, by omega⟩
    · cases e1
      exact ⟨_, _, hρ, hv rfl, fun _ => ⟨g, rfl⟩, hnc⟩

theorem win_at {G : Ctx} {ρ : List Value} {w : World} (hs : Sat G ρ H w) {id n sz lo hi : Nat} {te : TypeId} {ag : Bool} {sz' : Nat} {es : List AV} (hH : H[id]? = some (.row te ag sz' es)) (hn : n = es.length) {v : Value} (hv : VR ρ (Fz G ρ H w) w (.win id n sz lo hi) v) :
    ∃ a cap a', ρ[id]? = some (.slice a es.length cap) ∧ v = .slice a' (hi - lo) (cap - lo) ∧ (lo < hi → ∃ g, a = some ⟨g, 0, none⟩ ∧ a' = some ⟨g, lo * sz, none⟩) ∧ es.length ≤ cap ∧ lo ≤ hi ∧ hi ≤ es.length := by
  subst hn
  cases hv with
  | win _ _ _ _ _ ad len cap v hρ hle hlo hhi hv hone =>
    obtain ⟨xs, hown, _⟩ := hs.obj id _ _ hH hρ
    have hlen : len = es.length ∧ es.length ≤ cap := by
      rcases hown.2 with ⟨e1, e2⟩ | ⟨g, cap', cur, e1, _, _, hnc, _⟩
      · cases e1; exact ⟨e2.symm, by omega⟩
      · cases e1; exact ⟨rfl, hnc⟩
    obtain ⟨rfl, hcap⟩ := hlen
    obtain ⟨a', h1, h2⟩ := hv rfl
    exact ⟨ad, cap, a', hρ, h1, h2, hcap, hlo, hhi⟩

theorem run_cut {t e : TypeId} {i ie : TI} (hT : TbOk P T) (hi : T t = some i) (hk : i.k = .slice e) (hie : T e = some ie) {lo hi' : Option Operand} {a : Act} {w : World} {ρ : List Value} {S : Nat → Prop} (he : EvR ρ S w ev a) {ad : Option Addr} {len cap l h : Nat}
    (hl : evB ev 0 lo = some (l : Int)) (hh : evB ev len hi' = some (h : Int)) (h1 : l ≤ h) (h2 : h ≤ cap) :
    ∃ ad', (Instr.sliceAt t (.slice ad len cap) (lo.map a.eval) (hi'.map a.eval) none).run P w = .ok (.slice ad' (h - l) (cap - l)) w ∧ (l < h → ad' = ad.map (·.add (l * ie.sz))) := by
  obtain ⟨info, d, hok⟩ := hT t i hi
  obtain ⟨info', d', hok'⟩ := hT e ie hie
  have hfit := hok.k
  rw [hk] at hfit
  have hd : d = .slice e := hfit
  subst hd
  have hb := run_bounds (P := P) (isSlice := true) (len := len) (cap := cap) he hl hh (Int.natCast_nonneg _) (by omega) (by omega)
  simp only [Int.toNat_natCast] at hb
  by_cases hcl : cap = l
  · refine ⟨ad, ?_, fun hlt => by omega⟩
    simp only [Instr.sliceAt, Instr.slice, Sem.run_bind, run_underlying hok.und, Result.andThen_ok, hb, run_sizeOf' hok', Sem.run_pure]
    rw [if_pos hcl]
  · refine ⟨ad.map (·.add (l * ie.sz)), ?_, fun _ => rfl⟩
    simp only [Instr.sliceAt, Instr.slice, Sem.run_bind, run_underlying hok.und, Result.andThen_ok, hb, run_sizeOf' hok', Sem.run_pure]
    rw [if_neg hcl]

theorem ok_win_row {t e : TypeId} {i ie : TI} {x : Operand} {lo hi' : Option Operand} {id n : Nat} {te : TypeId} {ag : Bool} {es : List AV} {l h : Nat} (hT : TbOk P T) (ho : o.op = .slice t x lo hi' none) (hi : T t = some i) (hk : i.k = .slice e) (hie : T e = some ie)
    (hx : ev x = some (.row id n)) (hH : H[id]? = some (.row te ag ie.sz es)) (hn : n = es.length) (hl : evB ev 0 lo = some (l : Int)) (hh : evB ev n hi' = some (h : Int)) (h1 : l ≤ h) (h2 : h ≤ n) : OpOk P o ev H (.win id n ie.sz l h) H :=
  .of_run fun G ρ w a _ hs he => by
    obtain ⟨ad, cap, hρ, hv, hg, hcap⟩ := row_at hs hH hn (he x _ hx)
    subst hn
    obtain ⟨ad', hr, ha'⟩ := run_cut (P := P) (ad := ad) (cap := cap) hT hi hk hie he hl hh h1 (by omega)
    refine ⟨ρ, w, _, by simp only [execOp, ho, hv, Option.map_none, Sem.run_bind, hr, Result.andThen_ok, Sem.run_pure]; rfl, hs, Step.refl ρ H w, ?_⟩
    refine .win id _ ie.sz l h ad es.length cap _ hρ (Nat.le_refl _) h1 h2 (fun _ => ⟨ad', rfl, fun hlt => ?_⟩) rfl
    obtain ⟨g, rfl⟩ := hg (by omega)
    exact ⟨g, rfl, by rw [ha' hlt]; simp [addr_add]⟩

theorem ok_win_win {t e : TypeId} {i ie : TI} {x : Operand} {lo hi' : Option Operand} {id n a0 b0 : Nat} {te : TypeId} {ag : Bool} {es : List AV} {l h : Nat} (hT : TbOk P T) (ho : o.op = .slice t x lo hi' none) (hi : T t = some i) (hk : i.k = .slice e) (hie : T e = some ie)
    (hx : ev x = some (.win id n ie.sz a0 b0)) (hH : H[id]? = some (.row te ag ie.sz es)) (hn : n = es.length) (hl : evB ev 0 lo = some (l : Int)) (hh : evB ev (Nat.sub b0 a0 : Nat) hi' = some (h : Int)) (h1 : l ≤ h) (h2 : h ≤ b0 - a0) : OpOk P o ev H (.win id n ie.sz (a0 + l) (a0 + h)) H :=
  .of_run fun G ρ w a _ hs he => by
    obtain ⟨ad, cap, a', hρ, hv, hg, hcap, hab, hbl⟩ := win_at hs hH hn (he x _ hx)
    subst hn
    obtain ⟨ad', hr, ha'⟩ := run_cut (P := P) (ad := a') (cap := cap - a0) hT hi hk hie he hl hh h1 (by omega)
    refine ⟨ρ, w, .slice ad' (h - l) (cap - a0 - l), by simp only [execOp, ho, hv, Option.map_none, Sem.run_bind]; rw [show b0 - a0 = Nat.sub b0 a0 from rfl, hr]; rfl, hs, Step.refl ρ H w, ?_⟩
    refine .win id _ ie.sz _ _ ad es.length cap _ hρ (Nat.le_refl _) (by omega) (by omega) (fun _ => ⟨ad', by congr 1 <;> omega, fun hlt => ?_⟩) rfl
    obtain ⟨g, rfl, rfl⟩ := hg (by omega)
    exact ⟨g, rfl, by rw [ha' (by omega)]; simp [addr_add, Nat.add_mul]⟩

theorem ok_len_win {t e : TypeId} {i : TI} {x : Operand} {id n sz a0 b0 : Nat} {te : TypeId} {ag : Bool} {sz' : Nat} {es : List AV} (hT : TbOk P T) (ho : o.op = .call { callee := .builtin .len, args := #[x], argTypes := #[t] }) (hi : T t = some i) (hk : i.k = .slice e)
    (hx : ev x = some (.win id n sz a0 b0)) (hH : H[id]? = some (.row te ag sz' es)) (hn : n = es.length) : OpOk P o ev H (.d (.v (.int .i64 (b0 - a0 : Nat)))) H :=
  ok_len_val (ty := 0) ho fun ρ w G a hG hs he => by
    obtain ⟨ad, cap, a', hρ, hv, _⟩ := win_at hs hH hn (he x _ hx)
    rw [hv]
    exact run_len_slice hT hi hk _ _ _ w

theorem ok_index_win {t e : TypeId} {i ie : TI} {x ix : Operand} {id m a0 b0 : Nat} {te : TypeId} {ag : Bool} {es : List AV} {k : IntKind} {n : Nat} (hT : TbOk P T) (ho : o.op = .indexAddr t x ix) (hi : T t = some i) (hk : i.k = .slice e) (hie : T e = some ie)
    (hx : ev x = some (.win id m ie.sz a0 b0)) (hix : ev ix = some (.d (.v (.int k (Int.ofNat n))))) (hH : H[id]? = some (.row te ag ie.sz es)) (hm : m = es.length) (hn : a0 + n < b0) : OpOk P o ev H (.rp id m ie.sz (a0 + n) 0) H :=
  .of_run fun G ρ w a _ hs he => by
    obtain ⟨ad, cap, a', hρ, hv, hg, hcap, hab, hbl⟩ := win_at hs hH hm (he x _ hx)
    subst hm
    obtain ⟨g, rfl, rfl⟩ := hg (by omega)
    have hia := he.v hix
    have := run_indexAt (P := P) hT hi hk hie g (a0 * ie.sz) (b0 - a0) (cap - a0) k (n : Int) (Int.natCast_nonneg _) (by omega) w
    refine ⟨ρ, w, .pointer (some ⟨g, a0 * ie.sz + n * ie.sz, none⟩), ?_, hs, Step.refl ρ H w, ?_⟩
    · simp only [execOp, ho, hv, hia, Sem.run_bind]
      rw [show (Int.ofNat n) = (n : Int) from rfl, this]
      simp
    · exact .rp id _ ie.sz (a0 + n) 0 _ _ _ _ hρ (Nat.le_refl _) (fun _ => ⟨g, rfl, by rw [Nat.add_mul]; rfl⟩) rfl

end Go.Rc
