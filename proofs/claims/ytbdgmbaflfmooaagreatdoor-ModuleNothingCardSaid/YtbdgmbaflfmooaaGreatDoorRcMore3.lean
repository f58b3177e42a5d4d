/- Bytes that become a text. Conditions: none. -/
import Derived.Test.YtbdgmbaflfmooaaGreatDoorRcMore2
import Derived.Laws.BytesString
set_option linter.unusedVariables false
set_option linter.unusedSimpArgs false
namespace Go.Rc

variable {P : Program} {T : Tb} {o : Oper} {ev : Ev} {H : Heap}

theorem bytesA_spec : ∀ (ys : List AV) (l : List UInt8), bytesA ys = some l → ∃ ns : List Nat, ys = ns.map (fun n => .d (.v (.int .u8 (Int.ofNat n)))) ∧ l = ns.map UInt8.ofNat := by
  intro ys
  induction ys with
  | nil => intro l h; simp [bytesA] at h; exact ⟨[], rfl, by simp [h]⟩
  | cons y r ih =>
    intro l h
    unfold bytesA at h
    split at h
    · rename_i e; cases e
    · rename_i n r' e
      cases e
      split at h
      · rename_i l' hl
        cases h
        obtain ⟨ns, h1, h2⟩ := ih l' hl
        exact ⟨n :: ns, by simp [h1], by simp [h2]⟩
      · cases h
    · cases h

theorem fold_push (ns : List Nat) : ∀ (s : List UInt8), (ns.map Int.ofNat).foldl (fun (r : ByteArray) n => r.push (UInt8.ofNat n.toNat)) ⟨⟨s⟩⟩ = ⟨⟨s ++ ns.map UInt8.ofNat⟩⟩ := by
  induction ns with
  | nil => intro s; simp
  | cons n ns ih =>
    intro s
    simp only [List.map_cons, List.foldl_cons]
    have : (⟨⟨s⟩⟩ : ByteArray).push (UInt8.ofNat (Int.ofNat n).toNat) = ⟨⟨s ++ [UInt8.ofNat n]⟩⟩ := by
      apply bytes_ext
      simp [ByteArray.push]
    rw [this, ih]
    simp

theorem ok_bytes {s t e : TypeId} {is ie it : TI} {x : Operand} {v : AV} {ys : List AV} {l : List UInt8} (hT : TbOk P T) (ho : o.op = .convert s t x) (his : T s = some is) (hk : is.k = .slice e) (hie : T e = some ie) (hke : ie.k = .int .u8) (hz : ie.sz = 1)
    (hit : T t = some it) (hkt : it.k = .str) (hx : ev x = some v) (hsrc : SrcOk H ie.agg ie.sz v ys) (hb : bytesA ys = some l) : OpOk P o ev H (.d (.v (.string ⟨⟨l⟩⟩))) H := by
  obtain ⟨info, d, hok⟩ := hT s is his
  obtain ⟨info', d', hok'⟩ := hT e ie hie
  obtain ⟨info2, d2, hok2⟩ := hT t it hit
  have hfit := hok.k
  rw [hk] at hfit
  have hd : d = .slice e := hfit
  subst hd
  have hfit' := hok'.k
  rw [hke] at hfit'
  have hd' : d' = .int .u8 := hfit'
  subst hd'
  have hfit2 := hok2.k
  rw [hkt] at hfit2
  have hd2 : d2 = .string := hfit2
  subst hd2
  refine .of_run fun G ρ w a _ hst he => ?_
  have hin := src_in hst (by omega) (he x _ hx) hsrc
  obtain ⟨ns, rfl, rfl⟩ := bytesA_spec ys l hb
  refine ⟨ρ, w, .string ⟨⟨ns.map UInt8.ofNat⟩⟩, ?_, hst, Step.refl ρ H w, .d _ _ (.v _ rfl)⟩
  rcases hin with ⟨h1, h2⟩ | ⟨ad, c, news, h1, h2, h3, h4, h5⟩
  · have : ns = [] := by simpa using h2
    subst this
    simp only [execOp, ho, h1, Sem.run_bind, run_convert_bytes_string w s t e _ _ _ hok.und hok'.und hok2.und, Conv.bytesToString, Sem.run_pure, Result.andThen_ok]
    rfl
  · rw [hz] at h2 h5
    have hnews : news = (ns.map Int.ofNat).map (Value.int .u8) := by
      apply List.ext_getElem?
      intro j
      rcases Nat.lt_or_ge j ns.length with hj | hj
      · have hn : ns[j]? = some ns[j] := by simp [hj]
        obtain ⟨y, hy, _, hvy⟩ := h5.2 j (.d (.v (.int .u8 (Int.ofNat ns[j])))) 0 (.d (.v (.int .u8 (Int.ofNat ns[j])))) (by simp [hn]) rfl
        rw [Nat.mul_one, Nat.add_zero] at hy
        rw [hy, dv_inv hvy]
        simp [hn]
      · rw [List.getElem?_eq_none (by rw [h2]; simpa using hj), List.getElem?_eq_none (by simpa using hj)]
    have hload : (loadCells ad ns.length).run P w = .ok ((ns.map Int.ofNat).map (Value.int .u8)).toArray w := by
      have := run_loadCells_list (P := P) w ad news (fun j u hj => h3 j u hj)
      rw [h2] at this
      simp only [List.length_map, Nat.mul_one] at this
      rw [this, hnews]
    have hbs := run_bytesToString (P := P) w ad ns.length c (ns.map Int.ofNat) hload
    have hf := fold_push ns []
    have he0 : (⟨⟨[]⟩⟩ : ByteArray) = ByteArray.empty := rfl
    rw [he0] at hf
    rw [hf] at hbs
    simp only [execOp, ho, h1, Sem.run_bind, run_convert_bytes_string w s t e _ _ _ hok.und hok'.und hok2.und, List.length_map, hbs, Result.andThen_ok, Sem.run_pure, List.nil_append]

/-! ### what an interface's value is -/
def ifcA : AV → Option (TypeId × AV)
  | .ifc t x => some (t, x)
  | .d (.ifc t x) => some (t, .d x)
  | _ => none

theorem ifcA_inv {ρ : List Value} {S : Nat → Prop} {w : World} {v x : AV} {t : TypeId} {y : Value} (h : VR ρ S w v y) (hi : ifcA v = some (t, x)) : ∃ u, y = .iface t u ∧ VR ρ S w x u := by
  cases h with
  | ifc t' x' u hh => simp [ifcA] at hi; obtain ⟨rfl, rfl⟩ := hi; exact ⟨u, rfl, hh⟩
  | d z u hh =>
    cases hh with
    | ifc t' x' u hh => simp [ifcA] at hi; obtain ⟨rfl, rfl⟩ := hi; exact ⟨u, rfl, .d _ _ hh⟩
    | _ => simp [ifcA] at hi
  | _ => simp [ifcA] at hi

def notIfc : TK → Bool
  | .iface => false
  | .other => false
  | _ => true

def assertA (i : TI) (asserted : TypeId) (v : AV) : Option AV :=
  match ifcA v with
  | some (t, x) => match Nat.beq t asserted with
    | true => some (.tup [x, .d (.v (.bool true))])
    | false => some (.tup [zv i, .d (.v (.bool false))])
  | none => match v with
    | .d (.v .nilIface) => some (.tup [zv i, .d (.v (.bool false))])
    | _ => none

theorem ok_typeAssert {x : Operand} {xt asserted : TypeId} {i : TI} {v r : AV} (hT : TbOk P T) (ho : o.op = .typeAssert x xt asserted true) (hi : T asserted = some i) (hk : notIfc i.k = true) (hx : ev x = some v) (hr : assertA i asserted v = some r) : OpOk P o ev H r H :=
  .pure fun ρ S w a he => by
    obtain ⟨info, d, hok⟩ := hT asserted i hi
    have hd : ∀ ms, d ≠ .interface ms := by
      intro ms e
      have hf := hok.k
      subst e
      cases hki : i.k <;> rw [hki] at hf hk <;> simp [TK.fits, notIfc] at hf hk
    obtain ⟨z, hz, hvz⟩ := run_zv (ρ := ρ) (S := S) hok w
    have h := he x v hx
    unfold assertA at hr
    split at hr
    · rename_i t y hia
      obtain ⟨u, hu, hux⟩ := ifcA_inv h hia
      split at hr
      · rename_i ht
        cases hr
        obtain rfl := Nat.eq_of_beq_eq_true ht
        refine ⟨.tuple #[u, .bool true], ?_, tup2 hux true⟩
        simp only [execOp, ho, hu, Instr.typeAssert, Sem.run_bind, run_underlying hok.und, Result.andThen_ok]
        cases d <;> first | exact (hd _ rfl).elim | simp
      · rename_i ht
        cases hr
        have hne : t ≠ asserted := fun e => by subst e; rw [Nat.beq_refl] at ht; cases ht
        refine ⟨.tuple #[z, .bool false], ?_, tup2 hvz false⟩
        simp only [execOp, ho, hu, Instr.typeAssert, Sem.run_bind, run_underlying hok.und, Result.andThen_ok]
        cases d <;> first | exact (hd _ rfl).elim | simp [hne, hz]
    · split at hr
      · cases hr
        have hu := dv_inv h
        refine ⟨.tuple #[z, .bool false], ?_, tup2 hvz false⟩
        simp only [execOp, ho, hu, Instr.typeAssert, Sem.run_bind, run_underlying hok.und, Result.andThen_ok]
        cases d <;> first | exact (hd _ rfl).elim | simp [hz]
      · cases hr

end Go.Rc
