/- The functions compute what the plain functions tell. Conditions: none beyond those that each theorem names. -/
import Derived.Test.YtgngflkahbpecaaGreatDoorU17
namespace Go.Ab
open Go Go.Proofs
set_option linter.unusedVariables false
section
variable {P : Program} {C : Ctx} {F : Act → World → Prop}
noncomputable def w13FS : FS ydE := f1 [] .bool fun _ => isoclinelaw09Known
theorem w13Meets : MT 13 w13FS := ydKnown_meets
noncomputable abbrev w116V : Env := EV [] [] false
noncomputable def w116P0 := c0 Tryz.f116
noncomputable def w116FS : FS ydE := f1 [(.int .u8)] .bool fun x => modelIsLetter x.1
abbrev w116E (C : Ctx) (F : FT) (y : Bool) : Prop := En w116V C F Tryz.f116 w116FS (y, ())
def w116S (a0 : Int) : ST := ⟨17, [ol 0 (.int .u8 a0)], []⟩
theorem w116_w (G : Good w116V P) {y a0} (E : w116E C F y) (h : modelIsLetter a0 = some y) : Goes w116V P C F w116P0 (w116S a0) := by
  unfold modelIsLetter at h
  rcases ite_some h with ⟨b1, h⟩ | ⟨b1, h⟩
  · rcases ite_some h with ⟨b2, h⟩ | ⟨b2, h⟩
    · have e := sj h; subst e
      exact se G E [r0, ru [2, 5, 6, 13], au] (ar 3 b1 <| ar 5 b2 <| tt)
    · rcases ite_some h with ⟨b3, h⟩ | ⟨b3, h⟩
      · have e := sj h; subst e
        exact se G E [r0, rb [6, 13] [2, 5, 9, 12], au] (ar 3 b1 <| ar 3 b2 <| e5 b3 b3 b2 b3 b2)
      · have e := sj h; subst e
        exact se G E [r0, rb [6, 9, 12, 13] [2, 5], au] (ar 3 b1 <| ar 3 b2 <| e5 b3 b3 b2 b3 b2)
  · rcases ite_some h with ⟨b4, h⟩ | ⟨b4, h⟩
    · have e := sj h; subst e
      exact se G E [r0, rb [2, 5, 6, 13] [9, 12], au] (ar 3 b1 <| ar 3 rF <| e5 b4 b4 rF b4 rF)
    · have e := sj h; subst e
      exact se G E [r0, rf [2, 5, 6, 9, 12, 13], au] (ar 3 b1 <| ar 3 rF <| e5 b4 b4 rF b4 rF)
theorem w116Meets : MT 116 w116FS := show Meets w116V _ _ _ from mt (fn := Tryz.f116) (S := fun x => w116S x.1) (GB trivial trivial) fun G _ _ _ _ => w116_w G
noncomputable abbrev w117V : Env := EV [] [] false
noncomputable def w117P0 := c0 Tryz.f117
noncomputable def w117FS : FS ydE := f1 [.str] .bool fun x => modelIsReserved x.1
abbrev w117E (C : Ctx) (F : FT) (y : Bool) : Prop := En w117V C F Tryz.f117 w117FS (y, ())
def w117S (a0 : (List UInt8)) : ST := ⟨48, [ol 0 (.str a0)], []⟩
theorem w117_w (G : Good w117V P) {y a0} (E : w117E C F y) (h : modelIsReserved a0 = some y) : Goes w117V P C F w117P0 (w117S a0) := by
  unfold modelIsReserved at h
  rcases ite_some h with ⟨b1, h⟩ | ⟨b1, h⟩
  · have e := sj h; subst e
    exact se G E [r0, r0, r0, bt, bt, r0, au] (e2 b1 b1)
  · rcases ite_some h with ⟨b2, h⟩ | ⟨b2, h⟩
    · have e := sj h; subst e
      exact se G E [r0, r0, r0, bf, r0, bt, bt, r0, au] (e3 b1 b2 b2)
    · rcases ite_some h with ⟨b3, h⟩ | ⟨b3, h⟩
      · have e := sj h; subst e
        exact se G E [r0, r0, r0, bf, r0, bf, r0, bt, bt, r0, au] (e4 b1 b2 b3 b3)
      · rcases ite_some h with ⟨b4, h⟩ | ⟨b4, h⟩
        · have e := sj h; subst e
          exact se G E [r0, r0, r0, bf, r0, bf, r0, bf, r0, bt, bt, r0, au] (e5 b1 b2 b3 b4 b4)
        · rcases ite_some h with ⟨b5, h⟩ | ⟨b5, h⟩
          · have e := sj h; subst e
            exact se G E [r0, r0, r0, bf, r0, bf, r0, bf, r0, bf, r0, bt, bt, r0, au] (e6 b1 b2 b3 b4 b5 b5)
          · rcases ite_some h with ⟨b6, h⟩ | ⟨b6, h⟩
            · have e := sj h; subst e
              exact se G E [r0, r0, r0, bf, r0, bf, r0, bf, r0, bf, r0, bf, r0, bt, bt, r0, au] (q6 b1 b2 b3 b4 b5 b6 <| e1 b6)
            · rcases ite_some h with ⟨b7, h⟩ | ⟨b7, h⟩
              · have e := sj h; subst e
                exact se G E [r0, r0, r0, bf, r0, bf, r0, bf, r0, bf, r0, bf, r0, bf, r0, bt, bt, r0, au] (q6 b1 b2 b3 b4 b5 b6 <| e2 b7 b7)
              · rcases ite_some h with ⟨b8, h⟩ | ⟨b8, h⟩
                · have e := sj h; subst e
                  exact se G E [r0, r0, r0, bf, r0, bf, r0, bf, r0, bf, r0, bf, r0, bf, r0, bf, r0, bt, bt, r0, au] (q6 b1 b2 b3 b4 b5 b6 <| e3 b7 b8 b8)
                · rcases ite_some h with ⟨b9, h⟩ | ⟨b9, h⟩
                  · have e := sj h; subst e
                    exact se G E [r0, r0, r0, bf, r0, bf, r0, bf, r0, bf, r0, bf, r0, bf, r0, bf, r0, bf, r0, bt, bt, r0, au] (q6 b1 b2 b3 b4 b5 b6 <| e4 b7 b8 b9 b9)
                  · rcases ite_some h with ⟨b10, h⟩ | ⟨b10, h⟩
                    · have e := sj h; subst e
                      exact se G E [r0, r0, r0, bf, r0, bf, r0, bf, r0, bf, r0, bf, r0, bf, r0, bf, r0, bf, r0, bf, r0, bt, bt, r0, au] (q6 b1 b2 b3 b4 b5 b6 <| e5 b7 b8 b9 b10 b10)
                    · rcases ite_some h with ⟨b11, h⟩ | ⟨b11, h⟩
                      · have e := sj h; subst e
                        exact se G E [r0, r0, r0, bf, r0, bf, r0, bf, r0, bf, r0, bf, r0, bf, r0, bf, r0, bf, r0, bf, r0, bf, r0, bt, bt, r0, au] (q6 b1 b2 b3 b4 b5 b6 <| e6 b7 b8 b9 b10 b11 b11)
                      · rcases ite_some h with ⟨b12, h⟩ | ⟨b12, h⟩
                        · have e := sj h; subst e
                          exact se G E [r0, r0, r0, bf, r0, bf, r0, bf, r0, bf, r0, bf, r0, bf, r0, bf, r0, bf, r0, bf, r0, bf, r0, bf, r0, bt, bt, r0, au] (q6 b1 b2 b3 b4 b5 b6 <| q6 b7 b8 b9 b10 b11 b12 <| e1 b12)
                        · rcases ite_some h with ⟨b13, h⟩ | ⟨b13, h⟩
                          · have e := sj h; subst e
                            exact se G E [r0, r0, r0, bf, r0, bf, r0, bf, r0, bf, r0, bf, r0, bf, r0, bf, r0, bf, r0, bf, r0, bf, r0, bf, r0, bf, r0, bt, bt, r0, au] (q6 b1 b2 b3 b4 b5 b6 <| q6 b7 b8 b9 b10 b11 b12 <| e2 b13 b13)
                          · rcases ite_some h with ⟨b14, h⟩ | ⟨b14, h⟩
                            · have e := sj h; subst e
                              exact se G E [r0, r0, r0, bf, r0, bf, r0, bf, r0, bf, r0, bf, r0, bf, r0, bf, r0, bf, r0, bf, r0, bf, r0, bf, r0, bf, r0, bf, r0, bt, bt, r0, au] (q6 b1 b2 b3 b4 b5 b6 <| q6 b7 b8 b9 b10 b11 b12 <| e3 b13 b14 b14)
                            · rcases ite_some h with ⟨b15, h⟩ | ⟨b15, h⟩
                              · have e := sj h; subst e
                                exact se G E [r0, r0, r0, bf, r0, bf, r0, bf, r0, bf, r0, bf, r0, bf, r0, bf, r0, bf, r0, bf, r0, bf, r0, bf, r0, bf, r0, bf, r0, bf, r0, bt, bt, r0, au] (q6 b1 b2 b3 b4 b5 b6 <| q6 b7 b8 b9 b10 b11 b12 <| e4 b13 b14 b15 b15)
                              · rcases ite_some h with ⟨b16, h⟩ | ⟨b16, h⟩
                                · have e := sj h; subst e
                                  exact se G E [r0, r0, r0, bf, r0, bf, r0, bf, r0, bf, r0, bf, r0, bf, r0, bf, r0, bf, r0, bf, r0, bf, r0, bf, r0, bf, r0, bf, r0, bf, r0, bf, r0, bt, bt, r0, au] (q6 b1 b2 b3 b4 b5 b6 <| q6 b7 b8 b9 b10 b11 b12 <| e5 b13 b14 b15 b16 b16)
                                · rcases ite_some h with ⟨b17, h⟩ | ⟨b17, h⟩
                                  · have e := sj h; subst e
                                    exact se G E [r0, r0, r0, bf, r0, bf, r0, bf, r0, bf, r0, bf, r0, bf, r0, bf, r0, bf, r0, bf, r0, bf, r0, bf, r0, bf, r0, bf, r0, bf, r0, bf, r0, bf, r0, bt, bt, r0, au] (q6 b1 b2 b3 b4 b5 b6 <| q6 b7 b8 b9 b10 b11 b12 <| e6 b13 b14 b15 b16 b17 b17)
                                  · rcases ite_some h with ⟨b18, h⟩ | ⟨b18, h⟩
                                    · have e := sj h; subst e
                                      exact se G E [r0, r0, r0, bf, r0, bf, r0, bf, r0, bf, r0, bf, r0, bf, r0, bf, r0, bf, r0, bf, r0, bf, r0, bf, r0, bf, r0, bf, r0, bf, r0, bf, r0, bf, r0, bf, r0, bt, bt, r0, au] (q6 b1 b2 b3 b4 b5 b6 <| q6 b7 b8 b9 b10 b11 b12 <| q6 b13 b14 b15 b16 b17 b18 <| e1 b18)
                                    · rcases ite_some h with ⟨b19, h⟩ | ⟨b19, h⟩
                                      · have e := sj h; subst e
                                        exact se G E [r0, r0, r0, bf, r0, bf, r0, bf, r0, bf, r0, bf, r0, bf, r0, bf, r0, bf, r0, bf, r0, bf, r0, bf, r0, bf, r0, bf, r0, bf, r0, bf, r0, bf, r0, bf, r0, bf, r0, bt, bt, r0, au] (q6 b1 b2 b3 b4 b5 b6 <| q6 b7 b8 b9 b10 b11 b12 <| q6 b13 b14 b15 b16 b17 b18 <| e2 b19 b19)
                                      · rcases ite_some h with ⟨b20, h⟩ | ⟨b20, h⟩
                                        · have e := sj h; subst e
                                          exact se G E [r0, r0, r0, bf, r0, bf, r0, bf, r0, bf, r0, bf, r0, bf, r0, bf, r0, bf, r0, bf, r0, bf, r0, bf, r0, bf, r0, bf, r0, bf, r0, bf, r0, bf, r0, bf, r0, bf, r0, bf, r0, bt, bt, r0, au] (q6 b1 b2 b3 b4 b5 b6 <| q6 b7 b8 b9 b10 b11 b12 <| q6 b13 b14 b15 b16 b17 b18 <| e3 b19 b20 b20)
                                        · rcases ite_some h with ⟨b21, h⟩ | ⟨b21, h⟩
                                          · have e := sj h; subst e
                                            exact se G E [r0, r0, r0, bf, r0, bf, r0, bf, r0, bf, r0, bf, r0, bf, r0, bf, r0, bf, r0, bf, r0, bf, r0, bf, r0, bf, r0, bf, r0, bf, r0, bf, r0, bf, r0, bf, r0, bf, r0, bf, r0, bf, r0, bt, bt, r0, au] (q6 b1 b2 b3 b4 b5 b6 <| q6 b7 b8 b9 b10 b11 b12 <| q6 b13 b14 b15 b16 b17 b18 <| e4 b19 b20 b21 b21)
                                          · rcases ite_some h with ⟨b22, h⟩ | ⟨b22, h⟩
                                            · have e := sj h; subst e
                                              exact se G E [r0, r0, r0, bf, r0, bf, r0, bf, r0, bf, r0, bf, r0, bf, r0, bf, r0, bf, r0, bf, r0, bf, r0, bf, r0, bf, r0, bf, r0, bf, r0, bf, r0, bf, r0, bf, r0, bf, r0, bf, r0, bf, r0, bf, r0, bt, bt, r0, au] (q6 b1 b2 b3 b4 b5 b6 <| q6 b7 b8 b9 b10 b11 b12 <| q6 b13 b14 b15 b16 b17 b18 <| e5 b19 b20 b21 b22 b22)
                                            · rcases ite_some h with ⟨b23, h⟩ | ⟨b23, h⟩
                                              · have e := sj h; subst e
                                                exact se G E [r0, r0, r0, bf, r0, bf, r0, bf, r0, bf, r0, bf, r0, bf, r0, bf, r0, bf, r0, bf, r0, bf, r0, bf, r0, bf, r0, bf, r0, bf, r0, bf, r0, bf, r0, bf, r0, bf, r0, bf, r0, bf, r0, bf, r0, bf, r0, bt, bt, r0, au] (q6 b1 b2 b3 b4 b5 b6 <| q6 b7 b8 b9 b10 b11 b12 <| q6 b13 b14 b15 b16 b17 b18 <| e6 b19 b20 b21 b22 b23 b23)
                                              · rcases ite_some h with ⟨b24, h⟩ | ⟨b24, h⟩
                                                · have e := sj h; subst e
                                                  exact se G E [r0, r0, r0, bf, r0, bf, r0, bf, r0, bf, r0, bf, r0, bf, r0, bf, r0, bf, r0, bf, r0, bf, r0, bf, r0, bf, r0, bf, r0, bf, r0, bf, r0, bf, r0, bf, r0, bf, r0, bf, r0, bf, r0, bf, r0, bf, r0, bf, r0, bt, bt, r0, au] (q6 b1 b2 b3 b4 b5 b6 <| q6 b7 b8 b9 b10 b11 b12 <| q6 b13 b14 b15 b16 b17 b18 <| q6 b19 b20 b21 b22 b23 b24 <| e1 b24)
                                                · rcases ite_some h with ⟨b25, h⟩ | ⟨b25, h⟩
                                                  · have e := sj h; subst e
                                                    exact se G E [r0, r0, r0, bf, r0, bf, r0, bf, r0, bf, r0, bf, r0, bf, r0, bf, r0, bf, r0, bf, r0, bf, r0, bf, r0, bf, r0, bf, r0, bf, r0, bf, r0, bf, r0, bf, r0, bf, r0, bf, r0, bf, r0, bf, r0, bf, r0, bf, r0, bf, r0, bt, bt, r0, au] (q6 b1 b2 b3 b4 b5 b6 <| q6 b7 b8 b9 b10 b11 b12 <| q6 b13 b14 b15 b16 b17 b18 <| q6 b19 b20 b21 b22 b23 b24 <| e2 b25 b25)
                                                  · rcases ite_some h with ⟨b26, h⟩ | ⟨b26, h⟩
                                                    · have e := sj h; subst e
                                                      exact se G E [r0, r0, r0, bf, r0, bf, r0, bf, r0, bf, r0, bf, r0, bf, r0, bf, r0, bf, r0, bf, r0, bf, r0, bf, r0, bf, r0, bf, r0, bf, r0, bf, r0, bf, r0, bf, r0, bf, r0, bf, r0, bf, r0, bf, r0, bf, r0, bf, r0, bf, r0, bf, r0, bt, bt, r0, au] (q6 b1 b2 b3 b4 b5 b6 <| q6 b7 b8 b9 b10 b11 b12 <| q6 b13 b14 b15 b16 b17 b18 <| q6 b19 b20 b21 b22 b23 b24 <| e3 b25 b26 b26)
                                                    · rcases ite_some h with ⟨b27, h⟩ | ⟨b27, h⟩
                                                      · have e := sj h; subst e
                                                        exact se G E [r0, r0, r0, bf, r0, bf, r0, bf, r0, bf, r0, bf, r0, bf, r0, bf, r0, bf, r0, bf, r0, bf, r0, bf, r0, bf, r0, bf, r0, bf, r0, bf, r0, bf, r0, bf, r0, bf, r0, bf, r0, bf, r0, bf, r0, bf, r0, bf, r0, bf, r0, bf, r0, bf, r0, bt, bt, r0, au] (q6 b1 b2 b3 b4 b5 b6 <| q6 b7 b8 b9 b10 b11 b12 <| q6 b13 b14 b15 b16 b17 b18 <| q6 b19 b20 b21 b22 b23 b24 <| e4 b25 b26 b27 b27)
                                                      · rcases ite_some h with ⟨b28, h⟩ | ⟨b28, h⟩
                                                        · have e := sj h; subst e
                                                          exact se G E [r0, r0, r0, bf, r0, bf, r0, bf, r0, bf, r0, bf, r0, bf, r0, bf, r0, bf, r0, bf, r0, bf, r0, bf, r0, bf, r0, bf, r0, bf, r0, bf, r0, bf, r0, bf, r0, bf, r0, bf, r0, bf, r0, bf, r0, bf, r0, bf, r0, bf, r0, bf, r0, bf, r0, bf, r0, bt, bt, r0, au] (q6 b1 b2 b3 b4 b5 b6 <| q6 b7 b8 b9 b10 b11 b12 <| q6 b13 b14 b15 b16 b17 b18 <| q6 b19 b20 b21 b22 b23 b24 <| e5 b25 b26 b27 b28 b28)
                                                        · rcases ite_some h with ⟨b29, h⟩ | ⟨b29, h⟩
                                                          · have e := sj h; subst e
                                                            exact se G E [r0, r0, r0, bf, r0, bf, r0, bf, r0, bf, r0, bf, r0, bf, r0, bf, r0, bf, r0, bf, r0, bf, r0, bf, r0, bf, r0, bf, r0, bf, r0, bf, r0, bf, r0, bf, r0, bf, r0, bf, r0, bf, r0, bf, r0, bf, r0, bf, r0, bf, r0, bf, r0, bf, r0, bf, r0, bf, r0, bt, bt, r0, au] (q6 b1 b2 b3 b4 b5 b6 <| q6 b7 b8 b9 b10 b11 b12 <| q6 b13 b14 b15 b16 b17 b18 <| q6 b19 b20 b21 b22 b23 b24 <| e6 b25 b26 b27 b28 b29 b29)
                                                          · rcases ite_some h with ⟨b30, h⟩ | ⟨b30, h⟩
                                                            · have e := sj h; subst e
                                                              exact se G E [r0, r0, r0, bf, r0, bf, r0, bf, r0, bf, r0, bf, r0, bf, r0, bf, r0, bf, r0, bf, r0, bf, r0, bf, r0, bf, r0, bf, r0, bf, r0, bf, r0, bf, r0, bf, r0, bf, r0, bf, r0, bf, r0, bf, r0, bf, r0, bf, r0, bf, r0, bf, r0, bf, r0, bf, r0, bf, r0, bf, r0, bt, bt, r0, au] (q6 b1 b2 b3 b4 b5 b6 <| q6 b7 b8 b9 b10 b11 b12 <| q6 b13 b14 b15 b16 b17 b18 <| q6 b19 b20 b21 b22 b23 b24 <| q6 b25 b26 b27 b28 b29 b30 <| e1 b30)
                                                            · rcases ite_some h with ⟨b31, h⟩ | ⟨b31, h⟩
                                                              · have e := sj h; subst e
                                                                exact se G E [r0, r0, r0, bf, r0, bf, r0, bf, r0, bf, r0, bf, r0, bf, r0, bf, r0, bf, r0, bf, r0, bf, r0, bf, r0, bf, r0, bf, r0, bf, r0, bf, r0, bf, r0, bf, r0, bf, r0, bf, r0, bf, r0, bf, r0, bf, r0, bf, r0, bf, r0, bf, r0, bf, r0, bf, r0, bf, r0, bf, r0, bf, r0, bt, bt, r0, au] (q6 b1 b2 b3 b4 b5 b6 <| q6 b7 b8 b9 b10 b11 b12 <| q6 b13 b14 b15 b16 b17 b18 <| q6 b19 b20 b21 b22 b23 b24 <| q6 b25 b26 b27 b28 b29 b30 <| e2 b31 b31)
                                                              · rcases ite_some h with ⟨b32, h⟩ | ⟨b32, h⟩
                                                                · have e := sj h; subst e
                                                                  exact se G E [r0, r0, r0, bf, r0, bf, r0, bf, r0, bf, r0, bf, r0, bf, r0, bf, r0, bf, r0, bf, r0, bf, r0, bf, r0, bf, r0, bf, r0, bf, r0, bf, r0, bf, r0, bf, r0, bf, r0, bf, r0, bf, r0, bf, r0, bf, r0, bf, r0, bf, r0, bf, r0, bf, r0, bf, r0, bf, r0, bf, r0, bf, r0, bf, r0, bt, bt, r0, au] (q6 b1 b2 b3 b4 b5 b6 <| q6 b7 b8 b9 b10 b11 b12 <| q6 b13 b14 b15 b16 b17 b18 <| q6 b19 b20 b21 b22 b23 b24 <| q6 b25 b26 b27 b28 b29 b30 <| e3 b31 b32 b32)
                                                                · rcases ite_some h with ⟨b33, h⟩ | ⟨b33, h⟩
                                                                  · have e := sj h; subst e
                                                                    exact se G E [r0, r0, r0, bf, r0, bf, r0, bf, r0, bf, r0, bf, r0, bf, r0, bf, r0, bf, r0, bf, r0, bf, r0, bf, r0, bf, r0, bf, r0, bf, r0, bf, r0, bf, r0, bf, r0, bf, r0, bf, r0, bf, r0, bf, r0, bf, r0, bf, r0, bf, r0, bf, r0, bf, r0, bf, r0, bf, r0, bf, r0, bf, r0, bf, r0, bf, r0, bt, bt, r0, au] (q6 b1 b2 b3 b4 b5 b6 <| q6 b7 b8 b9 b10 b11 b12 <| q6 b13 b14 b15 b16 b17 b18 <| q6 b19 b20 b21 b22 b23 b24 <| q6 b25 b26 b27 b28 b29 b30 <| e4 b31 b32 b33 b33)
                                                                  · rcases ite_some h with ⟨b34, h⟩ | ⟨b34, h⟩
                                                                    · have e := sj h; subst e
                                                                      exact se G E [r0, r0, r0, bf, r0, bf, r0, bf, r0, bf, r0, bf, r0, bf, r0, bf, r0, bf, r0, bf, r0, bf, r0, bf, r0, bf, r0, bf, r0, bf, r0, bf, r0, bf, r0, bf, r0, bf, r0, bf, r0, bf, r0, bf, r0, bf, r0, bf, r0, bf, r0, bf, r0, bf, r0, bf, r0, bf, r0, bf, r0, bf, r0, bf, r0, bf, r0, bf, r0, bt, bt, r0, au] (q6 b1 b2 b3 b4 b5 b6 <| q6 b7 b8 b9 b10 b11 b12 <| q6 b13 b14 b15 b16 b17 b18 <| q6 b19 b20 b21 b22 b23 b24 <| q6 b25 b26 b27 b28 b29 b30 <| e5 b31 b32 b33 b34 b34)
                                                                    · rcases ite_some h with ⟨b35, h⟩ | ⟨b35, h⟩
                                                                      · have e := sj h; subst e
                                                                        exact se G E [r0, r0, r0, bf, r0, bf, r0, bf, r0, bf, r0, bf, r0, bf, r0, bf, r0, bf, r0, bf, r0, bf, r0, bf, r0, bf, r0, bf, r0, bf, r0, bf, r0, bf, r0, bf, r0, bf, r0, bf, r0, bf, r0, bf, r0, bf, r0, bf, r0, bf, r0, bf, r0, bf, r0, bf, r0, bf, r0, bf, r0, bf, r0, bf, r0, bf, r0, bf, r0, bf, r0, bt, bt, r0, au] (q6 b1 b2 b3 b4 b5 b6 <| q6 b7 b8 b9 b10 b11 b12 <| q6 b13 b14 b15 b16 b17 b18 <| q6 b19 b20 b21 b22 b23 b24 <| q6 b25 b26 b27 b28 b29 b30 <| e6 b31 b32 b33 b34 b35 b35)
                                                                      · rcases ite_some h with ⟨b36, h⟩ | ⟨b36, h⟩
                                                                        · have e := sj h; subst e
                                                                          exact se G E [r0, r0, r0, bf, r0, bf, r0, bf, r0, bf, r0, bf, r0, bf, r0, bf, r0, bf, r0, bf, r0, bf, r0, bf, r0, bf, r0, bf, r0, bf, r0, bf, r0, bf, r0, bf, r0, bf, r0, bf, r0, bf, r0, bf, r0, bf, r0, bf, r0, bf, r0, bf, r0, bf, r0, bf, r0, bf, r0, bf, r0, bf, r0, bf, r0, bf, r0, bf, r0, bf, r0, bf, r0, bt, bt, r0, au] (q6 b1 b2 b3 b4 b5 b6 <| q6 b7 b8 b9 b10 b11 b12 <| q6 b13 b14 b15 b16 b17 b18 <| q6 b19 b20 b21 b22 b23 b24 <| q6 b25 b26 b27 b28 b29 b30 <| q6 b31 b32 b33 b34 b35 b36 <| e1 b36)
                                                                        · rcases ite_some h with ⟨b37, h⟩ | ⟨b37, h⟩
                                                                          · have e := sj h; subst e
                                                                            exact se G E [r0, r0, r0, bf, r0, bf, r0, bf, r0, bf, r0, bf, r0, bf, r0, bf, r0, bf, r0, bf, r0, bf, r0, bf, r0, bf, r0, bf, r0, bf, r0, bf, r0, bf, r0, bf, r0, bf, r0, bf, r0, bf, r0, bf, r0, bf, r0, bf, r0, bf, r0, bf, r0, bf, r0, bf, r0, bf, r0, bf, r0, bf, r0, bf, r0, bf, r0, bf, r0, bf, r0, bf, r0, bf, r0, bt, bt, r0, au] (q6 b1 b2 b3 b4 b5 b6 <| q6 b7 b8 b9 b10 b11 b12 <| q6 b13 b14 b15 b16 b17 b18 <| q6 b19 b20 b21 b22 b23 b24 <| q6 b25 b26 b27 b28 b29 b30 <| q6 b31 b32 b33 b34 b35 b36 <| e2 b37 b37)
                                                                          · rcases ite_some h with ⟨b38, h⟩ | ⟨b38, h⟩
                                                                            · have e := sj h; subst e
                                                                              exact se G E [r0, r0, r0, bf, r0, bf, r0, bf, r0, bf, r0, bf, r0, bf, r0, bf, r0, bf, r0, bf, r0, bf, r0, bf, r0, bf, r0, bf, r0, bf, r0, bf, r0, bf, r0, bf, r0, bf, r0, bf, r0, bf, r0, bf, r0, bf, r0, bf, r0, bf, r0, bf, r0, bf, r0, bf, r0, bf, r0, bf, r0, bf, r0, bf, r0, bf, r0, bf, r0, bf, r0, bf, r0, bf, r0, bf, r0, bt, bt, r0, au] (q6 b1 b2 b3 b4 b5 b6 <| q6 b7 b8 b9 b10 b11 b12 <| q6 b13 b14 b15 b16 b17 b18 <| q6 b19 b20 b21 b22 b23 b24 <| q6 b25 b26 b27 b28 b29 b30 <| q6 b31 b32 b33 b34 b35 b36 <| e3 b37 b38 b38)
                                                                            · rcases ite_some h with ⟨b39, h⟩ | ⟨b39, h⟩
                                                                              · have e := sj h; subst e
                                                                                exact se G E [r0, r0, r0, bf, r0, bf, r0, bf, r0, bf, r0, bf, r0, bf, r0, bf, r0, bf, r0, bf, r0, bf, r0, bf, r0, bf, r0, bf, r0, bf, r0, bf, r0, bf, r0, bf, r0, bf, r0, bf, r0, bf, r0, bf, r0, bf, r0, bf, r0, bf, r0, bf, r0, bf, r0, bf, r0, bf, r0, bf, r0, bf, r0, bf, r0, bf, r0, bf, r0, bf, r0, bf, r0, bf, r0, bf, r0, bf, r0, bt, bt, r0, au] (q6 b1 b2 b3 b4 b5 b6 <| q6 b7 b8 b9 b10 b11 b12 <| q6 b13 b14 b15 b16 b17 b18 <| q6 b19 b20 b21 b22 b23 b24 <| q6 b25 b26 b27 b28 b29 b30 <| q6 b31 b32 b33 b34 b35 b36 <| e4 b37 b38 b39 b39)
                                                                              · rcases ite_some h with ⟨b40, h⟩ | ⟨b40, h⟩
                                                                                · have e := sj h; subst e
                                                                                  exact se G E [r0, r0, r0, bf, r0, bf, r0, bf, r0, bf, r0, bf, r0, bf, r0, bf, r0, bf, r0, bf, r0, bf, r0, bf, r0, bf, r0, bf, r0, bf, r0, bf, r0, bf, r0, bf, r0, bf, r0, bf, r0, bf, r0, bf, r0, bf, r0, bf, r0, bf, r0, bf, r0, bf, r0, bf, r0, bf, r0, bf, r0, bf, r0, bf, r0, bf, r0, bf, r0, bf, r0, bf, r0, bf, r0, bf, r0, bf, r0, bf, r0, bt, bt, r0, au] (q6 b1 b2 b3 b4 b5 b6 <| q6 b7 b8 b9 b10 b11 b12 <| q6 b13 b14 b15 b16 b17 b18 <| q6 b19 b20 b21 b22 b23 b24 <| q6 b25 b26 b27 b28 b29 b30 <| q6 b31 b32 b33 b34 b35 b36 <| e5 b37 b38 b39 b40 b40)
                                                                                · rcases ite_some h with ⟨b41, h⟩ | ⟨b41, h⟩
                                                                                  · have e := sj h; subst e
                                                                                    exact se G E [r0, r0, r0, bf, r0, bf, r0, bf, r0, bf, r0, bf, r0, bf, r0, bf, r0, bf, r0, bf, r0, bf, r0, bf, r0, bf, r0, bf, r0, bf, r0, bf, r0, bf, r0, bf, r0, bf, r0, bf, r0, bf, r0, bf, r0, bf, r0, bf, r0, bf, r0, bf, r0, bf, r0, bf, r0, bf, r0, bf, r0, bf, r0, bf, r0, bf, r0, bf, r0, bf, r0, bf, r0, bf, r0, bf, r0, bf, r0, bf, r0, bf, r0, bt, bt, r0, au] (q6 b1 b2 b3 b4 b5 b6 <| q6 b7 b8 b9 b10 b11 b12 <| q6 b13 b14 b15 b16 b17 b18 <| q6 b19 b20 b21 b22 b23 b24 <| q6 b25 b26 b27 b28 b29 b30 <| q6 b31 b32 b33 b34 b35 b36 <| e6 b37 b38 b39 b40 b41 b41)
                                                                                  · rcases ite_some h with ⟨b42, h⟩ | ⟨b42, h⟩
                                                                                    · have e := sj h; subst e
                                                                                      exact se G E [r0, r0, r0, bf, r0, bf, r0, bf, r0, bf, r0, bf, r0, bf, r0, bf, r0, bf, r0, bf, r0, bf, r0, bf, r0, bf, r0, bf, r0, bf, r0, bf, r0, bf, r0, bf, r0, bf, r0, bf, r0, bf, r0, bf, r0, bf, r0, bf, r0, bf, r0, bf, r0, bf, r0, bf, r0, bf, r0, bf, r0, bf, r0, bf, r0, bf, r0, bf, r0, bf, r0, bf, r0, bf, r0, bf, r0, bf, r0, bf, r0, bf, r0, bf, r0, bt, bt, r0, au] (q6 b1 b2 b3 b4 b5 b6 <| q6 b7 b8 b9 b10 b11 b12 <| q6 b13 b14 b15 b16 b17 b18 <| q6 b19 b20 b21 b22 b23 b24 <| q6 b25 b26 b27 b28 b29 b30 <| q6 b31 b32 b33 b34 b35 b36 <| q6 b37 b38 b39 b40 b41 b42 <| e1 b42)
                                                                                    · rcases ite_some h with ⟨b43, h⟩ | ⟨b43, h⟩
                                                                                      · have e := sj h; subst e
                                                                                        exact se G E [r0, r0, r0, bf, r0, bf, r0, bf, r0, bf, r0, bf, r0, bf, r0, bf, r0, bf, r0, bf, r0, bf, r0, bf, r0, bf, r0, bf, r0, bf, r0, bf, r0, bf, r0, bf, r0, bf, r0, bf, r0, bf, r0, bf, r0, bf, r0, bf, r0, bf, r0, bf, r0, bf, r0, bf, r0, bf, r0, bf, r0, bf, r0, bf, r0, bf, r0, bf, r0, bf, r0, bf, r0, bf, r0, bf, r0, bf, r0, bf, r0, bf, r0, bf, r0, bf, r0, bt, r0, au] (q6 b1 b2 b3 b4 b5 b6 <| q6 b7 b8 b9 b10 b11 b12 <| q6 b13 b14 b15 b16 b17 b18 <| q6 b19 b20 b21 b22 b23 b24 <| q6 b25 b26 b27 b28 b29 b30 <| q6 b31 b32 b33 b34 b35 b36 <| q6 b37 b38 b39 b40 b41 b42 <| e1 b43)
                                                                                      · have e := sj h; subst e
                                                                                        exact se G E [r0, r0, r0, bf, r0, bf, r0, bf, r0, bf, r0, bf, r0, bf, r0, bf, r0, bf, r0, bf, r0, bf, r0, bf, r0, bf, r0, bf, r0, bf, r0, bf, r0, bf, r0, bf, r0, bf, r0, bf, r0, bf, r0, bf, r0, bf, r0, bf, r0, bf, r0, bf, r0, bf, r0, bf, r0, bf, r0, bf, r0, bf, r0, bf, r0, bf, r0, bf, r0, bf, r0, bf, r0, bf, r0, bf, r0, bf, r0, bf, r0, bf, r0, bf, r0, bf, r0, bf, r0, au] (q6 b1 b2 b3 b4 b5 b6 <| q6 b7 b8 b9 b10 b11 b12 <| q6 b13 b14 b15 b16 b17 b18 <| q6 b19 b20 b21 b22 b23 b24 <| q6 b25 b26 b27 b28 b29 b30 <| q6 b31 b32 b33 b34 b35 b36 <| q6 b37 b38 b39 b40 b41 b42 <| e1 b43)
theorem w117Meets : MT 117 w117FS := show Meets w117V _ _ _ from mt (fn := Tryz.f117) (S := fun x => w117S x.1) (GB trivial trivial) fun G _ _ _ _ => w117_w G
noncomputable abbrev w118V : Env := EV [] [] false
noncomputable def w118P0 := c0 Tryz.f118
noncomputable def w118FS : FS ydE := f1 [(.int .u8)] .bool fun x => modelIsDigit x.1
abbrev w118E (C : Ctx) (F : FT) (y : Bool) : Prop := En w118V C F Tryz.f118 w118FS (y, ())
def w118S (a0 : Int) : ST := ⟨9, [ol 0 (.int .u8 a0)], []⟩
theorem w118_w (G : Good w118V P) {y a0} (E : w118E C F y) (h : modelIsDigit a0 = some y) : Goes w118V P C F w118P0 (w118S a0) := by
  unfold modelIsDigit at h
  rcases ite_some h with ⟨b1, h⟩ | ⟨b1, h⟩
  · have e := sj h; subst e
    exact se G E [r0, ru [2, 5], au] (ar 3 b1 <| tt)
  · have e := sj h; subst e
    exact se G E [r0, rf [2, 5], au] (ar 3 b1 <| tt)
theorem w118Meets : MT 118 w118FS := show Meets w118V _ _ _ from mt (fn := Tryz.f118) (S := fun x => w118S x.1) (GB trivial trivial) fun G _ _ _ _ => w118_w G
noncomputable abbrev w84V : Env := EV [(116, w116FS), (117, w117FS), (118, w118FS)] [] false
noncomputable def w84P0 := c0 Tryz.f84
noncomputable def w84FS : FS ydE := f1 [.str] .bool fun x => modelIsSimple x.1
noncomputable def w84P1 := ct [0, 0, 3, 4] w84P0
noncomputable def w84P2 := ct [0, 0, 2, 0, 1] w84P0
noncomputable def w84P3 := ct [0, 3, 0, 0, 2, 4] w84P2
noncomputable def w84P4 := ct [0, 2, 4] w84P2
abbrev w84E (C : Ctx) (F : FT) (y : Bool) : Prop := En w84V C F Tryz.f84 w84FS (y, ())
def w84L1X1 (r1 : Unit) : ST := ⟨46, [], []⟩
def w84J1S : ST := ⟨46, [], []⟩
def w84J2S (a0 : (List UInt8)) (v1 : Int) : ST := ⟨46, [ol 0 (.str a0), oi 23 (a0.length : Int), oi 24 v1], []⟩
def w84L1S (a0 : (List UInt8)) (v : Int) : ST := ⟨46, [ol 0 (.str a0), oi 23 (a0.length : Int), oi 24 v], []⟩
def w84S (a0 : (List UInt8)) : ST := ⟨46, [ol 0 (.str a0)], []⟩
theorem w84J1_w (G : Good w84V P) {y} (E : w84E C F y) (h : modelIsSimpleJ1 = some y) : Goes w84V P C F w84P1 (w84J1S) := by
  unfold modelIsSimpleJ1 at h
  have e := sj h; subst e
  exact se G E [r0, au] tt
theorem w84J2_w (G : Good w84V P) {y o a0 v1} (E : w84E C F y) (h : modelIsSimpleJ2 a0 v1 = some o) (L : LP w84V P C F w84P2 (w84L1S a0) (Sum.elim (GX w84V P C F w84P4 w84L1X1) (RX y)) o) : Goes w84V P C F w84P3 (w84J2S a0 v1) := by
  unfold modelIsSimpleJ2 at h
  exact sg G [r0, en] tt (L.1 _ (si h))
theorem w84L1_w (G : Good w84V P) {y a0} (E : w84E C F y) (v : Int) o (h : modelIsSimpleL1 a0 v = some o) (L : LP w84V P C F w84P2 (w84L1S a0) (Sum.elim (GX w84V P C F w84P4 w84L1X1) (RX y)) o) : Goes w84V P C F w84P2 (w84L1S a0 v) := by
  unfold modelIsSimpleL1 at h
  rcases ite_some h with ⟨b5, h⟩ | ⟨b5, h⟩
  · obtain ⟨c4, h⟩ := need_some h
    obtain ⟨y3, c5, h⟩ := bind_some h
    rcases ite_some h with ⟨b6, h⟩ | ⟨b6, h⟩
    · obtain ⟨c6, h⟩ := need_some h
      obtain ⟨y4, c7, h⟩ := bind_some h
      rcases ite_some h with ⟨b7, h⟩ | ⟨b7, h⟩
      · obtain ⟨c8, h⟩ := need_some h
        rcases ite_some h with ⟨b8, h⟩ | ⟨b8, h⟩
        · have e : _ = y := L.2 _ (si h); subst e
          exact se G E [r0, bt, r0, rg [] [5, 11, 12, 17] [(3, rs .bool y3), (9, rs .bool y4)], bt, r0, au] (q3 b5 c4 (ca c5) <| ar 3 b6 <| q5 c6 b6 (ca c7) b6 b6 <| ar 3 b7 <| e4 c8 b7 b7 b8)
        · exact sg G [r0, bt, r0, rg [] [5, 11, 12, 17] [(3, rs .bool y3), (9, rs .bool y4)], bf, au] (q3 b5 c4 (ca c5) <| ar 3 b6 <| q5 c6 b6 (ca c7) b6 b6 <| ar 3 b7 <| e4 c8 b7 b7 b8) (w84J2_w G E h L)
      · exact sg G [r0, bt, r0, rg [12, 17] [5, 11] [(3, rs .bool y3), (9, rs .bool y4)], bf, au] (q3 b5 c4 (ca c5) <| ar 3 b6 <| q5 c6 b6 (ca c7) b6 b6 <| ar 5 b7 <| e1 rF) (w84J2_w G E h L)
    · exact sg G [r0, bt, r0, rg [5, 11, 12, 17] [] [(3, rs .bool y3)], bf, au] (q3 b5 c4 (ca c5) <| ar 6 b6 <| ar 6 rF <| tt) (w84J2_w G E h L)
  · exact sg G [r0, bf, au] (e1 b5) (L.2 _ (si h))
theorem w84_w (G : Good w84V P) {y a0} (E : w84E C F y) (h : modelIsSimple a0 = some y) : Goes w84V P C F w84P0 (w84S a0) := by
  unfold modelIsSimple at h
  rcases ite_some h with ⟨b1, h⟩ | ⟨b1, h⟩
  · exact sg G [r0, ru [3, 7, 8, 13, 14, 17], bt, au] (ar 4 b1 <| ar 9 rT <| tt) (w84J1_w G E h)
  · rcases ite_some h with ⟨b2, h⟩ | ⟨b2, h⟩
    · exact sg G [r0, rb [3, 7] [8, 13, 14, 17], bt, au] (ar 4 b1 <| ar 5 b2 <| ar 4 rT <| tt) (w84J1_w G E h)
    · obtain ⟨c1, h⟩ := need_some h
      obtain ⟨y1, c2, h⟩ := bind_some h
      rcases ite_some h with ⟨b3, h⟩ | ⟨b3, h⟩
      · exact sg G [r0, rg [3, 7, 8, 13] [14, 17] [(11, rs .bool y1)], bt, au] (ar 4 b1 <| q6 b2 b2 c1 b2 (ca c2) b2 <| q1 b2 <| ar 3 b3 <| e1 rT) (w84J1_w G E h)
      · obtain ⟨y2, c3, h⟩ := bind_some h
        rcases ite_some h with ⟨b4, h⟩ | ⟨b4, h⟩
        · exact sg G [r0, rg [3, 7, 8, 13, 14, 17] [] [(11, rs .bool y1), (16, rs .bool y2)], bt, au] (ar 4 b1 <| q6 b2 b2 c1 b2 (ca c2) b2 <| e6 b2 b3 b3 (ca c3) b3 b4) (w84J1_w G E h)
        · obtain ⟨r, hi, h⟩ := bind_some h
          refine sg G [r0, rg [3, 7, 8, 13, 14, 17] [] [(11, rs .bool y1), (16, rs .bool y2)], bf, r0, en] (ar 4 b1 <| q6 b2 b2 c1 b2 (ca c2) b2 <| e6 b2 b3 b3 (ca c3) b3 b4) (lg (w84L1_w G E) hi ?_)
          rcases r with r1 | r2
          · have e := sj h; subst e
            exact se G E [r0, au] tt
          · exact sj h
theorem w84Meets : MT 84 w84FS := show Meets w84V _ _ _ from mt (fn := Tryz.f84) (S := fun x => w84S x.1) (GB ⟨w116Meets, w117Meets, w118Meets, trivial⟩ trivial) fun G _ _ _ _ => w84_w G
theorem allIn_eq (g : List UInt8 → Bool) : ∀ s acc : List UInt8, allIn g acc s = allDot g acc s
  | [], acc => by unfold allIn allDot; rfl
  | c :: r, acc => by
    rw [allIn_cons, allDot, allIn_eq g r [], allIn_eq g r (acc ++ [c])]
noncomputable def w54FS : FS ydE := f1 [.str] .bool fun x => scopeIsPath x.1
theorem w54Meets : MT 54 w54FS := of_strBool ⟨Tryz.f54, by kernel_rfl, by kernel_rfl, by kernel_rfl⟩ fun s b w h => by
  unfold scopeIsPath at h
  split at h
  · rename_i hs
    cases h
    rw [← allIn_eq]
    refine callsIn_wide.1 (Tryz.isPath_in (fun x => (modelIsSimple x).getD false) (fun x w hx => ?_) s hs.2 w)
    obtain ⟨b, hb⟩ := Option.isSome_iff_exists.1 (hs.1 x hx)
    show Calls _ _ _ _ fun e w' => e = .returned (.bool ((modelIsSimple x).getD false)) ∧ _
    rw [hb]
    exact strBool_of (g := modelIsSimple) w84Meets x b w hb
  · cases h
noncomputable abbrev w55V : Env := EV [] [] false
noncomputable def w55P0 := c0 Tryz.f55
noncomputable def w55FS : FS ydE := f1 [(.sl (.nm 2))] .bool fun x => scopeIsClean x.1
noncomputable def w55P1 := ct [0, 0, 0, 1] w55P0
noncomputable def w55P2 := ct [0, 2, 4] w55P1
abbrev w55E (C : Ctx) (F : FT) (y : Bool) : Prop := En w55V C F Tryz.f55 w55FS (y, ())
def w55L1X1 (r1 : Unit) : ST := ⟨21, [], []⟩
def w55L1S (a0 : (List ApiMod)) (v : Int × (List ((List UInt8) × Bool))) : ST := ⟨21, [ol 3 (.mp 6), os 7 (.nm 2) a0, oi 8 (a0.length : Int), oi 9 v.1], [(6, .map .str .bool v.2)]⟩
def w55S (a0 : (List ApiMod)) : ST := ⟨21, [os 0 (.nm 2) a0], []⟩
theorem w55L1_w (G : Good w55V P) {y a0} (E : w55E C F y) (v : Int × (List ((List UInt8) × Bool))) o (h : scopeIsCleanL1 a0 v.1 v.2 = some o) (L : LP w55V P C F w55P1 (w55L1S a0) (Sum.elim (GX w55V P C F w55P2 w55L1X1) (RX y)) o) : Goes w55V P C F w55P1 (w55L1S a0 v) := by
  unfold scopeIsCleanL1 at h
  rcases ite_some h with ⟨b1, h⟩ | ⟨b1, h⟩
  · obtain ⟨c1, h⟩ := need_some h
    rcases ite_some h with ⟨b2, h⟩ | ⟨b2, h⟩
    · have e : _ = y := L.2 _ (si h); subst e
      exact se G E [r0, bt, r0, r0, bt, r0, au] (e3 b1 c1 b2)
    · exact sg G [r0, bt, r0, r0, bf, r0, r0, en] (e3 b1 c1 b2) (L.1 _ (si h))
  · exact sg G [r0, bf, au] (e1 b1) (L.2 _ (si h))
theorem w55_w (G : Good w55V P) {y a0} (E : w55E C F y) (h : scopeIsClean a0 = some y) : Goes w55V P C F w55P0 (w55S a0) := by
  unfold scopeIsClean at h
  obtain ⟨r, hi, h⟩ := bind_some h
  refine sg G [r0, r0, r0, en] tt (lg (w55L1_w G E) hi ?_)
  rcases r with r1 | r2
  · have e := sj h; subst e
    exact se G E [r0, au] tt
  · exact sj h
theorem w55Meets : MT 55 w55FS := show Meets w55V _ _ _ from mt (fn := Tryz.f55) (S := fun x => w55S x.1) (GB trivial trivial) fun G _ _ _ _ => w55_w G
noncomputable abbrev w86V : Env := EV [] [] false
noncomputable def w86P0 := c0 Tryz.f86
abbrev w86E (C : Ctx) (F : FT) (y : Bool) : Prop := Ends w86V C F Tryz.f86.results.toList [] [.bool] (y, ())
def w86S (z0 : ApiMod) (a0 : ApiMod) : ST := ⟨9, [og 0 (ydToApiMod a0), ol 1 (.cp (.nm 2) z0 0)], []⟩
theorem w86_w (G : Good w86V P) {y z0 a0} (E : w86E C F y) (h : scopeMerge_1 z0 a0 = some y) : Goes w86V P C F w86P0 (w86S z0 a0) := by
  unfold scopeMerge_1 at h
  have e := sj h; subst e
  exact se G E [r0, r0, au] tt
noncomputable def w86FC : FC ydE := ⟨(.nm 2), [(.nm 2)], [.bool], Bool, fun c x => scopeMerge_1 c x.1, fun r => (r, ()), .ptr⟩
theorem w86Meets : MCT 86 w86FC := show MeetsC w86V _ _ _ from mc (fn := Tryz.f86) (S := fun c x => w86S c x.1) (GB trivial trivial) fun G _ _ _ _ _ E h => w86_w G E h
noncomputable abbrev w85V : Env := EC [] [] [(86, w86FC)] false
noncomputable def w85P0 := c0 Tryz.f85
noncomputable def w85P1 := ct [0, 0, 1] w85P0
noncomputable def w85P2 := ct [0, 2, 4] w85P1
abbrev w85E (C : Ctx) (F : FT) (y : Int) : Prop := Ends w85V C F Tryz.f85.results.toList [] [(.int .i64)] (y, ())
def w85L1X1 (r1 : Unit) : ST := ⟨19, [], []⟩
def w85L1S (a0 : (List ApiMod)) (z0 : ApiMod) (v : Int) : ST := ⟨19, [os 0 (.nm 2) a0, ol 1 (.clo 86 [.cp (.nm 2) z0 0]), oi 7 (a0.length : Int), oi 8 v], []⟩
def w85S (z0 : ApiMod) (a0 : (List ApiMod)) : ST := ⟨19, [os 0 (.nm 2) a0, ol 1 (.clo 86 [.cp (.nm 2) z0 0])], []⟩
theorem w85L1_w (G : Good w85V P) {y a0 z0} (E : w85E C F y) (v : Int) o (h : apiMod_L1 a0 z0 v = some o) (L : LP w85V P C F w85P1 (w85L1S a0 z0) (Sum.elim (GX w85V P C F w85P2 w85L1X1) (RX y)) o) : Goes w85V P C F w85P1 (w85L1S a0 z0 v) := by
  unfold apiMod_L1 at h
  rcases ite_some h with ⟨b1, h⟩ | ⟨b1, h⟩
  · obtain ⟨c1, h⟩ := need_some h
    obtain ⟨y1, c2, h⟩ := bind_some h
    rcases ite_some h with ⟨b2, h⟩ | ⟨b2, h⟩
    · have e : _ = y := L.2 _ (si h); subst e
      exact se G E [r0, bt, r0, rc 5 (rs .bool y1), bt, r0, au] (e4 b1 c1 (ca c2) b2)
    · exact sg G [r0, bt, r0, rc 5 (rs .bool y1), bf, r0, en] (e4 b1 c1 (ca c2) b2) (L.1 _ (si h))
  · exact sg G [r0, bf, au] (e1 b1) (L.2 _ (si h))
theorem w85_w (G : Good w85V P) {y z0 a0} (E : w85E C F y) (h : apiMod_ z0 a0 = some y) : Goes w85V P C F w85P0 (w85S z0 a0) := by
  unfold apiMod_ at h
  obtain ⟨r, hi, h⟩ := bind_some h
  refine sg G [r0, r0, en] tt (lg (w85L1_w G E) hi ?_)
  rcases r with r1 | r2
  · have e := sj h; subst e
    exact se G E [r0, au] tt
  · exact sj h
noncomputable def w85FC : FC ydE := ⟨(.nm 2), [(.sl (.nm 2))], [(.int .i64)], Int, fun c x => apiMod_ c x.1, fun r => (r, ()), (.clo 86)⟩
theorem w85Meets : MCT 85 w85FC := show MeetsC w85V _ _ _ from mc (fn := Tryz.f85) (S := fun c x => w85S c x.1) (GC trivial trivial ⟨w86Meets, trivial⟩) fun G _ _ _ _ _ E h => w85_w G E h
noncomputable abbrev w56V : Env := EC [] [] [(85, w85FC)] false
noncomputable def w56P0 := c0 Tryz.f56
noncomputable def w56FS : FS ydE := f1 [(.sl (.nm 2)), (.sl (.nm 2))] (.sl (.nm 2)) fun x => scopeMergeIn x.1 x.2.1
noncomputable def w56P1 := ct [0, 0, 0, 0, 1] w56P0
noncomputable def w56P2 := ct [0, 3, 0, 0, 0, 3, 0, 0, 4] w56P1
noncomputable def w56P3 := ct [0, 2, 4] w56P1
noncomputable def w56P4 := ct [0, 1] w56P3
noncomputable def w56P5 := ct [0, 3, 0, 0, 3, 0, 4] w56P4
noncomputable def w56P6 := ct [0, 2, 4] w56P4
abbrev w56E (C : Ctx) (F : FT) (y : (List ApiMod)) : Prop := En w56V C F Tryz.f56 w56FS (y, ())
def w56L1X1 (a0 : (List ApiMod)) (r1 : ((List ((List UInt8) × Bool)) × (List ApiMod))) : ST := ⟨53, [os 0 (.nm 2) a0, ol 5 (.ar 34 0), ol 6 (.mp 12)], [(12, .map .str .bool r1.1), ba 34 75 (.nm 2) r1.2]⟩
def w56L2X1 (r2 : (List ApiMod)) : ST := ⟨53, [ol 5 (.ar 34 0)], [ba 34 75 (.nm 2) r2]⟩
def w56J1S (a0 : (List ApiMod)) (a1 : (List ApiMod)) (v1 : Int) (v3 : (List ApiMod)) (v4 : (List UInt8)) (v5 : (List UInt8)) (v6 : Int) (v7 : (List UInt8)) (v8 : Int) (v9 : Int) (v10 : (List ApiExpr)) (v11 : (List ((List UInt8) × Bool))) : ST := ⟨53, [os 0 (.nm 2) a0, ol 5 (.ar 34 0), ol 6 (.mp 12), op 8, os 13 (.nm 2) a1, oi 14 (a1.length : Int), oi 15 v1], [bc 8 [.str v4, .str v5, .int .i64 v6, .str v7, .int .i64 v8, .int .i64 v9, .sl (.nm 1) false v10], (12, .map .str .bool v11), ba 34 75 (.nm 2) v3]⟩
def w56L1S (a0 : (List ApiMod)) (a1 : (List ApiMod)) (v : Int × (List ((List UInt8) × Bool)) × (List ApiMod)) : ST := ⟨53, [os 0 (.nm 2) a0, ol 5 (.ar 34 0), ol 6 (.mp 12), os 13 (.nm 2) a1, oi 14 (a1.length : Int), oi 15 v.1], [(12, .map .str .bool v.2.1), ba 34 75 (.nm 2) v.2.2]⟩
def w56J2S (a0 : (List ApiMod)) (v14 : Int) (v16 : (List ApiMod)) (r1 : ((List ((List UInt8) × Bool)) × (List ApiMod))) : ST := ⟨53, [ol 5 (.ar 34 0), ol 6 (.mp 12), os 36 (.nm 2) a0, oi 37 (a0.length : Int), oi 38 v14], [(12, .map .str .bool r1.1), ba 34 75 (.nm 2) v16]⟩
def w56L2S (a0 : (List ApiMod)) (r1 : ((List ((List UInt8) × Bool)) × (List ApiMod))) (v : Int × (List ApiMod)) : ST := ⟨53, [ol 5 (.ar 34 0), ol 6 (.mp 12), os 36 (.nm 2) a0, oi 37 (a0.length : Int), oi 38 v.1], [(12, .map .str .bool r1.1), ba 34 75 (.nm 2) v.2]⟩
def w56S (a0 : (List ApiMod)) (a1 : (List ApiMod)) : ST := ⟨53, [os 0 (.nm 2) a0, os 1 (.nm 2) a1], []⟩
theorem w56J1_w (G : Good w56V P) {y o a0 a1 v1 v3 v4 v5 v6 v7 v8 v9 v10 v11} (E : w56E C F y) (h : scopeMergeInJ1 a0 a1 v1 v3 v4 v5 v6 v7 v8 v9 v10 v11 = some o) (L : LP w56V P C F w56P1 (w56L1S a0 a1) (GX w56V P C F w56P3 (w56L1X1 a0)) o) : Goes w56V P C F w56P2 (w56J1S a0 a1 v1 v3 v4 v5 v6 v7 v8 v9 v10 v11) := by
  unfold scopeMergeInJ1 at h
  obtain ⟨c4, h⟩ := need_some h
  exact sg G [r0, r0, en, .weak [.re 34 34 0]] (e1 c4) (L.1 _ (si h))
theorem w56L1_w (G : Good w56V P) {y a0 a1} (E : w56E C F y) (v : Int × (List ((List UInt8) × Bool)) × (List ApiMod)) o (h : scopeMergeInL1 a0 a1 v.1 v.2.1 v.2.2 = some o) (L : LP w56V P C F w56P1 (w56L1S a0 a1) (GX w56V P C F w56P3 (w56L1X1 a0)) o) : Goes w56V P C F w56P1 (w56L1S a0 a1 v) := by
  unfold scopeMergeInL1 at h
  rcases ite_some h with ⟨b1, h⟩ | ⟨b1, h⟩
  · obtain ⟨c1, h⟩ := need_some h
    obtain ⟨y1, c2, h⟩ := bind_some h
    rcases ite_some h with ⟨b2, h⟩ | ⟨b2, h⟩
    · obtain ⟨c3, h⟩ := need_some h
      exact sg G [r0, bt, r0, rc 2 (rs (.int .i64) y1), r0, bt, r0, r0, au] (e5 b1 c1 (ca c2) b2 c3) (w56J1_w G E h L)
    · exact sg G [r0, bt, r0, rc 2 (rs (.int .i64) y1), r0, bf, au] (e4 b1 c1 (ca c2) b2) (w56J1_w G E h L)
  · exact sg G [r0, bf, au] (e1 b1) (L.2 _ (si h))
theorem w56J2_w (G : Good w56V P) {y o a0 v14 v16 r1} (E : w56E C F y) (h : scopeMergeInJ2 a0 v14 v16 r1 = some o) (L : LP w56V P C F w56P4 (w56L2S a0 r1) (GX w56V P C F w56P6 w56L2X1) o) : Goes w56V P C F w56P5 (w56J2S a0 v14 v16 r1) := by
  unfold scopeMergeInJ2 at h
  exact sg G [r0, en] tt (L.1 _ (si h))
theorem w56L2_w (G : Good w56V P) {y a0 r1} (E : w56E C F y) (v : Int × (List ApiMod)) o (h : scopeMergeInL2 a0 r1 v.1 v.2 = some o) (L : LP w56V P C F w56P4 (w56L2S a0 r1) (GX w56V P C F w56P6 w56L2X1) o) : Goes w56V P C F w56P4 (w56L2S a0 r1 v) := by
  unfold scopeMergeInL2 at h
  rcases ite_some h with ⟨b3, h⟩ | ⟨b3, h⟩
  · obtain ⟨c5, h⟩ := need_some h
    rcases ite_some h with ⟨b4, h⟩ | ⟨b4, h⟩
    · obtain ⟨c6, h⟩ := need_some h
      exact sg G [r0, bt, r0, r0, bt, r0, au, .weak [.re 34 34 0]] (e4 b3 c5 b4 c6) (w56J2_w G E h L)
    · exact sg G [r0, bt, r0, r0, bf, au] (e3 b3 c5 b4) (w56J2_w G E h L)
  · exact sg G [r0, bf, au] (e1 b3) (L.2 _ (si h))
theorem w56_w (G : Good w56V P) {y a0 a1} (E : w56E C F y) (h : scopeMergeIn a0 a1 = some y) : Goes w56V P C F w56P0 (w56S a0 a1) := by
  unfold scopeMergeIn at h
  obtain ⟨r1, hi, h⟩ := bind_some h
  refine sg G [r0, r0, r0, r0, en, .weak [.own (.slot 5) 0 34 75 0]] tt (lg (w56L1_w G E) hi ?_)
  obtain ⟨r2, hi, h⟩ := bind_some h
  refine sg G [r0, en] tt (lg (w56L2_w G E) hi ?_)
  have e := sj h; subst e
  exact se G E [r0, au, .weak [.fix (.slot 4)]] tt
theorem w56Meets : MT 56 w56FS := show Meets w56V _ _ _ from mt (fn := Tryz.f56) (S := fun x => w56S x.1 x.2.1) (GC trivial trivial ⟨w85Meets, trivial⟩) fun G _ _ _ _ => w56_w G
noncomputable abbrev w120V : Env := EV [] [] false
noncomputable def w120P0 := c0 Tryz.f120
noncomputable def w120FS : FS ydE := f1 [(.nm 1)] (.nm 1) fun x => exprClone_1 x.1
abbrev w120E (C : Ctx) (F : FT) (y : ApiExpr) : Prop := En w120V C F Tryz.f120 w120FS (y, ())
def w120S (a0 : ApiExpr) : ST := ⟨5, [og 0 (ydToApiExpr a0)], []⟩
theorem w120_w (G : Good w120V P) {y a0} (E : w120E C F y) (h : exprClone_1 a0 = some y) : Goes w120V P C F w120P0 (w120S a0) := by
  unfold exprClone_1 at h
  have e := sj h; subst e
  exact se G E [r0, r0, r0, au] tt
theorem w120Meets : MT 120 w120FS := show Meets w120V _ _ _ from mt (fn := Tryz.f120) (S := fun x => w120S x.1) (GB trivial trivial) fun G _ _ _ _ => w120_w G
noncomputable def w119FC (R : ApiExpr → Option ApiExpr) : FC ydE := ⟨.bool, [(.nm 1)], [(.nm 1)], ApiExpr, fun _ x => R x.1, fun r => (r, ()), (.fn 120)⟩
noncomputable abbrev w119V (R : ApiExpr → Option ApiExpr) : Env := EC [(120, w120FS)] [] [(119, (w119FC R))] false
noncomputable def w119P0 := c0 Tryz.f119
noncomputable def w119P1 := ct [0, 0, 2, 0, 0, 0, 1] w119P0
noncomputable def w119P2 := ct [0, 2, 4] w119P1
abbrev w119E (R : ApiExpr → Option ApiExpr) (C : Ctx) (F : FT) (y : ApiExpr) : Prop := Ends (w119V R) C F Tryz.f119.results.toList [] [(.nm 1)] (y, ())
def w119L1X1 (a0 : ApiExpr) (r1 : (List ApiExpr)) : ST := ⟨34, [op 4, op 5], [bc 4 [.int .i64 (0 : Int), .str ([] : List UInt8), .int .i64 (0 : Int), .int .i64 (0 : Int), .sl (.nm 1) true []], bc 5 [.int .i64 a0.Op, .str a0.Name, .int .i64 a0.N.N, .int .i64 a0.N.D, .ar 30 0], ba 30 68 (.nm 1) r1]⟩
def w119L1S (a0 : ApiExpr) (v : Int × (List ApiExpr)) : ST := ⟨34, [ol 1 (.clo 120 []), op 4, op 5, os 18 (.nm 1) a0.Kids, oi 19 (a0.Kids.length : Int), oi 20 v.1], [bc 4 [.int .i64 (0 : Int), .str ([] : List UInt8), .int .i64 (0 : Int), .int .i64 (0 : Int), .sl (.nm 1) true []], bc 5 [.int .i64 a0.Op, .str a0.Name, .int .i64 a0.N.N, .int .i64 a0.N.D, .ar 30 0], ba 30 68 (.nm 1) v.2]⟩
def w119S (a0 : ApiExpr) : ST := ⟨34, [og 0 (ydToApiExpr a0), ol 1 (.clo 120 [])], []⟩
theorem w119L1_w {R : ApiExpr → Option ApiExpr} (G : Good (w119V R) P) {y a0} (E : w119E R C F y) (v : Int × (List ApiExpr)) o (h : exprMapBL1 R a0 v.1 v.2 = some o) (L : LP (w119V R) P C F w119P1 (w119L1S a0) (GX (w119V R) P C F w119P2 (w119L1X1 a0)) o) : Goes (w119V R) P C F w119P1 (w119L1S a0 v) := by
  unfold exprMapBL1 at h
  rcases ite_some h with ⟨b2, h⟩ | ⟨b2, h⟩
  · obtain ⟨c2, h⟩ := need_some h
    obtain ⟨y2, c3, h⟩ := bind_some h
    obtain ⟨c4, h⟩ := need_some h
    exact sg G [r0, bt, r0, rc 4 (rs (.nm 1) y2), r0, en, .weak [.re 30 30 0]] (e4 b2 c2 (ca c3) c4) (L.1 _ (si h))
  · exact sg G [r0, bf, au] (e1 b2) (L.2 _ (si h))
theorem w119_w {R : ApiExpr → Option ApiExpr} (G : Good (w119V R) P) {y a0} (E : w119E R C F y) (h : exprMapB R a0 = some y) : Goes (w119V R) P C F w119P0 (w119S a0) := by
  unfold exprMapB at h
  rcases ite_some h with ⟨b1, h⟩ | ⟨b1, h⟩
  · obtain ⟨y1, c1, h⟩ := bind_some h
    have e := sj h; subst e
    exact se G E [r0, r0, bt, rc 2 (rs (.nm 1) y1), au] (e2 b1 (ca c1))
  · obtain ⟨r1, hi, h⟩ := bind_some h
    refine sg G [r0, r0, bf, r0, r0, r0, en, .weak [.own (.cell 5) 4 30 68 0]] (e1 b1) (lg (w119L1_w G E) hi ?_)
    have e := sj h; subst e
    exact se G E [r0, au, .weak [.fix (.cell 4)]] tt
theorem w119Meets (R : ApiExpr → Option ApiExpr) (hR : MCT 119 (w119FC R)) : MCT 119 (w119FC (exprMapB R)) := show MeetsC (w119V R) _ _ _ from mc (fn := Tryz.f119) (S := fun _ x => w119S x.1) (GC ⟨w120Meets, trivial⟩ trivial ⟨hR, trivial⟩) fun G _ _ _ _ _ E h => w119_w G E h
theorem exprMapAll : ∀ k, MCT 119 (w119FC (exprMapIt k))
  | 0 => m0c (fn := Tryz.f119) fun _ _ => rfl
  | k + 1 => w119Meets _ (exprMapAll k)
noncomputable def exprMapFC : FC ydE := w119FC exprMap
theorem exprMapMeets : MCT 119 exprMapFC := ⟨(exprMapAll 0).1, fun c x y h => (exprMapAll ((fun (a0 : ApiExpr) => SizeOf.sizeOf a0 + 1) x.1)).2 c x y (Eq.trans (by kernel_rfl) h)⟩
noncomputable abbrev w87V : Env := EC [] [] [(119, exprMapFC)] false
noncomputable def w87P0 := c0 Tryz.f87
noncomputable def w87FS : FS ydE := f1 [(.nm 1)] (.nm 1) fun x => exprClone x.1
abbrev w87E (C : Ctx) (F : FT) (y : ApiExpr) : Prop := En w87V C F Tryz.f87 w87FS (y, ())
def w87S (a0 : ApiExpr) : ST := ⟨5, [og 0 (ydToApiExpr a0)], []⟩
theorem w87_w (G : Good w87V P) {y a0} (E : w87E C F y) (h : exprClone a0 = some y) : Goes w87V P C F w87P0 (w87S a0) := by
  unfold exprClone at h
  obtain ⟨y1, c1, h⟩ := bind_some h
  have e := sj h; subst e
  exact se G E [r0, rc 1 (rs (.nm 1) y1), au] (e1 (ca c1))
theorem w87Meets : MT 87 w87FS := show Meets w87V _ _ _ from mt (fn := Tryz.f87) (S := fun x => w87S x.1) (GC trivial trivial ⟨exprMapMeets, trivial⟩) fun G _ _ _ _ => w87_w G
noncomputable abbrev w57V : Env := EV [(87, w87FS)] [] false
noncomputable def w57P0 := c0 Tryz.f57
noncomputable def w57FS : FS ydE := f1 [(.sl (.nm 2))] (.sl (.nm 2)) fun x => scopeCloneMods x.1
noncomputable def w57P1 := ct [0, 0, 0, 0, 1] w57P0
noncomputable def w57P2 := ct [0, 2, 4] w57P1
abbrev w57E (C : Ctx) (F : FT) (y : (List ApiMod)) : Prop := En w57V C F Tryz.f57 w57FS (y, ())
def w57L1X1 (r1 : (List ApiMod)) : ST := ⟨28, [ol 3 (.ar 7 0)], [ba 7 75 (.nm 2) r1]⟩
def w57L1S (a0 : (List ApiMod)) (v : Int × (List ApiMod)) : ST := ⟨28, [ol 3 (.ar 7 0), oi 12 (a0.length : Int), oi 13 v.1], [ba 7 75 (.nm 2) v.2]⟩
def w57S (a0 : (List ApiMod)) : ST := ⟨28, [os 0 (.nm 2) a0], []⟩
theorem w57L1_w (G : Good w57V P) {y a0} (E : w57E C F y) (v : Int × (List ApiMod)) o (h : scopeCloneModsL1 a0 v.1 v.2 = some o) (L : LP w57V P C F w57P1 (w57L1S a0) (GX w57V P C F w57P2 w57L1X1) o) : Goes w57V P C F w57P1 (w57L1S a0 v) := by
  unfold scopeCloneModsL1 at h
  rcases ite_some h with ⟨b1, h⟩ | ⟨b1, h⟩
  · obtain ⟨c5, h⟩ := need_some h
    obtain ⟨y1, c6, h⟩ := bind_some h
    obtain ⟨c7, h⟩ := need_some h
    exact sg G [r0, bt, r0, rc 7 (rs (.nm 1) y1), r0, en] (e4 b1 c5 (ca c6) c7) (L.1 _ (si h))
  · exact sg G [r0, bf, au] (e1 b1) (L.2 _ (si h))
theorem w57_w (G : Good w57V P) {y a0} (E : w57E C F y) (h : scopeCloneMods a0 = some y) : Goes w57V P C F w57P0 (w57S a0) := by
  unfold scopeCloneMods at h
  obtain ⟨c1, c2, c3, h⟩ := ns3 h
  obtain ⟨c4, h⟩ := need_some h
  obtain ⟨r1, hi, h⟩ := bind_some h
  refine sg G [r0, r0, r0, r0, en] (e4 c1 c2 c3 c4) (lg (w57L1_w G E) hi ?_)
  have e := sj h; subst e
  exact se G E [r0, au, .weak [.fix (.slot 2)]] tt
theorem w57Meets : MT 57 w57FS := show Meets w57V _ _ _ from mt (fn := Tryz.f57) (S := fun x => w57S x.1) (GB ⟨w87Meets, trivial⟩ trivial) fun G _ _ _ _ => w57_w G
noncomputable abbrev w29V : Env := EV [(54, w54FS), (55, w55FS), (56, w56FS), (57, w57FS)] [] false
noncomputable def w29P0 := c0 Tryz.f29
noncomputable def w29FS : FS ydE := f2 [(.sl (.nm 2)), (.sl (.nm 2))] (.sl (.nm 2)) (.int .i64) fun x => scopeMerge x.1 x.2.1
noncomputable def w29P1 := ct [0, 0, 1] w29P0
noncomputable def w29P2 := ct [0, 2, 4] w29P1
noncomputable def w29P3 := ct [0, 1] w29P2
noncomputable def w29P4 := ct [0, 3, 0, 0, 1] w29P3
noncomputable def w29P5 := ct [0, 2, 4] w29P4
noncomputable def w29P6 := ct [0, 2, 4] w29P3
noncomputable def w29P7 := ct [0, 3, 4] w29P6
abbrev w29E (C : Ctx) (F : FT) (y : ((List ApiMod) × Int)) : Prop := En w29V C F Tryz.f29 w29FS (y.1, y.2, ())
def w29L1X1 (a0 : (List ApiMod)) (a1 : (List ApiMod)) (r1 : Unit) : ST := ⟨61, [os 0 (.nm 2) a0, os 1 (.nm 2) a1], []⟩
def w29L3X1 (a0 : (List ApiMod)) (a1 : (List ApiMod)) (v2 : Int) (r2 : Unit) : ST := ⟨61, [os 0 (.nm 2) a0, os 1 (.nm 2) a1, os 27 (.sl (.nm 2)) [a0, a1], oi 28 ([a0, a1].length : Int), oi 29 v2], []⟩
def w29L2X1 (a0 : (List ApiMod)) (a1 : (List ApiMod)) (r4 : Unit) : ST := ⟨61, [os 0 (.nm 2) a0, os 1 (.nm 2) a1], []⟩
def w29L1S (a0 : (List ApiMod)) (a1 : (List ApiMod)) (v : Int) : ST := ⟨61, [os 0 (.nm 2) a0, os 1 (.nm 2) a1, os 15 (.sl (.nm 2)) [a0, a1], oi 16 ([a0, a1].length : Int), oi 17 v], []⟩
def w29L3S (a0 : (List ApiMod)) (a1 : (List ApiMod)) (v2 : Int) (v : Int × Int) : ST := ⟨61, [os 0 (.nm 2) a0, os 1 (.nm 2) a1, os 27 (.sl (.nm 2)) [a0, a1], oi 28 ([a0, a1].length : Int), oi 29 v2, os 33 (.nm 2) (List.getD [a0, a1] (v2).toNat ([] : (List ApiMod))), oi 34 v.1, oi 35 v.2], []⟩
def w29L2S (a0 : (List ApiMod)) (a1 : (List ApiMod)) (v : Int) : ST := ⟨61, [os 0 (.nm 2) a0, os 1 (.nm 2) a1, os 27 (.sl (.nm 2)) [a0, a1], oi 28 ([a0, a1].length : Int), oi 29 v], []⟩
def w29J1S : ST := ⟨61, [], []⟩
def w29S (a0 : (List ApiMod)) (a1 : (List ApiMod)) : ST := ⟨61, [os 0 (.nm 2) a0, os 1 (.nm 2) a1], []⟩
theorem w29L1_w (G : Good w29V P) {y a0 a1} (E : w29E C F y) (v : Int) o (h : scopeMergeL1 a0 a1 v = some o) (L : LP w29V P C F w29P1 (w29L1S a0 a1) (Sum.elim (GX w29V P C F w29P2 (w29L1X1 a0 a1)) (RX y)) o) : Goes w29V P C F w29P1 (w29L1S a0 a1 v) := by
  unfold scopeMergeL1 at h
  rcases ite_some h with ⟨b1, h⟩ | ⟨b1, h⟩
  · obtain ⟨c1, h⟩ := need_some h
    rcases ite_some h with ⟨b2, h⟩ | ⟨b2, h⟩
    · have e : _ = y := L.2 _ (si h); subst e
      exact se G E [r0, bt, r0, r0, bt, r0, au] (e3 b1 c1 b2)
    · exact sg G [r0, bt, r0, r0, bf, r0, en] (e3 b1 c1 b2) (L.1 _ (si h))
  · exact sg G [r0, bf, au] (e1 b1) (L.2 _ (si h))
theorem w29L3_w (G : Good w29V P) {y a0 a1 v2} (E : w29E C F y) (v : Int × Int) o (h : scopeMergeL3 a0 a1 v2 v.1 v.2 = some o) (L : LP w29V P C F w29P4 (w29L3S a0 a1 v2) (Sum.elim (GX w29V P C F w29P5 (w29L3X1 a0 a1 v2)) (RX y)) o) : Goes w29V P C F w29P4 (w29L3S a0 a1 v2 v) := by
  unfold scopeMergeL3 at h
  rcases ite_some h with ⟨b4, h⟩ | ⟨b4, h⟩
  · obtain ⟨c3, h⟩ := need_some h
    obtain ⟨y1, c4, h⟩ := bind_some h
    rcases ite_some h with ⟨b5, h⟩ | ⟨b5, h⟩
    · have e : _ = y := L.2 _ (si h); subst e
      exact se G E [r0, bt, r0, rc 2 (rs .bool y1), bt, r0, au] (e4 b4 c3 (ca c4) b5)
    · exact sg G [r0, bt, r0, rc 2 (rs .bool y1), bf, r0, en] (e4 b4 c3 (ca c4) b5) (L.1 _ (si h))
  · exact sg G [r0, bf, au] (e1 b4) (L.2 _ (si h))
theorem w29L2_w (G : Good w29V P) {y a0 a1} (E : w29E C F y) (v : Int) o (h : scopeMergeL2 a0 a1 v = some o) (L : LP w29V P C F w29P3 (w29L2S a0 a1) (Sum.elim (GX w29V P C F w29P6 (w29L2X1 a0 a1)) (RX y)) o) : Goes w29V P C F w29P3 (w29L2S a0 a1 v) := by
  unfold scopeMergeL2 at h
  rcases ite_some h with ⟨b3, h⟩ | ⟨b3, h⟩
  · obtain ⟨c2, h⟩ := need_some h
    obtain ⟨r, hi, h⟩ := bind_some h
    refine sg G [r0, bt, r0, r0, en] (e2 b3 c2) (lg (w29L3_w G E) hi ?_)
    rcases r with r2 | r3
    · exact sg G [r0, en] tt (L.1 _ (si h))
    · exact L.2 _ (si h)
  · exact sg G [r0, bf, au] (e1 b3) (L.2 _ (si h))
theorem w29J1_w (G : Good w29V P) {y} (E : w29E C F y) (h : scopeMergeJ1 = some y) : Goes w29V P C F w29P7 (w29J1S) := by
  unfold scopeMergeJ1 at h
  have e := sj h; subst e
  exact se G E [r0, au] tt
theorem w29_w (G : Good w29V P) {y a0 a1} (E : w29E C F y) (h : scopeMerge a0 a1 = some y) : Goes w29V P C F w29P0 (w29S a0 a1) := by
  unfold scopeMerge at h
  obtain ⟨r, hi, h⟩ := bind_some h
  refine sg G [r0, r0, en] tt (lg (w29L1_w G E) hi ?_)
  rcases r with r1 | r6
  · obtain ⟨r, hi, h⟩ := bind_some h
    refine sg G [r0, en] tt (lg (w29L2_w G E) hi ?_)
    rcases r with r4 | r5
    · obtain ⟨y2, c5, h⟩ := bind_some h
      rcases ite_some h with ⟨b6, h⟩ | ⟨b6, h⟩
      · exact sg G [rg [] [3, 7] [(1, rs .bool y2)], bt, au] (q1 (ca c5) <| ar 4 b6 <| e1 rT) (w29J1_w G E h)
      · obtain ⟨y3, c6, h⟩ := bind_some h
        rcases ite_some h with ⟨b7, h⟩ | ⟨b7, h⟩
        · exact sg G [rg [3, 7] [] [(1, rs .bool y2), (5, rs .bool y3)], bt, au] (q6 (ca c5) b6 b6 (ca c6) b6 b6 <| e1 b7) (w29J1_w G E h)
        · obtain ⟨y4, c7, h⟩ := bind_some h
          rcases ite_some h with ⟨b8, h⟩ | ⟨b8, h⟩
          · have e := sj h; subst e
            exact se G E [rg [3, 7] [] [(1, rs .bool y2), (5, rs .bool y3)], bf, rc 2 (rs (.sl (.nm 2)) y4), r0, bt, r0, au] (q6 (ca c5) b6 b6 (ca c6) b6 b6 <| e3 b7 (ca c7) b8)
          · obtain ⟨y5, c8, h⟩ := bind_some h
            have e := sj h; subst e
            exact se G E [rg [3, 7] [] [(1, rs .bool y2), (5, rs .bool y3)], bf, rc 2 (rs (.sl (.nm 2)) y4), r0, bf, rc 1 (rs (.sl (.nm 2)) y5), au] (q6 (ca c5) b6 b6 (ca c6) b6 b6 <| e4 b7 (ca c7) b8 (ca c8))
    · exact sj h
  · exact sj h
theorem w29Meets : MT 29 w29FS := show Meets w29V _ _ _ from mt (fn := Tryz.f29) (S := fun x => w29S x.1 x.2.1) (GB ⟨w54Meets, w55Meets, w56Meets, w57Meets, trivial⟩ trivial) fun G _ _ _ _ => w29_w G
noncomputable abbrev w88V : Env := EV [] [] false
noncomputable def w88P0 := c0 Tryz.f88
noncomputable def w88FS : FS ydE := f1 [.str] (.sl .str) fun x => isoclineref08Split x.1
noncomputable def w88P1 := ct [0, 0, 0, 0, 1] w88P0
noncomputable def w88P2 := ct [0, 3, 0, 3, 4] w88P1
noncomputable def w88P3 := ct [0, 4] w88P2
noncomputable def w88P4 := ct [0, 2, 4] w88P1
abbrev w88E (C : Ctx) (F : FT) (y : (List (List UInt8))) : Prop := En w88V C F Tryz.f88 w88FS (y, ())
def w88L1X1 (r1 : (List (List UInt8))) : ST := ⟨32, [ol 3 (.ar 28 0)], [ba 28 9 .str r1]⟩
def w88J2S (a0 : (List UInt8)) (v2 : Int) (v4 : Int) (v5 : (List (List UInt8))) : ST := ⟨32, [ol 0 (.str a0), ol 3 (.ar 28 0), oi 4 v4, oi 5 v2], [ba 28 9 .str v5]⟩
def w88J1S (a0 : (List UInt8)) (v1 : Int) (v2 : Int) (v3 : (List (List UInt8))) : ST := ⟨32, [ol 0 (.str a0), ol 3 (.ar 28 0), oi 4 v1, oi 5 v2], [ba 28 9 .str v3]⟩
def w88L1S (a0 : (List UInt8)) (v : Int × Int × (List (List UInt8))) : ST := ⟨32, [ol 0 (.str a0), ol 3 (.ar 28 0), oi 4 v.1, oi 5 v.2.1], [ba 28 9 .str v.2.2]⟩
def w88S (a0 : (List UInt8)) : ST := ⟨32, [ol 0 (.str a0)], []⟩
theorem w88J2_w (G : Good w88V P) {y o a0 v2 v4 v5} (E : w88E C F y) (h : isoclineref08SplitJ2 a0 v2 v4 v5 = some o) (L : LP w88V P C F w88P1 (w88L1S a0) (GX w88V P C F w88P4 w88L1X1) o) : Goes w88V P C F w88P3 (w88J2S a0 v2 v4 v5) := by
  unfold isoclineref08SplitJ2 at h
  exact sg G [r0, en] tt (L.1 _ (si h))
theorem w88J1_w (G : Good w88V P) {y o a0 v1 v2 v3} (E : w88E C F y) (h : isoclineref08SplitJ1 a0 v1 v2 v3 = some o) (L : LP w88V P C F w88P1 (w88L1S a0) (GX w88V P C F w88P4 w88L1X1) o) : Goes w88V P C F w88P2 (w88J1S a0 v1 v2 v3) := by
  unfold isoclineref08SplitJ1 at h
  obtain ⟨c2, c3, c4, c5, h⟩ := ns4 h
  exact sg G [r0, au, .weak [.re 28 28 0]] (e4 c2 c3 c4 c5) (w88J2_w G E h L)
theorem w88L1_w (G : Good w88V P) {y a0} (E : w88E C F y) (v : Int × Int × (List (List UInt8))) o (h : isoclineref08SplitL1 a0 v.1 v.2.1 v.2.2 = some o) (L : LP w88V P C F w88P1 (w88L1S a0) (GX w88V P C F w88P4 w88L1X1) o) : Goes w88V P C F w88P1 (w88L1S a0 v) := by
  unfold isoclineref08SplitL1 at h
  rcases ite_some h with ⟨b1, h⟩ | ⟨b1, h⟩
  · rcases ite_some h with ⟨b2, h⟩ | ⟨b2, h⟩
    · exact sg G [r0, bt, ru [4, 9], bt, au] (q1 b1 <| ar 5 b2 <| e1 rT) (w88J1_w G E h L)
    · obtain ⟨c1, h⟩ := need_some h
      rcases ite_some h with ⟨b3, h⟩ | ⟨b3, h⟩
      · exact sg G [r0, bt, rf [4, 9], bt, au] (q1 b1 <| ar 3 b2 <| e4 c1 b2 b2 b3) (w88J1_w G E h L)
      · exact sg G [r0, bt, rf [4, 9], bf, au] (q1 b1 <| ar 3 b2 <| e4 c1 b2 b2 b3) (w88J2_w G E h L)
  · exact sg G [r0, bf, au] (e1 b1) (L.2 _ (si h))
theorem w88_w (G : Good w88V P) {y a0} (E : w88E C F y) (h : isoclineref08Split a0 = some y) : Goes w88V P C F w88P0 (w88S a0) := by
  unfold isoclineref08Split at h
  obtain ⟨r1, hi, h⟩ := bind_some h
  refine sg G [r0, r0, r0, r0, en, .weak [.own (.slot 3) 0 28 9 0]] tt (lg (w88L1_w G E) hi ?_)
  have e := sj h; subst e
  exact se G E [r0, au, .weak [.fix (.slot 2)]] tt
theorem w88Meets : MT 88 w88FS := show Meets w88V _ _ _ from mt (fn := Tryz.f88) (S := fun x => w88S x.1) (GB trivial trivial) fun G _ _ _ _ => w88_w G
noncomputable abbrev w121V : Env := EV [] [] false
noncomputable def w121P0 := c0 Tryz.f121
noncomputable def w121FS : FS ydE := f1 [.str] .bool fun x => isoclineref08IsWord x.1
noncomputable def w121P1 := ct [0, 0, 4] w121P0
noncomputable def w121P2 := ct [0, 1] w121P1
noncomputable def w121P3 := ct [0, 2, 4] w121P2
abbrev w121E (C : Ctx) (F : FT) (y : Bool) : Prop := En w121V C F Tryz.f121 w121FS (y, ())
def w121L1X1 (r1 : Unit) : ST := ⟨18, [], []⟩
def w121L1S (a0 : (List UInt8)) (v1 : (List (List UInt8))) (v : Int) : ST := ⟨18, [ol 0 (.str a0), os 3 .str v1, oi 4 v], []⟩
def w121J1S (a0 : (List UInt8)) (v1 : (List (List UInt8))) : ST := ⟨18, [ol 0 (.str a0), os 3 .str v1], []⟩
def w121S (a0 : (List UInt8)) : ST := ⟨18, [ol 0 (.str a0)], []⟩
theorem w121L1_w (G : Good w121V P) {y a0 v1} (E : w121E C F y) (v : Int) o (h : isoclineref08IsWordL1 a0 v1 v = some o) (L : LP w121V P C F w121P2 (w121L1S a0 v1) (Sum.elim (GX w121V P C F w121P3 w121L1X1) (RX y)) o) : Goes w121V P C F w121P2 (w121L1S a0 v1 v) := by
  unfold isoclineref08IsWordL1 at h
  rcases ite_some h with ⟨b1, h⟩ | ⟨b1, h⟩
  · obtain ⟨c1, h⟩ := need_some h
    rcases ite_some h with ⟨b2, h⟩ | ⟨b2, h⟩
    · have e : _ = y := L.2 _ (si h); subst e
      exact se G E [r0, bt, r0, bt, r0, au] (e3 b1 c1 b2)
    · exact sg G [r0, bt, r0, bf, r0, en] (e3 b1 c1 b2) (L.1 _ (si h))
  · exact sg G [r0, bf, au] (e1 b1) (L.2 _ (si h))
theorem w121J1_w (G : Good w121V P) {y a0 v1} (E : w121E C F y) (h : isoclineref08IsWordJ1 a0 v1 = some y) : Goes w121V P C F w121P1 (w121J1S a0 v1) := by
  unfold isoclineref08IsWordJ1 at h
  obtain ⟨r, hi, h⟩ := bind_some h
  refine sg G [r0, en] tt (lg (w121L1_w G E) hi ?_)
  rcases r with r1 | r2
  · have e := sj h; subst e
    exact se G E [r0, au] tt
  · exact sj h
theorem w121_w (G : Good w121V P) {y a0} (E : w121E C F y) (h : isoclineref08IsWord a0 = some y) : Goes w121V P C F w121P0 (w121S a0) := by
  unfold isoclineref08IsWord at h
  exact sg G [r0, r0, au] tt (w121J1_w G E h)
theorem w121Meets : MT 121 w121FS := show Meets w121V _ _ _ from mt (fn := Tryz.f121) (S := fun x => w121S x.1) (GB trivial trivial) fun G _ _ _ _ => w121_w G
noncomputable abbrev w89V : Env := EV [(121, w121FS)] [] false
noncomputable def w89P0 := c0 Tryz.f89
noncomputable def w89FS : FS ydE := f1 [.str] .bool fun x => isoclineref08IsSimple x.1
noncomputable def w89P1 := ct [0, 0, 3, 4] w89P0
noncomputable def w89P2 := ct [0, 0, 2, 0, 1] w89P0
noncomputable def w89P3 := ct [0, 3, 0, 0, 4] w89P2
noncomputable def w89P4 := ct [0, 3, 4] w89P3
noncomputable def w89P5 := ct [0, 2, 4] w89P3
noncomputable def w89P6 := ct [0, 2, 4] w89P2
abbrev w89E (C : Ctx) (F : FT) (y : Bool) : Prop := En w89V C F Tryz.f89 w89FS (y, ())
def w89L1X1 (r1 : Unit) : ST := ⟨59, [], []⟩
def w89J1S : ST := ⟨59, [], []⟩
def w89J3S : ST := ⟨59, [], []⟩
def w89J4S (a0 : (List UInt8)) (v1 : Int) : ST := ⟨59, [ol 0 (.str a0), oi 3 v1], []⟩
def w89J2S (a0 : (List UInt8)) (v1 : Int) (v2 : Bool) : ST := ⟨59, [ol 0 (.str a0), oi 3 v1, ol 4 (.int .u8 ((List.getD a0 v1.toNat 0).toNat : Int)), ol 5 (.bool v2)], []⟩
def w89L1S (a0 : (List UInt8)) (v : Int) : ST := ⟨59, [ol 0 (.str a0), oi 3 v], []⟩
def w89S (a0 : (List UInt8)) : ST := ⟨59, [ol 0 (.str a0)], []⟩
theorem w89J1_w (G : Good w89V P) {y} (E : w89E C F y) (h : isoclineref08IsSimpleJ1 = some y) : Goes w89V P C F w89P1 (w89J1S) := by
  unfold isoclineref08IsSimpleJ1 at h
  have e := sj h; subst e
  exact se G E [r0, au] tt
theorem w89J3_w (G : Good w89V P) {y a0 o} (E : w89E C F y) (h : isoclineref08IsSimpleJ3 = some o) (L : LP w89V P C F w89P2 (w89L1S a0) (Sum.elim (GX w89V P C F w89P6 w89L1X1) (RX y)) o) : Goes w89V P C F w89P4 (w89J3S) := by
  unfold isoclineref08IsSimpleJ3 at h
  have e : _ = y := L.2 _ (si h); subst e
  exact se G E [r0, au] tt
theorem w89J4_w (G : Good w89V P) {y o a0 v1} (E : w89E C F y) (h : isoclineref08IsSimpleJ4 a0 v1 = some o) (L : LP w89V P C F w89P2 (w89L1S a0) (Sum.elim (GX w89V P C F w89P6 w89L1X1) (RX y)) o) : Goes w89V P C F w89P5 (w89J4S a0 v1) := by
  unfold isoclineref08IsSimpleJ4 at h
  exact sg G [r0, en] tt (L.1 _ (si h))
theorem w89J2_w (G : Good w89V P) {y o a0 v1 v2} (E : w89E C F y) (h : isoclineref08IsSimpleJ2 a0 v1 v2 = some o) (L : LP w89V P C F w89P2 (w89L1S a0) (Sum.elim (GX w89V P C F w89P6 w89L1X1) (RX y)) o) : Goes w89V P C F w89P3 (w89J2S a0 v1 v2) := by
  unfold isoclineref08IsSimpleJ2 at h
  rcases ite_some h with ⟨b9, h⟩ | ⟨b9, h⟩
  · rcases ite_some h with ⟨b10, h⟩ | ⟨b10, h⟩
    · exact sg G [ru [2, 5, 16, 17], bt, au] (ar 3 b9 <| ar 4 b10 <| e4 b9 b10 b9 rT) (w89J3_w G E h L)
    · rcases ite_some h with ⟨b11, h⟩ | ⟨b11, h⟩
      · rcases ite_some h with ⟨b12, h⟩ | ⟨b12, h⟩
        · exact sg G [rb [5, 16] [2, 8, 11, 14, 15, 17], bt, au] (ar 3 b9 <| ar 3 b10 <| ar 3 b11 <| q6 b12 b12 b11 b12 b10 b11 <| e4 b9 b10 b9 rT) (w89J3_w G E h L)
        · rcases ite_some h with ⟨b13, h⟩ | ⟨b13, h⟩
          · exact sg G [rb [5, 11, 14, 16] [2, 8, 15, 17], bt, au] (ar 3 b9 <| ar 3 b10 <| ar 3 b11 <| q6 b12 b12 b11 b12 b10 b11 <| e4 b9 b10 b9 b13) (w89J3_w G E h L)
          · exact sg G [rb [5, 11, 14, 16] [2, 8, 15, 17], bf, au] (ar 3 b9 <| ar 3 b10 <| ar 3 b11 <| q6 b12 b12 b11 b12 b10 b11 <| e4 b9 b10 b9 b13) (w89J4_w G E h L)
      · exact sg G [rb [5, 8, 15, 16] [2, 17], bf, au] (ar 3 b9 <| ar 3 b10 <| ar 4 b11 <| e6 b10 b11 b9 b10 b9 rF) (w89J4_w G E h L)
  · exact sg G [rf [2, 17], bf, au] (ar 5 b9 <| e1 rF) (w89J4_w G E h L)
theorem w89L1_w (G : Good w89V P) {y a0} (E : w89E C F y) (v : Int) o (h : isoclineref08IsSimpleL1 a0 v = some o) (L : LP w89V P C F w89P2 (w89L1S a0) (Sum.elim (GX w89V P C F w89P6 w89L1X1) (RX y)) o) : Goes w89V P C F w89P2 (w89L1S a0 v) := by
  unfold isoclineref08IsSimpleL1 at h
  rcases ite_some h with ⟨b4, h⟩ | ⟨b4, h⟩
  · obtain ⟨c2, h⟩ := need_some h
    rcases ite_some h with ⟨b5, h⟩ | ⟨b5, h⟩
    · rcases ite_some h with ⟨b6, h⟩ | ⟨b6, h⟩
      · exact sg G [r0, bt, r0, ru [2, 5, 6, 13], au] (q2 b4 c2 <| ar 3 b5 <| ar 5 b6 <| tt) (w89J2_w G E h L)
      · rcases ite_some h with ⟨b7, h⟩ | ⟨b7, h⟩
        · exact sg G [r0, bt, r0, rb [6, 13] [2, 5, 9, 12], au] (q2 b4 c2 <| ar 3 b5 <| ar 3 b6 <| e5 b7 b7 b6 b7 b6) (w89J2_w G E h L)
        · exact sg G [r0, bt, r0, rb [6, 9, 12, 13] [2, 5], au] (q2 b4 c2 <| ar 3 b5 <| ar 3 b6 <| e5 b7 b7 b6 b7 b6) (w89J2_w G E h L)
    · rcases ite_some h with ⟨b8, h⟩ | ⟨b8, h⟩
      · exact sg G [r0, bt, r0, rb [2, 5, 6, 13] [9, 12], au] (q2 b4 c2 <| ar 3 b5 <| ar 3 rF <| e5 b8 b8 rF b8 rF) (w89J2_w G E h L)
      · exact sg G [r0, bt, r0, rf [2, 5, 6, 9, 12, 13], au] (q2 b4 c2 <| ar 3 b5 <| ar 3 rF <| e5 b8 b8 rF b8 rF) (w89J2_w G E h L)
  · exact sg G [r0, bf, au] (e1 b4) (L.2 _ (si h))
theorem w89_w (G : Good w89V P) {y a0} (E : w89E C F y) (h : isoclineref08IsSimple a0 = some y) : Goes w89V P C F w89P0 (w89S a0) := by
  unfold isoclineref08IsSimple at h
  rcases ite_some h with ⟨b1, h⟩ | ⟨b1, h⟩
  · exact sg G [r0, ru [3, 7, 8, 11], bt, au] (ar 4 b1 <| ar 4 rT <| tt) (w89J1_w G E h)
  · rcases ite_some h with ⟨b2, h⟩ | ⟨b2, h⟩
    · exact sg G [r0, rb [3, 7] [8, 11], bt, au] (ar 4 b1 <| ar 3 b2 <| e1 rT) (w89J1_w G E h)
    · obtain ⟨y1, c1, h⟩ := bind_some h
      rcases ite_some h with ⟨b3, h⟩ | ⟨b3, h⟩
      · exact sg G [r0, rg [3, 7, 8, 11] [] [(10, rs .bool y1)], bt, au] (ar 4 b1 <| e5 b2 b2 (ca c1) b2 b3) (w89J1_w G E h)
      · obtain ⟨r, hi, h⟩ := bind_some h
        refine sg G [r0, rg [3, 7, 8, 11] [] [(10, rs .bool y1)], bf, r0, en] (ar 4 b1 <| e5 b2 b2 (ca c1) b2 b3) (lg (w89L1_w G E) hi ?_)
        rcases r with r1 | r2
        · have e := sj h; subst e
          exact se G E [r0, au] tt
        · exact sj h
theorem w89Meets : MT 89 w89FS := show Meets w89V _ _ _ from mt (fn := Tryz.f89) (S := fun x => w89S x.1) (GB ⟨w121Meets, trivial⟩ trivial) fun G _ _ _ _ => w89_w G
noncomputable abbrev w58V : Env := EV [(88, w88FS), (89, w89FS)] [] false
noncomputable def w58P0 := c0 Tryz.f58
noncomputable def w58FS : FS ydE := f1 [.str] .bool fun x => isoclineref08IsPath x.1
noncomputable def w58P1 := ct [0, 0, 0, 1] w58P0
noncomputable def w58P2 := ct [0, 2, 4] w58P1
abbrev w58E (C : Ctx) (F : FT) (y : Bool) : Prop := En w58V C F Tryz.f58 w58FS (y, ())
def w58L1X1 (r1 : Unit) : ST := ⟨19, [], []⟩
def w58L1S (y1 : (List (List UInt8))) (v : Int) : ST := ⟨19, [os 3 .str y1, oi 4 v], []⟩
def w58S (a0 : (List UInt8)) : ST := ⟨19, [ol 0 (.str a0)], []⟩
theorem w58L1_w (G : Good w58V P) {y y1} (E : w58E C F y) (v : Int) o (h : isoclineref08IsPathL1 y1 v = some o) (L : LP w58V P C F w58P1 (w58L1S y1) (Sum.elim (GX w58V P C F w58P2 w58L1X1) (RX y)) o) : Goes w58V P C F w58P1 (w58L1S y1 v) := by
  unfold isoclineref08IsPathL1 at h
  rcases ite_some h with ⟨b1, h⟩ | ⟨b1, h⟩
  · obtain ⟨c2, h⟩ := need_some h
    obtain ⟨y2, c3, h⟩ := bind_some h
    rcases ite_some h with ⟨b2, h⟩ | ⟨b2, h⟩
    · have e : _ = y := L.2 _ (si h); subst e
      exact se G E [r0, bt, rc 4 (rs .bool y2), bt, r0, au] (e4 b1 c2 (ca c3) b2)
    · exact sg G [r0, bt, rc 4 (rs .bool y2), bf, r0, en] (e4 b1 c2 (ca c3) b2) (L.1 _ (si h))
  · exact sg G [r0, bf, au] (e1 b1) (L.2 _ (si h))
theorem w58_w (G : Good w58V P) {y a0} (E : w58E C F y) (h : isoclineref08IsPath a0 = some y) : Goes w58V P C F w58P0 (w58S a0) := by
  unfold isoclineref08IsPath at h
  obtain ⟨y1, c1, h⟩ := bind_some h
  obtain ⟨r, hi, h⟩ := bind_some h
  refine sg G [r0, rc 1 (rs (.sl .str) y1), r0, en] (e1 (ca c1)) (lg (w58L1_w G E) hi ?_)
  rcases r with r1 | r2
  · have e := sj h; subst e
    exact se G E [r0, au] tt
  · exact sj h
theorem w58Meets : MT 58 w58FS := show Meets w58V _ _ _ from mt (fn := Tryz.f58) (S := fun x => w58S x.1) (GB ⟨w88Meets, w89Meets, trivial⟩ trivial) fun G _ _ _ _ => w58_w G
end
end Go.Ab
