/- What the functions that the law reaches answer: printed out of the interpreter's run, shortened by a program; each print is checked by Lean. -/
import Derived.Test.YtoiimiohobollaaGreatHT
namespace Go.Proofs.YtoiimiohobollaaGreat.AI
open Go.RowKit
set_option linter.unusedVariables false
set_option linter.unusedSimpArgs false
set_option maxRecDepth 100000
abbrev LL := List (List AVal)
@[reducible] def d4 (l : List AVal) : List AVal := (.dead) :: (.dead) :: (.dead) :: (.dead) :: l
@[reducible] def d16 (l : List AVal) : List AVal := d4 (d4 (d4 (d4 l)))
@[reducible] def d64 (l : List AVal) : List AVal := d16 (d16 (d16 (d16 l)))
@[reducible] def e4 (l : List Bool) : List Bool := (false) :: (false) :: (false) :: (false) :: l
@[reducible] def e16 (l : List Bool) : List Bool := e4 (e4 (e4 (e4 l)))
@[reducible] def e64 (l : List Bool) : List Bool := e16 (e16 (e16 (e16 l)))
@[reducible] def f4 (l : List SK) : List SK := (.f .dead) :: (.f .dead) :: (.f .dead) :: (.f .dead) :: l
@[reducible] def f16 (l : List SK) : List SK := f4 (f4 (f4 (f4 l)))
@[reducible] def f64 (l : List SK) : List SK := f16 (f16 (f16 (f16 l)))
@[reducible] def d5 (l : List AVal) : List AVal := (d4 ((.dead) :: l))
@[reducible] def d6 (l : List AVal) : List AVal := (d4 ((.dead) :: (.dead) :: l))
@[reducible] def d7 (l : List AVal) : List AVal := (d4 ((.dead) :: (.dead) :: (.dead) :: l))
@[reducible] def d8 (l : List AVal) : List AVal := (d4 (d4 l))
@[reducible] def d10 (l : List AVal) : List AVal := (d4 (d4 ((.dead) :: (.dead) :: l)))
@[reducible] def d11 (l : List AVal) : List AVal := (d4 (d4 ((.dead) :: (.dead) :: (.dead) :: l)))
@[reducible] def d12 (l : List AVal) : List AVal := (d4 (d4 (d4 l)))
@[reducible] def d13 (l : List AVal) : List AVal := (d4 (d4 (d4 ((.dead) :: l))))
@[reducible] def d14 (l : List AVal) : List AVal := (d4 (d4 (d4 ((.dead) :: (.dead) :: l))))
@[reducible] def d15 (l : List AVal) : List AVal := (d4 (d4 (d4 ((.dead) :: (.dead) :: (.dead) :: l))))
@[reducible] def d17 (l : List AVal) : List AVal := (d16 ((.dead) :: l))
@[reducible] def d18 (l : List AVal) : List AVal := (d16 ((.dead) :: (.dead) :: l))
@[reducible] def d19 (l : List AVal) : List AVal := (d16 ((.dead) :: (.dead) :: (.dead) :: l))
@[reducible] def d20 (l : List AVal) : List AVal := (d4 (d16 l))
@[reducible] def d21 (l : List AVal) : List AVal := (d4 (d16 ((.dead) :: l)))
@[reducible] def d22 (l : List AVal) : List AVal := (d4 (d16 ((.dead) :: (.dead) :: l)))
@[reducible] def d23 (l : List AVal) : List AVal := (d4 (d16 ((.dead) :: (.dead) :: (.dead) :: l)))
@[reducible] def d24 (l : List AVal) : List AVal := (d4 (d4 (d16 l)))
@[reducible] def d25 (l : List AVal) : List AVal := (d4 (d4 (d16 ((.dead) :: l))))
@[reducible] def d26 (l : List AVal) : List AVal := (d4 (d4 (d16 ((.dead) :: (.dead) :: l))))
@[reducible] def d27 (l : List AVal) : List AVal := (d4 (d4 (d16 ((.dead) :: (.dead) :: (.dead) :: l))))
@[reducible] def d29 (l : List AVal) : List AVal := (d4 (d4 (d4 (d16 ((.dead) :: l)))))
@[reducible] def d37 (l : List AVal) : List AVal := (d4 (d16 (d16 ((.dead) :: l))))
@[reducible] def d39 (l : List AVal) : List AVal := (d4 (d16 (d16 ((.dead) :: (.dead) :: (.dead) :: l))))
@[reducible] def d40 (l : List AVal) : List AVal := (d4 (d4 (d16 (d16 l))))
@[reducible] def d45 (l : List AVal) : List AVal := (d4 (d4 (d4 (d16 (d16 ((.dead) :: l))))))
@[reducible] def d48 (l : List AVal) : List AVal := (d16 (d16 (d16 l)))
@[reducible] def d49 (l : List AVal) : List AVal := (d16 (d16 (d16 ((.dead) :: l))))
@[reducible] def d50 (l : List AVal) : List AVal := (d16 (d16 (d16 ((.dead) :: (.dead) :: l))))
@[reducible] def d51 (l : List AVal) : List AVal := (d16 (d16 (d16 ((.dead) :: (.dead) :: (.dead) :: l))))
@[reducible] def d52 (l : List AVal) : List AVal := (d4 (d16 (d16 (d16 l))))
@[reducible] def d53 (l : List AVal) : List AVal := (d4 (d16 (d16 (d16 ((.dead) :: l)))))
@[reducible] def d54 (l : List AVal) : List AVal := (d4 (d16 (d16 (d16 ((.dead) :: (.dead) :: l)))))
@[reducible] def d55 (l : List AVal) : List AVal := (d4 (d16 (d16 (d16 ((.dead) :: (.dead) :: (.dead) :: l)))))
@[reducible] def d56 (l : List AVal) : List AVal := (d4 (d4 (d16 (d16 (d16 l)))))
@[reducible] def d57 (l : List AVal) : List AVal := (d4 (d4 (d16 (d16 (d16 ((.dead) :: l))))))
@[reducible] def d59 (l : List AVal) : List AVal := (d4 (d4 (d16 (d16 (d16 ((.dead) :: (.dead) :: (.dead) :: l))))))
@[reducible] def d60 (l : List AVal) : List AVal := (d4 (d4 (d4 (d16 (d16 (d16 l))))))
@[reducible] def d61 (l : List AVal) : List AVal := (d4 (d4 (d4 (d16 (d16 (d16 ((.dead) :: l)))))))
@[reducible] def d62 (l : List AVal) : List AVal := (d4 (d4 (d4 (d16 (d16 (d16 ((.dead) :: (.dead) :: l)))))))
@[reducible] def d63 (l : List AVal) : List AVal := (d4 (d4 (d4 (d16 (d16 (d16 ((.dead) :: (.dead) :: (.dead) :: l)))))))
@[reducible] def d65 (l : List AVal) : List AVal := (d64 ((.dead) :: l))
@[reducible] def d66 (l : List AVal) : List AVal := (d64 ((.dead) :: (.dead) :: l))
@[reducible] def d68 (l : List AVal) : List AVal := (d4 (d64 l))
@[reducible] def d69 (l : List AVal) : List AVal := (d4 (d64 ((.dead) :: l)))
@[reducible] def d70 (l : List AVal) : List AVal := (d4 (d64 ((.dead) :: (.dead) :: l)))
@[reducible] def d71 (l : List AVal) : List AVal := (d4 (d64 ((.dead) :: (.dead) :: (.dead) :: l)))
@[reducible] def d72 (l : List AVal) : List AVal := (d4 (d4 (d64 l)))
@[reducible] def d73 (l : List AVal) : List AVal := (d4 (d4 (d64 ((.dead) :: l))))
@[reducible] def d75 (l : List AVal) : List AVal := (d4 (d4 (d64 ((.dead) :: (.dead) :: (.dead) :: l))))
@[reducible] def d78 (l : List AVal) : List AVal := (d4 (d4 (d4 (d64 ((.dead) :: (.dead) :: l)))))
@[reducible] def d79 (l : List AVal) : List AVal := (d4 (d4 (d4 (d64 ((.dead) :: (.dead) :: (.dead) :: l)))))
@[reducible] def d81 (l : List AVal) : List AVal := (d16 (d64 ((.dead) :: l)))
@[reducible] def d82 (l : List AVal) : List AVal := (d16 (d64 ((.dead) :: (.dead) :: l)))
@[reducible] def d83 (l : List AVal) : List AVal := (d16 (d64 ((.dead) :: (.dead) :: (.dead) :: l)))
@[reducible] def d84 (l : List AVal) : List AVal := (d4 (d16 (d64 l)))
@[reducible] def d85 (l : List AVal) : List AVal := (d4 (d16 (d64 ((.dead) :: l))))
@[reducible] def d88 (l : List AVal) : List AVal := (d4 (d4 (d16 (d64 l))))
@[reducible] def d89 (l : List AVal) : List AVal := (d4 (d4 (d16 (d64 ((.dead) :: l)))))
@[reducible] def d90 (l : List AVal) : List AVal := (d4 (d4 (d16 (d64 ((.dead) :: (.dead) :: l)))))
@[reducible] def d91 (l : List AVal) : List AVal := (d4 (d4 (d16 (d64 ((.dead) :: (.dead) :: (.dead) :: l)))))
@[reducible] def d92 (l : List AVal) : List AVal := (d4 (d4 (d4 (d16 (d64 l)))))
@[reducible] def d93 (l : List AVal) : List AVal := (d4 (d4 (d4 (d16 (d64 ((.dead) :: l))))))
@[reducible] def d94 (l : List AVal) : List AVal := (d4 (d4 (d4 (d16 (d64 ((.dead) :: (.dead) :: l))))))
@[reducible] def d95 (l : List AVal) : List AVal := (d4 (d4 (d4 (d16 (d64 ((.dead) :: (.dead) :: (.dead) :: l))))))
@[reducible] def d96 (l : List AVal) : List AVal := (d16 (d16 (d64 l)))
@[reducible] def d97 (l : List AVal) : List AVal := (d16 (d16 (d64 ((.dead) :: l))))
@[reducible] def d98 (l : List AVal) : List AVal := (d16 (d16 (d64 ((.dead) :: (.dead) :: l))))
@[reducible] def d99 (l : List AVal) : List AVal := (d16 (d16 (d64 ((.dead) :: (.dead) :: (.dead) :: l))))
@[reducible] def d100 (l : List AVal) : List AVal := (d4 (d16 (d16 (d64 l))))
@[reducible] def d101 (l : List AVal) : List AVal := (d4 (d16 (d16 (d64 ((.dead) :: l)))))
@[reducible] def d102 (l : List AVal) : List AVal := (d4 (d16 (d16 (d64 ((.dead) :: (.dead) :: l)))))
@[reducible] def e5 (l : List Bool) : List Bool := (e4 (false :: l))
@[reducible] def e6 (l : List Bool) : List Bool := (e4 (false :: false :: l))
@[reducible] def e7 (l : List Bool) : List Bool := (e4 (false :: false :: false :: l))
@[reducible] def e13 (l : List Bool) : List Bool := (e4 (e4 (e4 (false :: l))))
@[reducible] def e14 (l : List Bool) : List Bool := (e4 (e4 (e4 (false :: false :: l))))
@[reducible] def e17 (l : List Bool) : List Bool := (e16 (false :: l))
@[reducible] def e18 (l : List Bool) : List Bool := (e16 (false :: false :: l))
@[reducible] def e19 (l : List Bool) : List Bool := (e16 (false :: false :: false :: l))
@[reducible] def e20 (l : List Bool) : List Bool := (e4 (e16 l))
@[reducible] def e21 (l : List Bool) : List Bool := (e4 (e16 (false :: l)))
@[reducible] def e22 (l : List Bool) : List Bool := (e4 (e16 (false :: false :: l)))
@[reducible] def e23 (l : List Bool) : List Bool := (e4 (e16 (false :: false :: false :: l)))
@[reducible] def e24 (l : List Bool) : List Bool := (e4 (e4 (e16 l)))
@[reducible] def e25 (l : List Bool) : List Bool := (e4 (e4 (e16 (false :: l))))
@[reducible] def e26 (l : List Bool) : List Bool := (e4 (e4 (e16 (false :: false :: l))))
@[reducible] def e27 (l : List Bool) : List Bool := (e4 (e4 (e16 (false :: false :: false :: l))))
@[reducible] def e29 (l : List Bool) : List Bool := (e4 (e4 (e4 (e16 (false :: l)))))
@[reducible] def e40 (l : List Bool) : List Bool := (e4 (e4 (e16 (e16 l))))
@[reducible] def e45 (l : List Bool) : List Bool := (e4 (e4 (e4 (e16 (e16 (false :: l))))))
@[reducible] def e49 (l : List Bool) : List Bool := (e16 (e16 (e16 (false :: l))))
@[reducible] def e51 (l : List Bool) : List Bool := (e16 (e16 (e16 (false :: false :: false :: l))))
@[reducible] def e52 (l : List Bool) : List Bool := (e4 (e16 (e16 (e16 l))))
@[reducible] def e53 (l : List Bool) : List Bool := (e4 (e16 (e16 (e16 (false :: l)))))
@[reducible] def e54 (l : List Bool) : List Bool := (e4 (e16 (e16 (e16 (false :: false :: l)))))
@[reducible] def e55 (l : List Bool) : List Bool := (e4 (e16 (e16 (e16 (false :: false :: false :: l)))))
@[reducible] def e56 (l : List Bool) : List Bool := (e4 (e4 (e16 (e16 (e16 l)))))
@[reducible] def e57 (l : List Bool) : List Bool := (e4 (e4 (e16 (e16 (e16 (false :: l))))))
@[reducible] def e59 (l : List Bool) : List Bool := (e4 (e4 (e16 (e16 (e16 (false :: false :: false :: l))))))
@[reducible] def e62 (l : List Bool) : List Bool := (e4 (e4 (e4 (e16 (e16 (e16 (false :: false :: l)))))))
@[reducible] def e63 (l : List Bool) : List Bool := (e4 (e4 (e4 (e16 (e16 (e16 (false :: false :: false :: l)))))))
@[reducible] def e65 (l : List Bool) : List Bool := (e64 (false :: l))
@[reducible] def e66 (l : List Bool) : List Bool := (e64 (false :: false :: l))
@[reducible] def e68 (l : List Bool) : List Bool := (e4 (e64 l))
@[reducible] def e71 (l : List Bool) : List Bool := (e4 (e64 (false :: false :: false :: l)))
@[reducible] def e72 (l : List Bool) : List Bool := (e4 (e4 (e64 l)))
@[reducible] def e73 (l : List Bool) : List Bool := (e4 (e4 (e64 (false :: l))))
@[reducible] def e75 (l : List Bool) : List Bool := (e4 (e4 (e64 (false :: false :: false :: l))))
@[reducible] def e78 (l : List Bool) : List Bool := (e4 (e4 (e4 (e64 (false :: false :: l)))))
@[reducible] def e79 (l : List Bool) : List Bool := (e4 (e4 (e4 (e64 (false :: false :: false :: l)))))
@[reducible] def e82 (l : List Bool) : List Bool := (e16 (e64 (false :: false :: l)))
@[reducible] def e84 (l : List Bool) : List Bool := (e4 (e16 (e64 l)))
@[reducible] def e85 (l : List Bool) : List Bool := (e4 (e16 (e64 (false :: l))))
@[reducible] def e88 (l : List Bool) : List Bool := (e4 (e4 (e16 (e64 l))))
@[reducible] def e89 (l : List Bool) : List Bool := (e4 (e4 (e16 (e64 (false :: l)))))
@[reducible] def e90 (l : List Bool) : List Bool := (e4 (e4 (e16 (e64 (false :: false :: l)))))
@[reducible] def e91 (l : List Bool) : List Bool := (e4 (e4 (e16 (e64 (false :: false :: false :: l)))))
@[reducible] def e92 (l : List Bool) : List Bool := (e4 (e4 (e4 (e16 (e64 l)))))
@[reducible] def e93 (l : List Bool) : List Bool := (e4 (e4 (e4 (e16 (e64 (false :: l))))))
@[reducible] def e94 (l : List Bool) : List Bool := (e4 (e4 (e4 (e16 (e64 (false :: false :: l))))))
@[reducible] def e95 (l : List Bool) : List Bool := (e4 (e4 (e4 (e16 (e64 (false :: false :: false :: l))))))
@[reducible] def e96 (l : List Bool) : List Bool := (e16 (e16 (e64 l)))
@[reducible] def e97 (l : List Bool) : List Bool := (e16 (e16 (e64 (false :: l))))
@[reducible] def e98 (l : List Bool) : List Bool := (e16 (e16 (e64 (false :: false :: l))))
@[reducible] def e99 (l : List Bool) : List Bool := (e16 (e16 (e64 (false :: false :: false :: l))))
@[reducible] def e101 (l : List Bool) : List Bool := (e4 (e16 (e16 (e64 (false :: l)))))
@[reducible] def e102 (l : List Bool) : List Bool := (e4 (e16 (e16 (e64 (false :: false :: l)))))
@[reducible] def e103 (l : List Bool) : List Bool := (e4 (e16 (e16 (e64 (false :: false :: false :: l)))))
@[reducible] def f5 (l : List SK) : List SK := (f4 ((.f .dead) :: l))
@[reducible] def f6 (l : List SK) : List SK := (f4 ((.f .dead) :: (.f .dead) :: l))
@[reducible] def f8 (l : List SK) : List SK := (f4 (f4 l))
@[reducible] def f10 (l : List SK) : List SK := (f4 (f4 ((.f .dead) :: (.f .dead) :: l)))
@[reducible] def f11 (l : List SK) : List SK := (f4 (f4 ((.f .dead) :: (.f .dead) :: (.f .dead) :: l)))
@[reducible] def f12 (l : List SK) : List SK := (f4 (f4 (f4 l)))
@[reducible] def f13 (l : List SK) : List SK := (f4 (f4 (f4 ((.f .dead) :: l))))
@[reducible] def f15 (l : List SK) : List SK := (f4 (f4 (f4 ((.f .dead) :: (.f .dead) :: (.f .dead) :: l))))
@[reducible] def f17 (l : List SK) : List SK := (f16 ((.f .dead) :: l))
@[reducible] def f18 (l : List SK) : List SK := (f16 ((.f .dead) :: (.f .dead) :: l))
@[reducible] def f20 (l : List SK) : List SK := (f4 (f16 l))
@[reducible] def f21 (l : List SK) : List SK := (f4 (f16 ((.f .dead) :: l)))
@[reducible] def f22 (l : List SK) : List SK := (f4 (f16 ((.f .dead) :: (.f .dead) :: l)))
@[reducible] def f23 (l : List SK) : List SK := (f4 (f16 ((.f .dead) :: (.f .dead) :: (.f .dead) :: l)))
@[reducible] def f37 (l : List SK) : List SK := (f4 (f16 (f16 ((.f .dead) :: l))))
@[reducible] def f39 (l : List SK) : List SK := (f4 (f16 (f16 ((.f .dead) :: (.f .dead) :: (.f .dead) :: l))))
@[reducible] def f48 (l : List SK) : List SK := (f16 (f16 (f16 l)))
@[reducible] def f50 (l : List SK) : List SK := (f16 (f16 (f16 ((.f .dead) :: (.f .dead) :: l))))
@[reducible] def f51 (l : List SK) : List SK := (f16 (f16 (f16 ((.f .dead) :: (.f .dead) :: (.f .dead) :: l))))
@[reducible] def f52 (l : List SK) : List SK := (f4 (f16 (f16 (f16 l))))
@[reducible] def f53 (l : List SK) : List SK := (f4 (f16 (f16 (f16 ((.f .dead) :: l)))))
@[reducible] def f56 (l : List SK) : List SK := (f4 (f4 (f16 (f16 (f16 l)))))
@[reducible] def f59 (l : List SK) : List SK := (f4 (f4 (f16 (f16 (f16 ((.f .dead) :: (.f .dead) :: (.f .dead) :: l))))))
@[reducible] def f60 (l : List SK) : List SK := (f4 (f4 (f4 (f16 (f16 (f16 l))))))
@[reducible] def f61 (l : List SK) : List SK := (f4 (f4 (f4 (f16 (f16 (f16 ((.f .dead) :: l)))))))
@[reducible] def f62 (l : List SK) : List SK := (f4 (f4 (f4 (f16 (f16 (f16 ((.f .dead) :: (.f .dead) :: l)))))))
@[reducible] def f66 (l : List SK) : List SK := (f64 ((.f .dead) :: (.f .dead) :: l))
@[reducible] def f69 (l : List SK) : List SK := (f4 (f64 ((.f .dead) :: l)))
@[reducible] def f70 (l : List SK) : List SK := (f4 (f64 ((.f .dead) :: (.f .dead) :: l)))
@[reducible] def f71 (l : List SK) : List SK := (f4 (f64 ((.f .dead) :: (.f .dead) :: (.f .dead) :: l)))
@[reducible] def f78 (l : List SK) : List SK := (f4 (f4 (f4 (f64 ((.f .dead) :: (.f .dead) :: l)))))
@[reducible] def f81 (l : List SK) : List SK := (f16 (f64 ((.f .dead) :: l)))
@[reducible] def f82 (l : List SK) : List SK := (f16 (f64 ((.f .dead) :: (.f .dead) :: l)))
@[reducible] def f83 (l : List SK) : List SK := (f16 (f64 ((.f .dead) :: (.f .dead) :: (.f .dead) :: l)))
@[reducible] def f88 (l : List SK) : List SK := (f4 (f4 (f16 (f64 l))))
@[reducible] def f91 (l : List SK) : List SK := (f4 (f4 (f16 (f64 ((.f .dead) :: (.f .dead) :: (.f .dead) :: l)))))
@[reducible] def f92 (l : List SK) : List SK := (f4 (f4 (f4 (f16 (f64 l)))))
@[reducible] def f93 (l : List SK) : List SK := (f4 (f4 (f4 (f16 (f64 ((.f .dead) :: l))))))
@[reducible] def f94 (l : List SK) : List SK := (f4 (f4 (f4 (f16 (f64 ((.f .dead) :: (.f .dead) :: l))))))
@[reducible] def f95 (l : List SK) : List SK := (f4 (f4 (f4 (f16 (f64 ((.f .dead) :: (.f .dead) :: (.f .dead) :: l))))))
@[reducible] def f96 (l : List SK) : List SK := (f16 (f16 (f64 l)))
@[reducible] def f97 (l : List SK) : List SK := (f16 (f16 (f64 ((.f .dead) :: l))))
@[reducible] def f98 (l : List SK) : List SK := (f16 (f16 (f64 ((.f .dead) :: (.f .dead) :: l))))
@[reducible] def f99 (l : List SK) : List SK := (f16 (f16 (f64 ((.f .dead) :: (.f .dead) :: (.f .dead) :: l))))
@[reducible] def f100 (l : List SK) : List SK := (f4 (f16 (f16 (f64 l))))
@[reducible] def f101 (l : List SK) : List SK := (f4 (f16 (f16 (f64 ((.f .dead) :: l)))))
@[reducible] def sI (s : St) (n : Nat) : Int := toI (cIa s.tmps n)
@[reducible] def aI (us : List AVal) (i j : Nat) : Int := toI (cIa (aggL (cIa us i)) j)
@[reducible] def aIh (s : St) (i j : Nat) : Int := toI (cIa (rows0 (blkAt s.heap i).2) j)
@[reducible] def sR (s : St) (n : Nat) : LL := roRows (cIa s.tmps n)
@[reducible] def aR (us : List AVal) (i j : Nat) : LL := roRows (cIa (aggL (cIa us i)) j)
@[reducible] def aRh (s : St) (i j : Nat) : LL := roRows (cIa (rows0 (blkAt s.heap i).2) j)
@[reducible] def sB (s : St) (n : Nat) : Bool := toB (cIa s.tmps n)
@[reducible] def aB (us : List AVal) (i j : Nat) : Bool := toB (cIa (aggL (cIa us i)) j)
@[reducible] def aBh (s : St) (i j : Nat) : Bool := toB (cIa (rows0 (blkAt s.heap i).2) j)
@[reducible] def sS (s : St) (n : Nat) : ByteArray := toS (cIa s.tmps n)
@[reducible] def aS (us : List AVal) (i j : Nat) : ByteArray := toS (cIa (aggL (cIa us i)) j)
@[reducible] def aSh (s : St) (i j : Nat) : ByteArray := toS (cIa (rows0 (blkAt s.heap i).2) j)
section
variable {T U : Type} {f : T → Option CR} {c c' : Bool} {A B Y : Option CR} {A' B' : Option T}
theorem nd (hc : c = c') (h1 : A = A'.bind f) (h2 : B = B'.bind f) : (bif c then A else B) = (bif c' then A' else B').bind f := n_cond hc h1 h2
theorem nc (hc : c = c') (h1 : c' = true → A = A'.bind f) (h2 : c' = false → B = B'.bind f) : (bif c then A else B) = (bif c' then A' else B').bind f := n_condH hc h1 h2
theorem nb {x : Option U} {K : U → Option CR} {K' : U → Option T} (h : ∀ u, K u = (K' u).bind f) : x.bind K = (x.bind K').bind f := n_bind h
theorem nu (hc : c = true) (h : A = Y) : (bif c then A else none) = Y := n_true hc h
end
theorem vr (l : LL) : verEq l.length l.length = true := verEq_rfl _
theorem n_tru {c : Bool} {A Y : Option CR} (hc : c = true) (h : A = Y) : (bif c then A else none) = Y := n_true hc h
abbrev y0 : List LT := [LT.str, LT.bool, LT.bool, (LT.int IntKind.i64), (LT.int IntKind.i64), (LT.int IntKind.i64), (LT.int IntKind.i64), (LT.int IntKind.i64), (LT.int IntKind.i64), (LT.int IntKind.i64), (LT.int IntKind.i64), (LT.int IntKind.i64), LT.str, (LT.int IntKind.i64), (LT.int IntKind.i64), (LT.int IntKind.i64), (LT.sl 9 1), (LT.sl 9 1), (LT.sl 9 1)]
abbrev y1 : List LT := [LT.str, (LT.int IntKind.i64), (LT.int IntKind.i64), (LT.int IntKind.i64), (LT.int IntKind.i64), (LT.int IntKind.i64)]
abbrev y2 : List LT := [LT.str, (LT.sl 9 1), (LT.int IntKind.i64), (LT.int IntKind.i64), (LT.int IntKind.i64), LT.str, (LT.int IntKind.i64), (LT.int IntKind.i64)]
abbrev y3 : List LT := [(LT.int IntKind.i64), (LT.int IntKind.i64), (LT.int IntKind.i64)]
abbrev y4 : List LT := [(LT.int IntKind.i64), (LT.int IntKind.i64), (LT.int IntKind.i64), (LT.int IntKind.i64), LT.str]
abbrev y5 : List LT := [(LT.int IntKind.i64), (LT.int IntKind.i64), LT.str]
abbrev y6 : List LT := [(LT.int IntKind.i64), (LT.int IntKind.i64), LT.str, (LT.int IntKind.i64), (LT.int IntKind.i64), (LT.int IntKind.i64), (LT.int IntKind.i64), (LT.int IntKind.i64), (LT.int IntKind.i64), (LT.int IntKind.i64), (LT.sl 104 5), (LT.sl 163 3)]
abbrev y7 : List LT := [(LT.int IntKind.i64), (LT.int IntKind.i64), (LT.int IntKind.i64), (LT.int IntKind.i64), (LT.sl 9 1), LT.bool]
abbrev y8 : List LT := [(LT.int IntKind.i64), (LT.int IntKind.i64), (LT.int IntKind.i64), (LT.int IntKind.i64), (LT.int IntKind.i64), (LT.int IntKind.i64), (LT.int IntKind.i64)]
abbrev y9 : List LT := [(LT.int IntKind.i64), (LT.int IntKind.i64)]
abbrev y10 : List LT := [(LT.int IntKind.i64), (LT.int IntKind.i64), LT.str, (LT.int IntKind.i64), (LT.int IntKind.i64), (LT.int IntKind.i64)]
abbrev y11 : List LT := [(LT.int IntKind.i64), (LT.sl 4 1), (LT.sl 166 6)]
abbrev y12 : List LT := [LT.str, (LT.int IntKind.i64), (LT.int IntKind.i64)]
abbrev y13 : List LT := [(LT.int IntKind.i64), (LT.int IntKind.i64), (LT.int IntKind.i64), LT.str]
abbrev y14 : List LT := [(LT.int IntKind.i64), (LT.int IntKind.i64), (LT.int IntKind.i64), (LT.sl 2 1), (LT.sl 2 1)]
abbrev y15 : List LT := [(LT.int IntKind.i64), (LT.sl 168 3), (LT.sl 170 4), (LT.sl 173 5)]
abbrev y16 : List LT := [(LT.int IntKind.i64), (LT.int IntKind.i64), (LT.int IntKind.i64), LT.str, (LT.int IntKind.i64), (LT.int IntKind.i64), (LT.int IntKind.i64), (LT.int IntKind.i64), (LT.int IntKind.i64)]
@[reducible] def GM (a b c : Int) (d : Bool) (e : Int) (f g h : LL) (i j : Int) (k l m n o p : LL) : List AVal := [(i64 a), (i64 b), (i64 c), (bo d), (.sc (.int .u64 e)), (.ro 19 f), (.ro 6 g), (.ro 8 h), (i64 i), (i64 j), (.ro 3 k), (.ro 6 l), (.ro 12 m), (.ro 9 n), (.ro 3 o), (.ro 4 p)]
theorem v4 (n : Nat) : ((((true && (verEq n n)) && true) && true) && true) = true := n_andL (n_andL (n_andL (n_andL rfl (verEq_rfl _)) rfl) rfl) rfl
theorem v3 (n : Nat) : ((((verEq n n) && true) && true) && true) = true := n_andL (n_andL (n_andL (verEq_rfl _) rfl) rfl) rfl
abbrev KT := Ex → St → Option CR
@[reducible] noncomputable def KW (W : Ex → List Bool) (k : KT) : KT := fun e s => k e (maskS (W e) s)
@[reducible] noncomputable def SM {T : Type} (ks : List SK) (A : List AVal → Option T) (enc : T → CR) (us : List AVal) : Call := bif chkA ks us then Call.of (A us) enc else Call.none
theorem LF {C : FuncId → List AVal → List Blk → Call} {ownF : FuncId → Bool} (h : Lib Tryz.prog GL0 C) {f : FuncId} {fn : Func} (hf : Tryz.prog.funcs[f]? = some fn) (h1 : (fn.name == "runtime.NumGoroutine") = false) (h2 : fn.body.isNone = false) (own : Bool) (L : LT') (hL : ∀ p ∈ loopsOf fn, LoopOk TT TU GL0 C ownF L p) {ks : List SK} {T : Type} {F : List AVal → Option T} {enc : T → CR} (hrun : ∀ us, fcall TT TU GL0 C ownF own L fn (decA ks us) = (F us).bind fun t => some (enc t)) (henc : ∀ t, enc t = ⟨true, (enc t).res, [], (enc t).news⟩) : Lib Tryz.prog GL0 (AI.ext f (SM ks F enc) C) := Lib.fn h mixed TT_ok hf h1 h2 own L hL ks (fun us => rfl) hrun henc
def W44_0 : Ex → List Bool
 | .ret => (false :: false :: true :: (e19 []))
 | .exit n => bif Nat.beq n 0 then (false :: false :: false :: true :: (e18 [])) else []
 | .normal => []
noncomputable def G_l10_names_0 (l : LL) : Nat → Int → Int → Option (Int)
 | 0, _, _ => none
 | m + 1, n, i => bif (decide (i < (Int.ofNat l.length))) then bif (decide (0 ≤ i)) then (l[i.toNat]?).bind fun r => bif (chk [LT.str] r) then
 G_l10_names_0 l m (wr (n + (minI (Int.ofNat (ByteArray.size (cS r 0))) 100000))) (wr (i + 1)) else none else none else some n
def E44_0 (l : LL) (n i : Int) : St := ⟨((.ro 1 l) :: .dead :: .dead :: (i64 n) :: (i64 i) :: (d17 [])), []⟩
def X44_0 (k : KT) (t : Int) : Option CR := k (.exit 0) ⟨(.dead :: .dead :: .dead :: (i64 t) :: (d18 [])), []⟩
def ks44_0 : List SK := (.f (.ro 1) :: .f .dead :: .f .dead :: .f (.int .i64) :: .f (.int .i64) :: (f17 []))
def hs44_0 : List HK := []
noncomputable def Lm44_0 (s : St) (k : KT) : Option CR := bif chkS ks44_0 hs44_0 s then (G_l10_names_0 (sR s 0) FU (sI s 3) (sI s 4)).bind (X44_0 k) else none
noncomputable def L44 : LT' := fun i s k => bif Nat.beq i 0 then (Lm44_0 (maskS (maskOf ks44_0) s) k) else none
noncomputable def F_l10_names (l : LL) : Option (Int) := (G_l10_names_0 l FU (Int.ofNat l.length) 0).bind fun t => some t
def enc44 (t : Int) : CR := ⟨true, (i64 t), [], []⟩
def ks44 : List SK := [.f (.ro 1)]
noncomputable def A44 (us : List AVal) := F_l10_names (roRows (cIa us 0))
noncomputable def C44 := AI.ext 44 (SM ks44 A44 enc44) Cnone
@[reducible] noncomputable def B44_0 := bodyOf TT TU GL0 Cnone ownF L44 (lp Tryz.f44 0)
theorem spec44_0 (k : KT) : ∀ (m : Nat) (l : LL) (n i : Int), loopN B44_0 m (E44_0 l n i) (KW W44_0 k) = (G_l10_names_0 l m n i).bind (X44_0 k)
 | 0, _, _, _ => rfl
 | m + 1, l, n, i =>
 Eq.trans (by kernel_rfl) (nd rfl (nd rfl (nb fun r => (nd rfl (spec44_0 k m l (wr (n + (minI (Int.ofNat (ByteArray.size (cS r 0))) 100000))) (wr (i + 1))) rfl)) rfl) rfl)
theorem okL44_0 : LoopOk TT TU GL0 Cnone ownF L44 (lp Tryz.f44 0) :=
 loopOk_of ks44_0 hs44_0 W44_0 FU _ (fun s k => by kernel_rfl) (fun s k => spec44_0 k FU (sR s 0) (sI s 3) (sI s 4))
theorem run44 (l : LL) : fcall TT TU GL0 Cnone ownF true L44 Tryz.f44 [(.ro 1 l)] = (F_l10_names l).bind fun t => some (enc44 t) :=
 Eq.trans (by kernel_rfl) (nb fun t => rfl)
theorem lib44 : Lib Tryz.prog GL0 C44 :=
 LF libnone Tryz.func44 (by decide +kernel) (by kernel_rfl) true L44 (loops_of 1 (by kernel_rfl) (belowS below0 okL44_0)) (fun us => run44 _) (fun t => rfl)
def W20_0 : Ex → List Bool
 | .ret => (false :: false :: true :: (e103 []))
 | .exit n => bif Nat.beq n 0 then (false :: true :: false :: true :: (e102 [])) else []
 | .normal => []
noncomputable def G_l10_Huge_0 (b0_0 : LL) : Nat → Int → Int → Option (Int)
 | 0, _, _ => none
 | m + 1, n, i => bif (decide (i < (Int.ofNat b0_0.length))) then bif (decide (0 ≤ i)) then (b0_0[i.toNat]?).bind fun r => bif (chk y0 r) then (F_l10_names [[(AVal.sc (Value.string (cS r 0)))], [(AVal.sc (Value.string (cS r 12)))]]).bind fun t => (F_l10_names (roRows (AVal.ro 1 (cR r 16)))).bind fun t1 => (F_l10_names (roRows (AVal.ro 1 (cR r 17)))).bind fun t2 => (F_l10_names (roRows (AVal.ro 1 (cR r 18)))).bind fun t3 =>
 G_l10_Huge_0 b0_0 m (wr (n + (wr ((wr ((wr (t + t1)) + t2)) + t3)))) (wr (i + 1)) else none else none else some n
def E20_0 (n i : Int) (b0_0 b0_1 b0_2 : LL) : St := ⟨(.dead :: (.ref 16000 1 0 0) :: .dead :: (i64 n) :: (i64 i) :: (d101 [])), [(16000, ⟨.box, 27, 3, [[(.ro 19 b0_0), (.ro 6 b0_1), (.ro 8 b0_2)]]⟩)]⟩
def X20_0 (b0_0 b0_1 b0_2 : LL) (k : KT) (t : Int) : Option CR := k (.exit 0) ⟨(.dead :: (.ref 16000 1 0 0) :: .dead :: (i64 t) :: (d102 [])), [(16000, ⟨.box, 27, 3, [[(.ro 19 b0_0), (.ro 6 b0_1), (.ro 8 b0_2)]]⟩)]⟩
def ks20_0 : List SK := (.f .dead :: .f (.ref 16000 1 0 0) :: .f .dead :: .f (.int .i64) :: .f (.int .i64) :: (f101 []))
def hs20_0 : List HK := [⟨16000, .box, 27, 3, some [.ro 19, .ro 6, .ro 8]⟩]
noncomputable def Lm20_0 (s : St) (k : KT) : Option CR := bif chkS ks20_0 hs20_0 s then (G_l10_Huge_0 (aRh s 0 0) FU (sI s 3) (sI s 4)).bind (X20_0 (aRh s 0 0) (aRh s 0 1) (aRh s 0 2) k) else none
def W20_1 : Ex → List Bool
 | .ret => (false :: false :: true :: (e103 []))
 | .exit n => bif Nat.beq n 2 then (false :: true :: false :: true :: (e102 [])) else []
 | .normal => []
noncomputable def G_l10_Huge_1 (b0_1 : LL) : Nat → Int → Int → Option (Int)
 | 0, _, _ => none
 | m + 1, n, i => bif (decide (i < (Int.ofNat b0_1.length))) then bif (decide (0 ≤ i)) then (b0_1[i.toNat]?).bind fun r => bif (chk y1 r) then (F_l10_names [[(AVal.sc (Value.string (cS r 0)))]]).bind fun t =>
 G_l10_Huge_1 b0_1 m (wr (n + t)) (wr (i + 1)) else none else none else some n
def E20_1 (n i : Int) (b0_0 b0_1 b0_2 : LL) : St := ⟨(.dead :: (.ref 16000 1 0 0) :: .dead :: (i64 n) :: .dead :: .dead :: (i64 i) :: (d99 [])), [(16000, ⟨.box, 27, 3, [[(.ro 19 b0_0), (.ro 6 b0_1), (.ro 8 b0_2)]]⟩)]⟩
def X20_1 (b0_0 b0_1 b0_2 : LL) (k : KT) (t : Int) : Option CR := k (.exit 2) ⟨(.dead :: (.ref 16000 1 0 0) :: .dead :: (i64 t) :: (d102 [])), [(16000, ⟨.box, 27, 3, [[(.ro 19 b0_0), (.ro 6 b0_1), (.ro 8 b0_2)]]⟩)]⟩
def ks20_1 : List SK := (.f .dead :: .f (.ref 16000 1 0 0) :: .f .dead :: .f (.int .i64) :: .f .dead :: .f .dead :: .f (.int .i64) :: (f99 []))
noncomputable def Lm20_1 (s : St) (k : KT) : Option CR := bif chkS ks20_1 hs20_0 s then (G_l10_Huge_1 (aRh s 0 1) FU (sI s 3) (sI s 6)).bind (X20_1 (aRh s 0 0) (aRh s 0 1) (aRh s 0 2) k) else none
def W20_2 : Ex → List Bool
 | .ret => (false :: false :: true :: (e103 []))
 | .exit n => bif Nat.beq n 4 then (false :: false :: false :: true :: (e102 [])) else []
 | .normal => []
noncomputable def G_l10_Huge_2 (b0_2 : LL) : Nat → Int → Int → Option (Int)
 | 0, _, _ => none
 | m + 1, n, i => bif (decide (i < (Int.ofNat b0_2.length))) then bif (decide (0 ≤ i)) then (b0_2[i.toNat]?).bind fun r => bif (chk y2 r) then (b0_2[i.toNat]?).bind fun r1 => bif (chk y2 r1) then (F_l10_names [[(AVal.sc (Value.string (cS r 0)))], [(AVal.sc (Value.string (cS r1 5)))]]).bind fun t => (b0_2[i.toNat]?).bind fun r2 => bif (chk y2 r2) then (F_l10_names (roRows (AVal.ro 1 (cR r2 1)))).bind fun t1 =>
 G_l10_Huge_2 b0_2 m (wr (n + (wr (t + t1)))) (wr (i + 1)) else none else none else none else none else some n
def E20_2 (n i : Int) (b0_0 b0_1 b0_2 : LL) : St := ⟨(.dead :: (.ref 16000 1 0 0) :: .dead :: (i64 n) :: .dead :: .dead :: .dead :: (i64 i) :: (d98 [])), [(16000, ⟨.box, 27, 3, [[(.ro 19 b0_0), (.ro 6 b0_1), (.ro 8 b0_2)]]⟩)]⟩
def X20_2 (k : KT) (t : Int) : Option CR := k (.exit 4) ⟨(.dead :: .dead :: .dead :: (i64 t) :: (d102 [])), []⟩
def ks20_2 : List SK := (.f .dead :: .f (.ref 16000 1 0 0) :: .f .dead :: .f (.int .i64) :: .f .dead :: .f .dead :: .f .dead :: .f (.int .i64) :: (f98 []))
noncomputable def Lm20_2 (s : St) (k : KT) : Option CR := bif chkS ks20_2 hs20_0 s then (G_l10_Huge_2 (aRh s 0 2) FU (sI s 3) (sI s 7)).bind (X20_2 k) else none
noncomputable def L20 : LT' := fun i s k => bif Nat.beq i 0 then (Lm20_0 (maskS (maskOf ks20_0) s) k) else bif Nat.beq i 2 then (Lm20_1 (maskS (maskOf ks20_1) s) k) else bif Nat.beq i 4 then (Lm20_2 (maskS (maskOf ks20_2) s) k) else none
noncomputable def F_l10_Huge (zr zq zs : LL) : Option (Bool) := bif (decide ((Int.ofNat zr.length) > 100)) then some true else bif (decide ((Int.ofNat zq.length) > 100)) then some true else bif (decide ((Int.ofNat zs.length) > 100)) then some true else (G_l10_Huge_0 zr FU 0 0).bind fun t => (G_l10_Huge_1 zq FU t 0).bind fun t1 => (G_l10_Huge_2 zs FU t1 0).bind fun t2 => some (decide (t2 > 20000))
def enc20 (t : Bool) : CR := ⟨true, (bo t), [], []⟩
def ks20 : List SK := [.agg [.ro 19, .ro 6, .ro 8]]
noncomputable def A20 (us : List AVal) := F_l10_Huge (aR us 0 0) (aR us 0 1) (aR us 0 2)
noncomputable def C20 := AI.ext 20 (SM ks20 A20 enc20) C44
@[reducible] noncomputable def B20_0 := bodyOf TT TU GL0 C44 ownF L20 (lp Tryz.f20 0)
theorem spec20_0 (k : KT) : ∀ (m : Nat) (n i : Int) (b0_0 b0_1 b0_2 : LL), loopN B20_0 m (E20_0 n i b0_0 b0_1 b0_2) (KW W20_0 k) = (G_l10_Huge_0 b0_0 m n i).bind (X20_0 b0_0 b0_1 b0_2 k)
 | 0, _, _, _, _, _ => rfl
 | m + 1, n, i, b0_0, b0_1, b0_2 =>
 Eq.trans (by kernel_rfl) (nd rfl (nd rfl (nb fun r => (nd rfl (nb fun t => (nb fun t1 => (nb fun t2 => (nb fun t3 => (spec20_0 k m (wr (n + (wr ((wr ((wr (t + t1)) + t2)) + t3)))) (wr (i + 1)) b0_0 b0_1 b0_2))))) rfl)) rfl) rfl)
theorem okL20_0 : LoopOk TT TU GL0 C44 ownF L20 (lp Tryz.f20 0) :=
 loopOk_of ks20_0 hs20_0 W20_0 FU _ (fun s k => by kernel_rfl) (fun s k => spec20_0 k FU (sI s 3) (sI s 4) (aRh s 0 0) (aRh s 0 1) (aRh s 0 2))
@[reducible] noncomputable def B20_1 := bodyOf TT TU GL0 C44 ownF L20 (lp Tryz.f20 1)
theorem spec20_1 (k : KT) : ∀ (m : Nat) (n i : Int) (b0_0 b0_1 b0_2 : LL), loopN B20_1 m (E20_1 n i b0_0 b0_1 b0_2) (KW W20_1 k) = (G_l10_Huge_1 b0_1 m n i).bind (X20_1 b0_0 b0_1 b0_2 k)
 | 0, _, _, _, _, _ => rfl
 | m + 1, n, i, b0_0, b0_1, b0_2 =>
 Eq.trans (by kernel_rfl) (nd rfl (nd rfl (nb fun r => (nd rfl (nb fun t => (spec20_1 k m (wr (n + t)) (wr (i + 1)) b0_0 b0_1 b0_2)) rfl)) rfl) rfl)
theorem okL20_1 : LoopOk TT TU GL0 C44 ownF L20 (lp Tryz.f20 1) :=
 loopOk_of ks20_1 hs20_0 W20_1 FU _ (fun s k => by kernel_rfl) (fun s k => spec20_1 k FU (sI s 3) (sI s 6) (aRh s 0 0) (aRh s 0 1) (aRh s 0 2))
@[reducible] noncomputable def B20_2 := bodyOf TT TU GL0 C44 ownF L20 (lp Tryz.f20 2)
theorem spec20_2 (k : KT) : ∀ (m : Nat) (n i : Int) (b0_0 b0_1 b0_2 : LL), loopN B20_2 m (E20_2 n i b0_0 b0_1 b0_2) (KW W20_2 k) = (G_l10_Huge_2 b0_2 m n i).bind (X20_2 k)
 | 0, _, _, _, _, _ => rfl
 | m + 1, n, i, b0_0, b0_1, b0_2 =>
 Eq.trans (by kernel_rfl) (nd rfl (nc rfl (fun h1 => (nb fun r => (nd rfl (nu h1 (nb fun r1 => (nd rfl (nb fun t => (nu h1 (nb fun r2 => (nd rfl (nb fun t1 => (spec20_2 k m (wr (n + (wr (t + t1)))) (wr (i + 1)) b0_0 b0_1 b0_2)) rfl)))) rfl))) rfl))) fun h1 => rfl) rfl)
theorem okL20_2 : LoopOk TT TU GL0 C44 ownF L20 (lp Tryz.f20 2) :=
 loopOk_of ks20_2 hs20_0 W20_2 FU _ (fun s k => by kernel_rfl) (fun s k => spec20_2 k FU (sI s 3) (sI s 7) (aRh s 0 0) (aRh s 0 1) (aRh s 0 2))
theorem run20 (zr zq zs : LL) : fcall TT TU GL0 C44 ownF true L20 Tryz.f20 [(.agg [(.ro 19 zr), (.ro 6 zq), (.ro 8 zs)])] = (F_l10_Huge zr zq zs).bind fun t => some (enc20 t) :=
 Eq.trans (by kernel_rfl) (nd rfl rfl (nd rfl rfl (nd rfl rfl (nb fun t => (nb fun t1 => (nb fun t2 => rfl))))))
theorem lib20 : Lib Tryz.prog GL0 C20 :=
 LF lib44 Tryz.func20 (by decide +kernel) (by kernel_rfl) true L20 (loops_of 3 (by kernel_rfl) (belowS (belowS (belowS below0 okL20_0) okL20_1) okL20_2)) (fun us => run20 _ _ _) (fun t => rfl)
def W21_0 : Ex → List Bool
 | .ret => (false :: false :: true :: (e22 []))
 | .exit n => bif Nat.beq n 0 then (e25 []) else []
 | .normal => []
noncomputable def G_l22_huge_0 (l : LL) : Nat → Int → Int → Option (Bool)
 | 0, _, _ => none
 | m + 1, n, i => bif (decide (i < (Int.ofNat l.length))) then bif (decide (0 ≤ i)) then (l[i.toNat]?).bind fun r => bif (chk [LT.str] r) then bif (decide (i > 100)) then some true else bif (decide ((wr (n + (minI (Int.ofNat (ByteArray.size (cS r 0))) 100000))) > 20000)) then some true else
 G_l22_huge_0 l m (wr (n + (minI (Int.ofNat (ByteArray.size (cS r 0))) 100000))) (wr (i + 1)) else none else none else some false
def E21_0 (l : LL) (n i : Int) : St := ⟨((.ro 1 l) :: .dead :: .dead :: (i64 n) :: (i64 i) :: (d20 [])), []⟩
def X21_0 (k : KT) (t : Bool) : Option CR := bif t then k .ret ⟨(.dead :: .dead :: (bo true) :: (d22 [])), []⟩ else k (.exit 0) ⟨(d25 []), []⟩
def ks21_0 : List SK := (.f (.ro 1) :: .f .dead :: .f .dead :: .f (.int .i64) :: .f (.int .i64) :: (f20 []))
noncomputable def Lm21_0 (s : St) (k : KT) : Option CR := bif chkS ks21_0 hs44_0 s then (G_l22_huge_0 (sR s 0) FU (sI s 3) (sI s 4)).bind (X21_0 k) else none
noncomputable def L21 : LT' := fun i s k => bif Nat.beq i 0 then (Lm21_0 (maskS (maskOf ks21_0) s) k) else none
noncomputable def F_l22_huge (l : LL) : Option (Bool) := (G_l22_huge_0 l FU 0 0).bind fun t => bif t then some true else some false
noncomputable def A21 (us : List AVal) := F_l22_huge (roRows (cIa us 0))
noncomputable def C21 := AI.ext 21 (SM ks44 A21 enc20) C20
@[reducible] noncomputable def B21_0 := bodyOf TT TU GL0 C20 ownF L21 (lp Tryz.f21 0)
theorem spec21_0 (k : KT) : ∀ (m : Nat) (l : LL) (n i : Int), loopN B21_0 m (E21_0 l n i) (KW W21_0 k) = (G_l22_huge_0 l m n i).bind (X21_0 k)
 | 0, _, _, _ => rfl
 | m + 1, l, n, i =>
 Eq.trans (by kernel_rfl) (nd rfl (nd rfl (nb fun r => (nd rfl (nd rfl rfl (nd rfl rfl (spec21_0 k m l (wr (n + (minI (Int.ofNat (ByteArray.size (cS r 0))) 100000))) (wr (i + 1))))) rfl)) rfl) rfl)
theorem okL21_0 : LoopOk TT TU GL0 C20 ownF L21 (lp Tryz.f21 0) :=
 loopOk_of ks21_0 hs44_0 W21_0 FU _ (fun s k => by kernel_rfl) (fun s k => spec21_0 k FU (sR s 0) (sI s 3) (sI s 4))
theorem run21 (l : LL) : fcall TT TU GL0 C20 ownF true L21 Tryz.f21 [(.ro 1 l)] = (F_l22_huge l).bind fun t => some (enc20 t) :=
 Eq.trans (by kernel_rfl) (nb fun t => (nd rfl rfl rfl))
theorem lib21 : Lib Tryz.prog GL0 C21 :=
 LF lib20 Tryz.func21 (by decide +kernel) (by kernel_rfl) true L21 (loops_of 1 (by kernel_rfl) (belowS below0 okL21_0)) (fun us => run21 _) (fun t => rfl)
def W88_0 : Ex → List Bool
 | .ret => (false :: false :: true :: (e62 []))
 | .exit n => bif Nat.beq n 0 then (false :: true :: (e63 [])) else []
 | .normal => []
noncomputable def G_r09_limits_0 (b0_0 : LL) : Nat → Int → Option (Bool)
 | 0, _ => none
 | m + 1, i => bif (decide (i < (Int.ofNat b0_0.length))) then bif (decide (0 ≤ i)) then (b0_0[i.toNat]?).bind fun r => bif (chk y0 r) then bif (decide ((Int.ofNat (cR r 16).length) > 4)) then some true else bif (decide ((Int.ofNat (cR r 17).length) > 4)) then some true else bif (decide ((Int.ofNat (cR r 18).length) > 4)) then some true else
 G_r09_limits_0 b0_0 m (wr (i + 1)) else none else none else some false
def E88_0 (i : Int) (b0_0 b0_1 b0_2 : LL) : St := ⟨(.dead :: (.ref 16000 1 0 0) :: .dead :: (i64 i) :: (d61 [])), [(16000, ⟨.box, 27, 3, [[(.ro 19 b0_0), (.ro 6 b0_1), (.ro 8 b0_2)]]⟩)]⟩
def X88_0 (b0_0 b0_1 b0_2 : LL) (k : KT) (t : Bool) : Option CR := bif t then k .ret ⟨(.dead :: .dead :: (bo false) :: (d62 [])), []⟩ else k (.exit 0) ⟨(.dead :: (.ref 16000 1 0 0) :: (d63 [])), [(16000, ⟨.box, 27, 3, [[(.ro 19 b0_0), (.ro 6 b0_1), (.ro 8 b0_2)]]⟩)]⟩
def ks88_0 : List SK := (.f .dead :: .f (.ref 16000 1 0 0) :: .f .dead :: .f (.int .i64) :: (f61 []))
noncomputable def Lm88_0 (s : St) (k : KT) : Option CR := bif chkS ks88_0 hs20_0 s then (G_r09_limits_0 (aRh s 0 0) FU (sI s 3)).bind (X88_0 (aRh s 0 0) (aRh s 0 1) (aRh s 0 2) k) else none
def W88_1 : Ex → List Bool
 | .ret => (false :: false :: true :: (e62 []))
 | .exit n => bif Nat.beq n 2 then (e65 []) else []
 | .normal => []
noncomputable def G_r09_limits_1 (b0_2 : LL) : Nat → Int → Option (Bool)
 | 0, _ => none
 | m + 1, i => bif (decide (i < (Int.ofNat b0_2.length))) then bif (decide (0 ≤ i)) then (b0_2[i.toNat]?).bind fun r => bif (chk y2 r) then bif (decide ((Int.ofNat (cR r 1).length) > 4)) then some true else
 G_r09_limits_1 b0_2 m (wr (i + 1)) else none else none else some false
def E88_1 (i : Int) (b0_0 b0_1 b0_2 : LL) : St := ⟨(.dead :: (.ref 16000 1 0 0) :: .dead :: .dead :: .dead :: (i64 i) :: (d59 [])), [(16000, ⟨.box, 27, 3, [[(.ro 19 b0_0), (.ro 6 b0_1), (.ro 8 b0_2)]]⟩)]⟩
def X88_1 (k : KT) (t : Bool) : Option CR := bif t then k .ret ⟨(.dead :: .dead :: (bo false) :: (d62 [])), []⟩ else k (.exit 2) ⟨(d65 []), []⟩
def ks88_1 : List SK := (.f .dead :: .f (.ref 16000 1 0 0) :: .f .dead :: .f .dead :: .f .dead :: .f (.int .i64) :: (f59 []))
noncomputable def Lm88_1 (s : St) (k : KT) : Option CR := bif chkS ks88_1 hs20_0 s then (G_r09_limits_1 (aRh s 0 2) FU (sI s 5)).bind (X88_1 k) else none
noncomputable def L88 : LT' := fun i s k => bif Nat.beq i 0 then (Lm88_0 (maskS (maskOf ks88_0) s) k) else bif Nat.beq i 2 then (Lm88_1 (maskS (maskOf ks88_1) s) k) else none
noncomputable def F_r09_limits (zr zq zs : LL) : Option (Bool) := bif (decide ((Int.ofNat zr.length) > 16)) then some false else bif (decide ((Int.ofNat zq.length) > 8)) then some false else bif (decide ((Int.ofNat zs.length) > 12)) then some false else (G_r09_limits_0 zr FU 0).bind fun t => bif t then some false else (G_r09_limits_1 zs FU 0).bind fun t1 => bif t1 then some false else some true
noncomputable def A88 (us : List AVal) := F_r09_limits (aR us 0 0) (aR us 0 1) (aR us 0 2)
noncomputable def C88 := AI.ext 88 (SM ks20 A88 enc20) C21
@[reducible] noncomputable def B88_0 := bodyOf TT TU GL0 C21 ownF L88 (lp Tryz.f88 0)
theorem spec88_0 (k : KT) : ∀ (m : Nat) (i : Int) (b0_0 b0_1 b0_2 : LL), loopN B88_0 m (E88_0 i b0_0 b0_1 b0_2) (KW W88_0 k) = (G_r09_limits_0 b0_0 m i).bind (X88_0 b0_0 b0_1 b0_2 k)
 | 0, _, _, _, _ => rfl
 | m + 1, i, b0_0, b0_1, b0_2 =>
 Eq.trans (by kernel_rfl) (nd rfl (nd rfl (nb fun r => (nd rfl (nd rfl rfl (nd rfl rfl (nd rfl rfl (spec88_0 k m (wr (i + 1)) b0_0 b0_1 b0_2)))) rfl)) rfl) rfl)
theorem okL88_0 : LoopOk TT TU GL0 C21 ownF L88 (lp Tryz.f88 0) :=
 loopOk_of ks88_0 hs20_0 W88_0 FU _ (fun s k => by kernel_rfl) (fun s k => spec88_0 k FU (sI s 3) (aRh s 0 0) (aRh s 0 1) (aRh s 0 2))
@[reducible] noncomputable def B88_1 := bodyOf TT TU GL0 C21 ownF L88 (lp Tryz.f88 1)
theorem spec88_1 (k : KT) : ∀ (m : Nat) (i : Int) (b0_0 b0_1 b0_2 : LL), loopN B88_1 m (E88_1 i b0_0 b0_1 b0_2) (KW W88_1 k) = (G_r09_limits_1 b0_2 m i).bind (X88_1 k)
 | 0, _, _, _, _ => rfl
 | m + 1, i, b0_0, b0_1, b0_2 =>
 Eq.trans (by kernel_rfl) (nd rfl (nd rfl (nb fun r => (nd rfl (nd rfl rfl (spec88_1 k m (wr (i + 1)) b0_0 b0_1 b0_2)) rfl)) rfl) rfl)
theorem okL88_1 : LoopOk TT TU GL0 C21 ownF L88 (lp Tryz.f88 1) :=
 loopOk_of ks88_1 hs20_0 W88_1 FU _ (fun s k => by kernel_rfl) (fun s k => spec88_1 k FU (sI s 5) (aRh s 0 0) (aRh s 0 1) (aRh s 0 2))
theorem run88 (zr zq zs : LL) : fcall TT TU GL0 C21 ownF true L88 Tryz.f88 [(.agg [(.ro 19 zr), (.ro 6 zq), (.ro 8 zs)])] = (F_r09_limits zr zq zs).bind fun t => some (enc20 t) :=
 Eq.trans (by kernel_rfl) (nd rfl rfl (nd rfl rfl (nd rfl rfl (nb fun t => (nd rfl rfl (nb fun t1 => (nd rfl rfl rfl)))))))
theorem lib88 : Lib Tryz.prog GL0 C88 :=
 LF lib21 Tryz.func88 (by decide +kernel) (by kernel_rfl) true L88 (loops_of 2 (by kernel_rfl) (belowS (belowS below0 okL88_0) okL88_1)) (fun us => run88 _ _ _) (fun t => rfl)
noncomputable def G_r09_Units_0 (b0_0 : LL) : Nat → LL → Int → Option (LL)
 | 0, _, _ => none
 | m + 1, R1, i => bif (decide (i < (Int.ofNat b0_0.length))) then bif (decide (0 ≤ i)) then (b0_0[i.toNat]?).bind fun r => bif (chk y0 r) then bif (roomOk (R1.length + 1) 16) then
 G_r09_Units_0 b0_0 m (R1 ++ [[(AVal.sc (Value.string (cS r 0)))]]) (wr (i + 1)) else none else none else none else some R1
def E139_0 (R1 : LL) (i : Int) (b0_0 b0_1 b0_2 : LL) : St := ⟨(.dead :: (.ref 16000 1 0 0) :: .dead :: (.slc 19200 (R1).length) :: (i64 i) :: (d17 [])), [(16000, ⟨.box, 27, 3, [[(.ro 19 b0_0), (.ro 6 b0_1), (.ro 8 b0_2)]]⟩), (19200, ⟨.arr, 9, 1, R1⟩)]⟩
def X139_0 (k : KT) (t : LL) : Option CR := k (.exit 0) ⟨(.dead :: .dead :: .dead :: (.slc 19200 (t).length) :: (d18 [])), [(19200, ⟨.arr, 9, 1, t⟩)]⟩
def ks139_0 : List SK := (.f .dead :: .f (.ref 16000 1 0 0) :: .f .dead :: .f (.slc 19200 1) :: .f (.int .i64) :: (f17 []))
def hs139_0 : List HK := [⟨16000, .box, 27, 3, some [.ro 19, .ro 6, .ro 8]⟩, ⟨19200, .arr, 9, 1, none⟩]
noncomputable def Lm139_0 (s : St) (k : KT) : Option CR := bif chkS ks139_0 hs139_0 s then (G_r09_Units_0 (aRh s 0 0) FU (blkAt s.heap 1).2.rows (sI s 4)).bind (X139_0 k) else none
noncomputable def L139 : LT' := fun i s k => bif Nat.beq i 0 then (Lm139_0 (maskS (maskOf ks139_0) s) k) else none
noncomputable def F_r09_Units (zr zq zs : LL) : Option (LL) := (G_r09_Units_0 zr FU [] 0).bind fun t => some t
def enc139 (t : LL) : CR := ⟨true, (.slc 0 (t).length), [], [⟨.arr, 9, 1, t⟩]⟩
noncomputable def A139 (us : List AVal) := F_r09_Units (aR us 0 0) (aR us 0 1) (aR us 0 2)
noncomputable def C139 := AI.ext 139 (SM ks20 A139 enc139) C88
@[reducible] noncomputable def B139_0 := bodyOf TT TU GL0 C88 ownF L139 (lp Tryz.f139 0)
theorem spec139_0 (k : KT) : ∀ (m : Nat) (R1 : LL) (i : Int) (b0_0 b0_1 b0_2 : LL), loopN B139_0 m (E139_0 R1 i b0_0 b0_1 b0_2) (KW W44_0 k) = (G_r09_Units_0 b0_0 m R1 i).bind (X139_0 k)
 | 0, _, _, _, _, _ => rfl
 | m + 1, R1, i, b0_0, b0_1, b0_2 =>
 Eq.trans (by kernel_rfl) (nd rfl (nd rfl (nb fun r => (nd rfl (nd (show ((((verEq R1.length R1.length) && true) && (roomOk (R1.length + 1) 16))) = _ from (n_andL (n_andL (verEq_rfl _) rfl) rfl)) (spec139_0 k m (R1 ++ [[(AVal.sc (Value.string (cS r 0)))]]) (wr (i + 1)) b0_0 b0_1 b0_2) rfl) rfl)) rfl) rfl)
theorem okL139_0 : LoopOk TT TU GL0 C88 ownF L139 (lp Tryz.f139 0) :=
 loopOk_of ks139_0 hs139_0 W44_0 FU _ (fun s k => by kernel_rfl) (fun s k => spec139_0 k FU (blkAt s.heap 1).2.rows (sI s 4) (aRh s 0 0) (aRh s 0 1) (aRh s 0 2))
theorem run139 (zr zq zs : LL) : fcall TT TU GL0 C88 ownF true L139 Tryz.f139 [(.agg [(.ro 19 zr), (.ro 6 zq), (.ro 8 zs)])] = (F_r09_Units zr zq zs).bind fun t => some (enc139 t) :=
 Eq.trans (by kernel_rfl) (nb fun t => (nu (vr t) rfl))
theorem lib139 : Lib Tryz.prog GL0 C139 :=
 LF lib88 Tryz.func139 (by decide +kernel) (by kernel_rfl) true L139 (loops_of 1 (by kernel_rfl) (belowS below0 okL139_0)) (fun us => run139 _ _ _) (fun t => rfl)
noncomputable def G_r09_Weapons_0 (b0_1 : LL) : Nat → LL → Int → Option (LL)
 | 0, _, _ => none
 | m + 1, R1, i => bif (decide (i < (Int.ofNat b0_1.length))) then bif (decide (0 ≤ i)) then (b0_1[i.toNat]?).bind fun r => bif (chk y1 r) then bif (roomOk (R1.length + 1) 16) then
 G_r09_Weapons_0 b0_1 m (R1 ++ [[(AVal.sc (Value.string (cS r 0)))]]) (wr (i + 1)) else none else none else none else some R1
def E140_0 (R1 : LL) (i : Int) (b0_0 b0_1 b0_2 : LL) : St := ⟨(.dead :: (.ref 16000 1 0 0) :: .dead :: (.slc 19200 (R1).length) :: (i64 i) :: (d17 [])), [(16000, ⟨.box, 27, 3, [[(.ro 19 b0_0), (.ro 6 b0_1), (.ro 8 b0_2)]]⟩), (19200, ⟨.arr, 9, 1, R1⟩)]⟩
def X140_0 (k : KT) (t : LL) : Option CR := k (.exit 0) ⟨(.dead :: .dead :: .dead :: (.slc 19200 (t).length) :: (d18 [])), [(19200, ⟨.arr, 9, 1, t⟩)]⟩
noncomputable def Lm140_0 (s : St) (k : KT) : Option CR := bif chkS ks139_0 hs139_0 s then (G_r09_Weapons_0 (aRh s 0 1) FU (blkAt s.heap 1).2.rows (sI s 4)).bind (X140_0 k) else none
noncomputable def L140 : LT' := fun i s k => bif Nat.beq i 0 then (Lm140_0 (maskS (maskOf ks139_0) s) k) else none
noncomputable def F_r09_Weapons (zr zq zs : LL) : Option (LL) := (G_r09_Weapons_0 zq FU [] 0).bind fun t => some t
noncomputable def A140 (us : List AVal) := F_r09_Weapons (aR us 0 0) (aR us 0 1) (aR us 0 2)
noncomputable def C140 := AI.ext 140 (SM ks20 A140 enc139) C139
@[reducible] noncomputable def B140_0 := bodyOf TT TU GL0 C139 ownF L140 (lp Tryz.f140 0)
theorem spec140_0 (k : KT) : ∀ (m : Nat) (R1 : LL) (i : Int) (b0_0 b0_1 b0_2 : LL), loopN B140_0 m (E140_0 R1 i b0_0 b0_1 b0_2) (KW W44_0 k) = (G_r09_Weapons_0 b0_1 m R1 i).bind (X140_0 k)
 | 0, _, _, _, _, _ => rfl
 | m + 1, R1, i, b0_0, b0_1, b0_2 =>
 Eq.trans (by kernel_rfl) (nd rfl (nd rfl (nb fun r => (nd rfl (nd (show ((((verEq R1.length R1.length) && true) && (roomOk (R1.length + 1) 16))) = _ from (n_andL (n_andL (verEq_rfl _) rfl) rfl)) (spec140_0 k m (R1 ++ [[(AVal.sc (Value.string (cS r 0)))]]) (wr (i + 1)) b0_0 b0_1 b0_2) rfl) rfl)) rfl) rfl)
theorem okL140_0 : LoopOk TT TU GL0 C139 ownF L140 (lp Tryz.f140 0) :=
 loopOk_of ks139_0 hs139_0 W44_0 FU _ (fun s k => by kernel_rfl) (fun s k => spec140_0 k FU (blkAt s.heap 1).2.rows (sI s 4) (aRh s 0 0) (aRh s 0 1) (aRh s 0 2))
theorem run140 (zr zq zs : LL) : fcall TT TU GL0 C139 ownF true L140 Tryz.f140 [(.agg [(.ro 19 zr), (.ro 6 zq), (.ro 8 zs)])] = (F_r09_Weapons zr zq zs).bind fun t => some (enc139 t) :=
 Eq.trans (by kernel_rfl) (nb fun t => (nu (vr t) rfl))
theorem lib140 : Lib Tryz.prog GL0 C140 :=
 LF lib139 Tryz.func140 (by decide +kernel) (by kernel_rfl) true L140 (loops_of 1 (by kernel_rfl) (belowS below0 okL140_0)) (fun us => run140 _ _ _) (fun t => rfl)
noncomputable def G_r09_Techs_0 (b0_2 : LL) : Nat → LL → Int → Option (LL)
 | 0, _, _ => none
 | m + 1, R1, i => bif (decide (i < (Int.ofNat b0_2.length))) then bif (decide (0 ≤ i)) then (b0_2[i.toNat]?).bind fun r => bif (chk y2 r) then bif (roomOk (R1.length + 1) 16) then
 G_r09_Techs_0 b0_2 m (R1 ++ [[(AVal.sc (Value.string (cS r 0)))]]) (wr (i + 1)) else none else none else none else some R1
def E91_0 (R1 : LL) (i : Int) (b0_0 b0_1 b0_2 : LL) : St := ⟨(.dead :: (.ref 16000 1 0 0) :: .dead :: (.slc 19200 (R1).length) :: (i64 i) :: (d17 [])), [(16000, ⟨.box, 27, 3, [[(.ro 19 b0_0), (.ro 6 b0_1), (.ro 8 b0_2)]]⟩), (19200, ⟨.arr, 9, 1, R1⟩)]⟩
def X91_0 (k : KT) (t : LL) : Option CR := k (.exit 0) ⟨(.dead :: .dead :: .dead :: (.slc 19200 (t).length) :: (d18 [])), [(19200, ⟨.arr, 9, 1, t⟩)]⟩
noncomputable def Lm91_0 (s : St) (k : KT) : Option CR := bif chkS ks139_0 hs139_0 s then (G_r09_Techs_0 (aRh s 0 2) FU (blkAt s.heap 1).2.rows (sI s 4)).bind (X91_0 k) else none
noncomputable def L91 : LT' := fun i s k => bif Nat.beq i 0 then (Lm91_0 (maskS (maskOf ks139_0) s) k) else none
noncomputable def F_r09_Techs (zr zq zs : LL) : Option (LL) := (G_r09_Techs_0 zs FU [] 0).bind fun t => some t
noncomputable def A91 (us : List AVal) := F_r09_Techs (aR us 0 0) (aR us 0 1) (aR us 0 2)
noncomputable def C91 := AI.ext 91 (SM ks20 A91 enc139) C140
@[reducible] noncomputable def B91_0 := bodyOf TT TU GL0 C140 ownF L91 (lp Tryz.f91 0)
theorem spec91_0 (k : KT) : ∀ (m : Nat) (R1 : LL) (i : Int) (b0_0 b0_1 b0_2 : LL), loopN B91_0 m (E91_0 R1 i b0_0 b0_1 b0_2) (KW W44_0 k) = (G_r09_Techs_0 b0_2 m R1 i).bind (X91_0 k)
 | 0, _, _, _, _, _ => rfl
 | m + 1, R1, i, b0_0, b0_1, b0_2 =>
 Eq.trans (by kernel_rfl) (nd rfl (nd rfl (nb fun r => (nd rfl (nd (show ((((verEq R1.length R1.length) && true) && (roomOk (R1.length + 1) 16))) = _ from (n_andL (n_andL (verEq_rfl _) rfl) rfl)) (spec91_0 k m (R1 ++ [[(AVal.sc (Value.string (cS r 0)))]]) (wr (i + 1)) b0_0 b0_1 b0_2) rfl) rfl)) rfl) rfl)
theorem okL91_0 : LoopOk TT TU GL0 C140 ownF L91 (lp Tryz.f91 0) :=
 loopOk_of ks139_0 hs139_0 W44_0 FU _ (fun s k => by kernel_rfl) (fun s k => spec91_0 k FU (blkAt s.heap 1).2.rows (sI s 4) (aRh s 0 0) (aRh s 0 1) (aRh s 0 2))
theorem run91 (zr zq zs : LL) : fcall TT TU GL0 C140 ownF true L91 Tryz.f91 [(.agg [(.ro 19 zr), (.ro 6 zq), (.ro 8 zs)])] = (F_r09_Techs zr zq zs).bind fun t => some (enc139 t) :=
 Eq.trans (by kernel_rfl) (nb fun t => (nu (vr t) rfl))
theorem lib91 : Lib Tryz.prog GL0 C91 :=
 LF lib140 Tryz.func91 (by decide +kernel) (by kernel_rfl) true L91 (loops_of 1 (by kernel_rfl) (belowS below0 okL91_0)) (fun us => run91 _ _ _) (fun t => rfl)
def W141_0 : Ex → List Bool
 | .ret => (false :: false :: true :: (e49 []))
 | .exit n => bif Nat.beq n 0 then (e52 []) else []
 | .normal => []
noncomputable def G_r09_Name_0 (s1 : ByteArray) : Nat → Int → Option (Bool)
 | 0, _ => none
 | m + 1, i => bif (decide (i < (Int.ofNat (ByteArray.size s1)))) then bif (decide (0 ≤ i)) then bif (decide ((byteA s1 i) ≥ 97)) then bif (!(decide ((byteA s1 i) ≤ 122))) then bif (decide ((byteA s1 i) ≥ 48)) then bif (!(decide ((byteA s1 i) ≤ 57))) then bif ((byteA s1 i) != 95) then some true else
 G_r09_Name_0 s1 m (wr (i + 1)) else
 G_r09_Name_0 s1 m (wr (i + 1)) else bif ((byteA s1 i) != 95) then some true else
 G_r09_Name_0 s1 m (wr (i + 1)) else
 G_r09_Name_0 s1 m (wr (i + 1)) else bif (decide ((byteA s1 i) ≥ 48)) then bif (!(decide ((byteA s1 i) ≤ 57))) then bif ((byteA s1 i) != 95) then some true else
 G_r09_Name_0 s1 m (wr (i + 1)) else
 G_r09_Name_0 s1 m (wr (i + 1)) else bif ((byteA s1 i) != 95) then some true else
 G_r09_Name_0 s1 m (wr (i + 1)) else none else some false
def E141_0 (s1 : ByteArray) (i : Int) : St := ⟨((.sc (.string s1)) :: .dead :: .dead :: (i64 i) :: (d48 [])), []⟩
def X141_0 (k : KT) (t : Bool) : Option CR := bif t then k .ret ⟨(.dead :: .dead :: (bo false) :: (d49 [])), []⟩ else k (.exit 0) ⟨(d52 []), []⟩
def ks141_0 : List SK := (.f (.str) :: .f .dead :: .f .dead :: .f (.int .i64) :: (f48 []))
noncomputable def Lm141_0 (s : St) (k : KT) : Option CR := bif chkS ks141_0 hs44_0 s then (G_r09_Name_0 (sS s 0) FU (sI s 3)).bind (X141_0 k) else none
noncomputable def L141 : LT' := fun i s k => bif Nat.beq i 0 then (Lm141_0 (maskS (maskOf ks141_0) s) k) else none
noncomputable def F_r09_Name (s1 : ByteArray) : Option (Bool) := bif (decide ((Int.ofNat (ByteArray.size s1)) < 1)) then some false else bif (decide ((Int.ofNat (ByteArray.size s1)) > 12)) then some false else bif (decide (0 < (Int.ofNat (ByteArray.size s1)))) then bif (decide ((byteA s1 0) < 97)) then some false else bif (decide ((byteA s1 0) > 122)) then some false else (G_r09_Name_0 s1 FU 0).bind fun t => bif t then some false else some true else none
def ks141 : List SK := [.f (.str)]
noncomputable def A141 (us : List AVal) := F_r09_Name (toS (cIa us 0))
noncomputable def C141 := AI.ext 141 (SM ks141 A141 enc20) C91
@[reducible] noncomputable def B141_0 := bodyOf TT TU GL0 C91 ownF L141 (lp Tryz.f141 0)
theorem spec141_0 (k : KT) : ∀ (m : Nat) (s1 : ByteArray) (i : Int), loopN B141_0 m (E141_0 s1 i) (KW W141_0 k) = (G_r09_Name_0 s1 m i).bind (X141_0 k)
 | 0, _, _ => rfl
 | m + 1, s1, i =>
 Eq.trans (by kernel_rfl) (nc rfl (fun h0 => (nd (show (((decide (0 ≤ i)) && (decide (i < (Int.ofNat (ByteArray.size s1)))))) = _ from (n_andR rfl h0)) (nd rfl (nd rfl (nd rfl (nd rfl (nd rfl rfl (spec141_0 k m s1 (wr (i + 1)))) (spec141_0 k m s1 (wr (i + 1)))) (nd rfl rfl (spec141_0 k m s1 (wr (i + 1))))) (spec141_0 k m s1 (wr (i + 1)))) (nd rfl (nd rfl (nd rfl rfl (spec141_0 k m s1 (wr (i + 1)))) (spec141_0 k m s1 (wr (i + 1)))) (nd rfl rfl (spec141_0 k m s1 (wr (i + 1)))))) rfl)) fun h0 => rfl)
theorem okL141_0 : LoopOk TT TU GL0 C91 ownF L141 (lp Tryz.f141 0) :=
 loopOk_of ks141_0 hs44_0 W141_0 FU _ (fun s k => by kernel_rfl) (fun s k => spec141_0 k FU (sS s 0) (sI s 3))
theorem run141 (s1 : ByteArray) : fcall TT TU GL0 C91 ownF true L141 Tryz.f141 [(.sc (.string s1))] = (F_r09_Name s1).bind fun t => some (enc20 t) :=
 Eq.trans (by kernel_rfl) (nd rfl rfl (nd rfl rfl (nc (show (((decide ((0 : Int) ≤ (0 : Int))) && (decide (0 < (Int.ofNat (ByteArray.size s1)))))) = _ from (n_andL (by kernel_rfl) rfl)) (fun h2 => (nd rfl rfl (nu (show ((decide ((0 : Int) ≤ (0 : Int))) && (decide (0 < (Int.ofNat (ByteArray.size s1))))) = true from (n_andL (by kernel_rfl) h2)) (nd rfl rfl (nb fun t => (nd rfl rfl rfl)))))) fun h2 => rfl)))
theorem lib141 : Lib Tryz.prog GL0 C141 :=
 LF lib91 Tryz.func141 (by decide +kernel) (by kernel_rfl) true L141 (loops_of 1 (by kernel_rfl) (belowS below0 okL141_0)) (fun us => run141 _) (fun t => rfl)
noncomputable def G_r09_named_0 (R0 : LL) : Nat → Int → Option (Bool)
 | 0, _ => none
 | m + 1, i => bif (decide (i < (Int.ofNat R0.length))) then bif ((decide (0 ≤ i)) && (decide (i < (Int.ofNat R0.length)))) then (R0[i.toNat]?).bind fun r => bif (chk [LT.str] r) then (F_r09_Name (cS r 0)).bind fun t => bif (!t) then some true else
 G_r09_named_0 R0 m (wr (i + 1)) else none else none else some false
def E89_0 (R0 : LL) (i : Int) : St := ⟨(.dead :: .dead :: .dead :: (.slc 19216 (R0).length) :: (i64 i) :: (d20 [])), [(19216, ⟨.arr, 9, 1, R0⟩)]⟩
def X89_0 (k : KT) (t : Bool) : Option CR := bif t then k .ret ⟨(.dead :: .dead :: (bo false) :: (d22 [])), []⟩ else k (.exit 0) ⟨(d25 []), []⟩
def ks89_0 : List SK := (.f .dead :: .f .dead :: .f .dead :: .f (.slc 19216 0) :: .f (.int .i64) :: (f20 []))
def hs89_0 : List HK := [⟨19216, .arr, 9, 1, none⟩]
noncomputable def Lm89_0 (s : St) (k : KT) : Option CR := bif chkS ks89_0 hs89_0 s then (G_r09_named_0 (blkAt s.heap 0).2.rows FU (sI s 4)).bind (X89_0 k) else none
noncomputable def L89 : LT' := fun i s k => bif Nat.beq i 0 then (Lm89_0 (maskS (maskOf ks89_0) s) k) else none
noncomputable def F_r09_named (zr zq zs : LL) : Option (Bool) := (F_r09_Units zr zq zs).bind fun t => (F_r09_Weapons zr zq zs).bind fun t1 => bif (roomOk (t.length + t1.length) 16) then (F_r09_Techs zr zq zs).bind fun t2 => bif (roomOk ((Blk.rows (Blk.mk BKind.arr 9 1 (t ++ t1))).length + t2.length) 16) then (G_r09_named_0 (Blk.rows (Blk.mk BKind.arr 9 1 ((Blk.rows (Blk.mk BKind.arr 9 1 (t ++ t1))) ++ t2))) FU 0).bind fun t3 => bif t3 then some false else some true else none else none
noncomputable def A89 (us : List AVal) := F_r09_named (aR us 0 0) (aR us 0 1) (aR us 0 2)
noncomputable def C89 := AI.ext 89 (SM ks20 A89 enc20) C141
@[reducible] noncomputable def B89_0 := bodyOf TT TU GL0 C141 ownF L89 (lp Tryz.f89 0)
theorem spec89_0 (k : KT) : ∀ (m : Nat) (R0 : LL) (i : Int), loopN B89_0 m (E89_0 R0 i) (KW W21_0 k) = (G_r09_named_0 R0 m i).bind (X89_0 k)
 | 0, _, _ => rfl
 | m + 1, R0, i =>
 Eq.trans (by kernel_rfl) (nu (vr R0) (nd rfl (nd (show ((((verEq R0.length R0.length) && (decide (0 ≤ i))) && (decide (i < (Int.ofNat R0.length))))) = _ from (n_and (n_andL (verEq_rfl _) rfl) rfl)) (nu (vr R0) (nb fun r => (nd rfl (nb fun t => (nd rfl rfl (spec89_0 k m R0 (wr (i + 1))))) rfl))) rfl) rfl))
theorem okL89_0 : LoopOk TT TU GL0 C141 ownF L89 (lp Tryz.f89 0) :=
 loopOk_of ks89_0 hs89_0 W21_0 FU _ (fun s k => by kernel_rfl) (fun s k => spec89_0 k FU (blkAt s.heap 0).2.rows (sI s 4))
theorem run89 (zr zq zs : LL) : fcall TT TU GL0 C141 ownF true L89 Tryz.f89 [(.agg [(.ro 19 zr), (.ro 6 zq), (.ro 8 zs)])] = (F_r09_named zr zq zs).bind fun t => some (enc20 t) :=
 Eq.trans (by kernel_rfl) (nb fun t => (nu (v4 t.length) (nb fun t1 => (nu (v4 t1.length) (nu (vr t1) (nd (show ((((verEq t.length t.length) && true) && (roomOk (t.length + t1.length) 16))) = _ from (n_andL (n_andL (verEq_rfl _) rfl) rfl)) (nb fun t2 => (nu (v4 t2.length) (nu (vr t2) (nd (show ((((verEq (Blk.rows (Blk.mk BKind.arr 9 1 (t ++ t1))).length (t ++ t1).length) && true) && (roomOk ((Blk.rows (Blk.mk BKind.arr 9 1 (t ++ t1))).length + t2.length) 16))) = _ from (n_andL (n_andL (by first | exact verEq_of rfl | simp [verEq, blkLen, blkAt]) rfl) rfl)) (nu (show (((true && (verEq ((Blk.rows (Blk.mk BKind.arr 9 1 (t ++ t1))) ++ t2).length (blkLen [(Prod.mk 19216 (Blk.mk BKind.arr 9 1 ((Blk.rows (Blk.mk BKind.arr 9 1 (t ++ t1))) ++ t2)))] 0))) && true) && true) = true from (n_andL (n_andL (n_andL rfl (by first | exact verEq_of rfl | simp [verEq, blkLen, blkAt])) rfl) rfl)) (nb fun t3 => (nd rfl rfl rfl))) rfl)))) rfl))))))
theorem lib89 : Lib Tryz.prog GL0 C89 :=
 LF lib141 Tryz.func89 (by decide +kernel) (by kernel_rfl) true L89 (loops_of 1 (by kernel_rfl) (belowS below0 okL89_0)) (fun us => run89 _ _ _) (fun t => rfl)
def W142_0 : Ex → List Bool
 | .ret => (false :: false :: true :: (e17 []))
 | .exit n => bif Nat.beq n 0 then (e20 []) else []
 | .normal => []
noncomputable def G_r09_ascending_0 (l : LL) : Nat → Int → Option (Bool)
 | 0, _ => none
 | m + 1, i => bif (decide (i < (Int.ofNat l.length))) then bif (decide (0 ≤ (wr (i - 1)))) then (l[(wr (i - 1)).toNat]?).bind fun r => bif (chk [LT.str] r) then bif (decide (0 ≤ i)) then (l[i.toNat]?).bind fun r1 => bif (chk [LT.str] r1) then bif (!(Op.bytesLess (ByteArray.toList (cS r 0)) (ByteArray.toList (cS r1 0)))) then some true else
 G_r09_ascending_0 l m (wr (i + 1)) else none else none else none else none else some false
def E142_0 (l : LL) (i : Int) : St := ⟨((.ro 1 l) :: .dead :: .dead :: (i64 i) :: (d16 [])), []⟩
def X142_0 (k : KT) (t : Bool) : Option CR := bif t then k .ret ⟨(.dead :: .dead :: (bo false) :: (d17 [])), []⟩ else k (.exit 0) ⟨(d20 []), []⟩
def ks142_0 : List SK := (.f (.ro 1) :: .f .dead :: .f .dead :: .f (.int .i64) :: (f16 []))
noncomputable def Lm142_0 (s : St) (k : KT) : Option CR := bif chkS ks142_0 hs44_0 s then (G_r09_ascending_0 (sR s 0) FU (sI s 3)).bind (X142_0 k) else none
noncomputable def L142 : LT' := fun i s k => bif Nat.beq i 0 then (Lm142_0 (maskS (maskOf ks142_0) s) k) else none
noncomputable def F_r09_ascending (l : LL) : Option (Bool) := (G_r09_ascending_0 l FU 1).bind fun t => bif t then some false else some true
noncomputable def A142 (us : List AVal) := F_r09_ascending (roRows (cIa us 0))
noncomputable def C142 := AI.ext 142 (SM ks44 A142 enc20) C89
@[reducible] noncomputable def B142_0 := bodyOf TT TU GL0 C89 ownF L142 (lp Tryz.f142 0)
theorem spec142_0 (k : KT) : ∀ (m : Nat) (l : LL) (i : Int), loopN B142_0 m (E142_0 l i) (KW W142_0 k) = (G_r09_ascending_0 l m i).bind (X142_0 k)
 | 0, _, _ => rfl
 | m + 1, l, i =>
 Eq.trans (by kernel_rfl) (nd rfl (nd rfl (nb fun r => (nd rfl (nd rfl (nb fun r1 => (nd rfl (nd rfl rfl (spec142_0 k m l (wr (i + 1)))) rfl)) rfl) rfl)) rfl) rfl)
theorem okL142_0 : LoopOk TT TU GL0 C89 ownF L142 (lp Tryz.f142 0) :=
 loopOk_of ks142_0 hs44_0 W142_0 FU _ (fun s k => by kernel_rfl) (fun s k => spec142_0 k FU (sR s 0) (sI s 3))
theorem run142 (l : LL) : fcall TT TU GL0 C89 ownF true L142 Tryz.f142 [(.ro 1 l)] = (F_r09_ascending l).bind fun t => some (enc20 t) :=
 Eq.trans (by kernel_rfl) (nb fun t => (nd rfl rfl rfl))
theorem lib142 : Lib Tryz.prog GL0 C142 :=
 LF lib89 Tryz.func142 (by decide +kernel) (by kernel_rfl) true L142 (loops_of 1 (by kernel_rfl) (belowS below0 okL142_0)) (fun us => run142 _) (fun t => rfl)
def W90_0 : Ex → List Bool
 | .ret => (false :: false :: true :: (e63 []))
 | .exit n => bif Nat.beq n 0 then (false :: true :: false :: true :: (e62 [])) else []
 | .normal => []
noncomputable def G_r09_ordered_0 (b0_0 : LL) : Nat → Bool → Int → Option (Bool)
 | 0, _, _ => none
 | m + 1, ok, i => bif (decide (i < (Int.ofNat b0_0.length))) then bif (decide (0 ≤ i)) then (b0_0[i.toNat]?).bind fun r => bif (chk y0 r) then bif ok then (F_r09_ascending (roRows (AVal.ro 1 (cR r 16)))).bind fun t => bif t then (F_r09_ascending (roRows (AVal.ro 1 (cR r 17)))).bind fun t1 => bif t1 then (F_r09_ascending (roRows (AVal.ro 1 (cR r 18)))).bind fun t2 =>
 G_r09_ordered_0 b0_0 m t2 (wr (i + 1)) else
 G_r09_ordered_0 b0_0 m false (wr (i + 1)) else
 G_r09_ordered_0 b0_0 m false (wr (i + 1)) else
 G_r09_ordered_0 b0_0 m false (wr (i + 1)) else none else none else some ok
def E90_0 (ok : Bool) (i : Int) (b0_0 b0_1 b0_2 : LL) : St := ⟨(.dead :: (.ref 16000 1 0 0) :: .dead :: (bo ok) :: (i64 i) :: (d61 [])), [(16000, ⟨.box, 27, 3, [[(.ro 19 b0_0), (.ro 6 b0_1), (.ro 8 b0_2)]]⟩)]⟩
def X90_0 (b0_0 b0_1 b0_2 : LL) (k : KT) (t : Bool) : Option CR := k (.exit 0) ⟨(.dead :: (.ref 16000 1 0 0) :: .dead :: (bo t) :: (d62 [])), [(16000, ⟨.box, 27, 3, [[(.ro 19 b0_0), (.ro 6 b0_1), (.ro 8 b0_2)]]⟩)]⟩
def ks90_0 : List SK := (.f .dead :: .f (.ref 16000 1 0 0) :: .f .dead :: .f (.bool) :: .f (.int .i64) :: (f61 []))
noncomputable def Lm90_0 (s : St) (k : KT) : Option CR := bif chkS ks90_0 hs20_0 s then (G_r09_ordered_0 (aRh s 0 0) FU (sB s 3) (sI s 4)).bind (X90_0 (aRh s 0 0) (aRh s 0 1) (aRh s 0 2) k) else none
def W90_1 : Ex → List Bool
 | .ret => (false :: false :: true :: (e63 []))
 | .exit n => bif Nat.beq n 2 then (false :: false :: false :: true :: (e62 [])) else []
 | .normal => []
noncomputable def G_r09_ordered_1 (b0_2 : LL) : Nat → Bool → Int → Option (Bool)
 | 0, _, _ => none
 | m + 1, ok, i => bif (decide (i < (Int.ofNat b0_2.length))) then bif ok then bif (decide (0 ≤ i)) then (b0_2[i.toNat]?).bind fun r => bif (chk y2 r) then (F_r09_ascending (roRows (AVal.ro 1 (cR r 1)))).bind fun t =>
 G_r09_ordered_1 b0_2 m t (wr (i + 1)) else none else none else
 G_r09_ordered_1 b0_2 m false (wr (i + 1)) else some ok
def E90_1 (ok : Bool) (i : Int) (b0_0 b0_1 b0_2 : LL) : St := ⟨(.dead :: (.ref 16000 1 0 0) :: .dead :: (bo ok) :: .dead :: .dead :: (i64 i) :: (d59 [])), [(16000, ⟨.box, 27, 3, [[(.ro 19 b0_0), (.ro 6 b0_1), (.ro 8 b0_2)]]⟩)]⟩
def X90_1 (k : KT) (t : Bool) : Option CR := k (.exit 2) ⟨(.dead :: .dead :: .dead :: (bo t) :: (d62 [])), []⟩
def ks90_1 : List SK := (.f .dead :: .f (.ref 16000 1 0 0) :: .f .dead :: .f (.bool) :: .f .dead :: .f .dead :: .f (.int .i64) :: (f59 []))
noncomputable def Lm90_1 (s : St) (k : KT) : Option CR := bif chkS ks90_1 hs20_0 s then (G_r09_ordered_1 (aRh s 0 2) FU (sB s 3) (sI s 6)).bind (X90_1 k) else none
noncomputable def L90 : LT' := fun i s k => bif Nat.beq i 0 then (Lm90_0 (maskS (maskOf ks90_0) s) k) else bif Nat.beq i 2 then (Lm90_1 (maskS (maskOf ks90_1) s) k) else none
noncomputable def F_r09_ordered (zr zq zs : LL) : Option (Bool) := (F_r09_Units zr zq zs).bind fun t => (F_r09_ascending t).bind fun t1 => bif t1 then (F_r09_Weapons zr zq zs).bind fun t2 => (F_r09_ascending t2).bind fun t3 => bif t3 then (F_r09_Techs zr zq zs).bind fun t4 => (F_r09_ascending t4).bind fun t5 => (G_r09_ordered_0 zr FU t5 0).bind fun t6 => (G_r09_ordered_1 zs FU t6 0).bind fun t7 => some t7 else (G_r09_ordered_0 zr FU false 0).bind fun t8 => (G_r09_ordered_1 zs FU t8 0).bind fun t9 => some t9 else (G_r09_ordered_0 zr FU false 0).bind fun t10 => (G_r09_ordered_1 zs FU t10 0).bind fun t11 => some t11
noncomputable def A90 (us : List AVal) := F_r09_ordered (aR us 0 0) (aR us 0 1) (aR us 0 2)
noncomputable def C90 := AI.ext 90 (SM ks20 A90 enc20) C142
@[reducible] noncomputable def B90_0 := bodyOf TT TU GL0 C142 ownF L90 (lp Tryz.f90 0)
theorem spec90_0 (k : KT) : ∀ (m : Nat) (ok : Bool) (i : Int) (b0_0 b0_1 b0_2 : LL), loopN B90_0 m (E90_0 ok i b0_0 b0_1 b0_2) (KW W90_0 k) = (G_r09_ordered_0 b0_0 m ok i).bind (X90_0 b0_0 b0_1 b0_2 k)
 | 0, _, _, _, _, _ => rfl
 | m + 1, ok, i, b0_0, b0_1, b0_2 =>
 Eq.trans (by kernel_rfl) (nd rfl (nd rfl (nb fun r => (nd rfl (nd rfl (nb fun t => (nd rfl (nb fun t1 => (nd rfl (nb fun t2 => (spec90_0 k m t2 (wr (i + 1)) b0_0 b0_1 b0_2)) (spec90_0 k m false (wr (i + 1)) b0_0 b0_1 b0_2))) (spec90_0 k m false (wr (i + 1)) b0_0 b0_1 b0_2))) (spec90_0 k m false (wr (i + 1)) b0_0 b0_1 b0_2)) rfl)) rfl) rfl)
theorem okL90_0 : LoopOk TT TU GL0 C142 ownF L90 (lp Tryz.f90 0) :=
 loopOk_of ks90_0 hs20_0 W90_0 FU _ (fun s k => by kernel_rfl) (fun s k => spec90_0 k FU (sB s 3) (sI s 4) (aRh s 0 0) (aRh s 0 1) (aRh s 0 2))
@[reducible] noncomputable def B90_1 := bodyOf TT TU GL0 C142 ownF L90 (lp Tryz.f90 1)
theorem spec90_1 (k : KT) : ∀ (m : Nat) (ok : Bool) (i : Int) (b0_0 b0_1 b0_2 : LL), loopN B90_1 m (E90_1 ok i b0_0 b0_1 b0_2) (KW W90_1 k) = (G_r09_ordered_1 b0_2 m ok i).bind (X90_1 k)
 | 0, _, _, _, _, _ => rfl
 | m + 1, ok, i, b0_0, b0_1, b0_2 =>
 Eq.trans (by kernel_rfl) (nd rfl (nd rfl (nd rfl (nb fun r => (nd rfl (nb fun t => (spec90_1 k m t (wr (i + 1)) b0_0 b0_1 b0_2)) rfl)) rfl) (spec90_1 k m false (wr (i + 1)) b0_0 b0_1 b0_2)) rfl)
theorem okL90_1 : LoopOk TT TU GL0 C142 ownF L90 (lp Tryz.f90 1) :=
 loopOk_of ks90_1 hs20_0 W90_1 FU _ (fun s k => by kernel_rfl) (fun s k => spec90_1 k FU (sB s 3) (sI s 6) (aRh s 0 0) (aRh s 0 1) (aRh s 0 2))
theorem run90 (zr zq zs : LL) : fcall TT TU GL0 C142 ownF true L90 Tryz.f90 [(.agg [(.ro 19 zr), (.ro 6 zq), (.ro 8 zs)])] = (F_r09_ordered zr zq zs).bind fun t => some (enc20 t) :=
 Eq.trans (by kernel_rfl) (nb fun t => (nu (v4 t.length) (nu (vr t) (nb fun t1 => (nd rfl (nb fun t2 => (nu (v4 t2.length) (nu (vr t2) (nb fun t3 => (nd rfl (nb fun t4 => (nu (v4 t4.length) (nu (vr t4) (nb fun t5 => (nb fun t6 => (nb fun t7 => rfl)))))) (nb fun t8 => (nb fun t9 => rfl))))))) (nb fun t10 => (nb fun t11 => rfl)))))))
theorem lib90 : Lib Tryz.prog GL0 C90 :=
 LF lib142 Tryz.func90 (by decide +kernel) (by kernel_rfl) true L90 (loops_of 2 (by kernel_rfl) (belowS (belowS below0 okL90_0) okL90_1)) (fun us => run90 _ _ _) (fun t => rfl)
def W92_0 : Ex → List Bool
 | .ret => (e4 (true :: (e13 [])))
 | .exit n => bif Nat.beq n 0 then (e18 []) else []
 | .normal => []
noncomputable def G_r09_Has_0 (l : LL) (s1 : ByteArray) : Nat → Int → Option (Bool)
 | 0, _ => none
 | m + 1, i => bif (decide (i < (Int.ofNat l.length))) then bif (decide (0 ≤ i)) then (l[i.toNat]?).bind fun r => bif (chk [LT.str] r) then bif (List.beq (ByteArray.toList (cS r 0)) (ByteArray.toList s1)) then some true else
 G_r09_Has_0 l s1 m (wr (i + 1)) else none else none else some false
def E92_0 (l : LL) (s1 : ByteArray) (i : Int) : St := ⟨((.ro 1 l) :: (.sc (.string s1)) :: .dead :: .dead :: .dead :: (i64 i) :: (d12 [])), []⟩
def X92_0 (k : KT) (t : Bool) : Option CR := bif t then k .ret ⟨(d4 ((bo true) :: (d13 []))), []⟩ else k (.exit 0) ⟨(d18 []), []⟩
def ks92_0 : List SK := (.f (.ro 1) :: .f (.str) :: .f .dead :: .f .dead :: .f .dead :: .f (.int .i64) :: (f12 []))
noncomputable def Lm92_0 (s : St) (k : KT) : Option CR := bif chkS ks92_0 hs44_0 s then (G_r09_Has_0 (sR s 0) (sS s 1) FU (sI s 5)).bind (X92_0 k) else none
noncomputable def L92 : LT' := fun i s k => bif Nat.beq i 0 then (Lm92_0 (maskS (maskOf ks92_0) s) k) else none
noncomputable def F_r09_Has (l : LL) (s1 : ByteArray) : Option (Bool) := (G_r09_Has_0 l s1 FU 0).bind fun t => bif t then some true else some false
def ks92 : List SK := [.f (.ro 1), .f (.str)]
noncomputable def A92 (us : List AVal) := F_r09_Has (roRows (cIa us 0)) (toS (cIa us 1))
noncomputable def C92 := AI.ext 92 (SM ks92 A92 enc20) C90
@[reducible] noncomputable def B92_0 := bodyOf TT TU GL0 C90 ownF L92 (lp Tryz.f92 0)
theorem spec92_0 (k : KT) : ∀ (m : Nat) (l : LL) (s1 : ByteArray) (i : Int), loopN B92_0 m (E92_0 l s1 i) (KW W92_0 k) = (G_r09_Has_0 l s1 m i).bind (X92_0 k)
 | 0, _, _, _ => rfl
 | m + 1, l, s1, i =>
 Eq.trans (by kernel_rfl) (nd rfl (nd rfl (nb fun r => (nd rfl (nd rfl rfl (spec92_0 k m l s1 (wr (i + 1)))) rfl)) rfl) rfl)
theorem okL92_0 : LoopOk TT TU GL0 C90 ownF L92 (lp Tryz.f92 0) :=
 loopOk_of ks92_0 hs44_0 W92_0 FU _ (fun s k => by kernel_rfl) (fun s k => spec92_0 k FU (sR s 0) (sS s 1) (sI s 5))
theorem run92 (l : LL) (s1 : ByteArray) : fcall TT TU GL0 C90 ownF true L92 Tryz.f92 [(.ro 1 l), (.sc (.string s1))] = (F_r09_Has l s1).bind fun t => some (enc20 t) :=
 Eq.trans (by kernel_rfl) (nb fun t => (nd rfl rfl rfl))
theorem lib92 : Lib Tryz.prog GL0 C92 :=
 LF lib90 Tryz.func92 (by decide +kernel) (by kernel_rfl) true L92 (loops_of 1 (by kernel_rfl) (belowS below0 okL92_0)) (fun us => run92 _ _) (fun t => rfl)
noncomputable def F_r09_within (n lo hi : Int) : Option (Bool) := bif (decide (n ≥ lo)) then some (decide (n ≤ hi)) else some false
def ks144 : List SK := [.f (.int .i64), .f (.int .i64), .f (.int .i64)]
noncomputable def A144 (us : List AVal) := F_r09_within (toI (cIa us 0)) (toI (cIa us 1)) (toI (cIa us 2))
noncomputable def C144 := AI.ext 144 (SM ks144 A144 enc20) C92
theorem run144 (n lo hi : Int) : fcall TT TU GL0 C92 ownF true noL Tryz.f144 [(i64 n), (i64 lo), (i64 hi)] = (F_r09_within n lo hi).bind fun t => some (enc20 t) :=
 Eq.trans (by kernel_rfl) (nd rfl rfl rfl)
theorem lib144 : Lib Tryz.prog GL0 C144 :=
 LF lib92 Tryz.func144 (by decide +kernel) (by kernel_rfl) true noL (loops_of 0 (by kernel_rfl) below0) (fun us => run144 _ _ _) (fun t => rfl)
noncomputable def F_r09_stat (n : Int) : Option (Bool) := (F_r09_within n 0 100000).bind fun t => some t
def ks145 : List SK := [.f (.int .i64)]
noncomputable def A145 (us : List AVal) := F_r09_stat (toI (cIa us 0))
noncomputable def C145 := AI.ext 145 (SM ks145 A145 enc20) C144
theorem run145 (n : Int) : fcall TT TU GL0 C144 ownF true noL Tryz.f145 [(i64 n)] = (F_r09_stat n).bind fun t => some (enc20 t) :=
 Eq.trans (by kernel_rfl) (nb fun t => rfl)
theorem lib145 : Lib Tryz.prog GL0 C145 :=
 LF lib144 Tryz.func145 (by decide +kernel) (by kernel_rfl) true noL (loops_of 0 (by kernel_rfl) below0) (fun us => run145 _) (fun t => rfl)
noncomputable def F_r09_shaped (z5 : ByteArray) (zS zZ : Bool) (zW za2 za1 zT zX z0 zas zY z4 : Int) (zV : ByteArray) (zai z7 z6 : Int) (z2 zU zO : LL) : Option (Bool) := (F_r09_within z0 0 16).bind fun t => bif (!t) then some false else (F_r09_within zas 1 100000).bind fun t1 => bif (!t1) then some false else (F_r09_stat zY).bind fun t2 => bif (!t2) then some false else (F_r09_stat zai).bind fun t3 => bif (!t3) then some false else (F_r09_stat z7).bind fun t4 => bif (!t4) then some false else (F_r09_stat z6).bind fun t5 => bif (!t5) then some false else bif zS then bif (zW == 0) then (F_r09_within za2 1 4).bind fun t6 => bif t6 then (F_r09_within za1 1 4).bind fun t7 => bif t7 then bif (zT == 0) then bif (zX == 0) then some (z4 == 0) else some false else some false else some false else some false else some false else (F_r09_within zW 1 3).bind fun t8 => bif t8 then bif (za2 == 0) then bif (za1 == 0) then (F_r09_within zT 16 128).bind fun t9 => bif t9 then (F_r09_within zX 0 256).bind fun t10 => bif t10 then (F_r09_stat z4).bind fun t11 => bif t11 then some (!zZ) else some false else some false else some false else some false else some false else some false
def ks143 : List SK := [.agg [.str, .bool, .bool, .int .i64, .int .i64, .int .i64, .int .i64, .int .i64, .int .i64, .int .i64, .int .i64, .int .i64, .str, .int .i64, .int .i64, .int .i64, .ro 1, .ro 1, .ro 1]]
noncomputable def A143 (us : List AVal) := F_r09_shaped (aS us 0 0) (aB us 0 1) (aB us 0 2) (aI us 0 3) (aI us 0 4) (aI us 0 5) (aI us 0 6) (aI us 0 7) (aI us 0 8) (aI us 0 9) (aI us 0 10) (aI us 0 11) (aS us 0 12) (aI us 0 13) (aI us 0 14) (aI us 0 15) (aR us 0 16) (aR us 0 17) (aR us 0 18)
noncomputable def C143 := AI.ext 143 (SM ks143 A143 enc20) C145
theorem run143 (z5 : ByteArray) (zS zZ : Bool) (zW za2 za1 zT zX z0 zas zY z4 : Int) (zV : ByteArray) (zai z7 z6 : Int) (z2 zU zO : LL) : fcall TT TU GL0 C145 ownF true noL Tryz.f143 [(.agg [(.sc (.string z5)), (bo zS), (bo zZ), (i64 zW), (i64 za2), (i64 za1), (i64 zT), (i64 zX), (i64 z0), (i64 zas), (i64 zY), (i64 z4), (.sc (.string zV)), (i64 zai), (i64 z7), (i64 z6), (.ro 1 z2), (.ro 1 zU), (.ro 1 zO)])] = (F_r09_shaped z5 zS zZ zW za2 za1 zT zX z0 zas zY z4 zV zai z7 z6 z2 zU zO).bind fun t => some (enc20 t) :=
 Eq.trans (by kernel_rfl) (nb fun t => (nd rfl rfl (nb fun t1 => (nd rfl rfl (nb fun t2 => (nd rfl rfl (nb fun t3 => (nd rfl rfl (nb fun t4 => (nd rfl rfl (nb fun t5 => (nd rfl rfl (nd rfl (nd rfl (nb fun t6 => (nd rfl (nb fun t7 => (nd rfl (nd rfl (nd rfl rfl rfl) rfl) rfl)) rfl)) rfl) (nb fun t8 => (nd rfl (nd rfl (nd rfl (nb fun t9 => (nd rfl (nb fun t10 => (nd rfl (nb fun t11 => (nd rfl rfl rfl)) rfl)) rfl)) rfl) rfl) rfl)))))))))))))))
theorem lib143 : Lib Tryz.prog GL0 C143 :=
 LF lib145 Tryz.func143 (by decide +kernel) (by kernel_rfl) true noL (loops_of 0 (by kernel_rfl) below0) (fun us => run143 _ _ _ _ _ _ _ _ _ _ _ _ _ _ _ _ _ _ _) (fun t => rfl)
def W93_0 : Ex → List Bool
 | .ret => (false :: false :: true :: (e99 []))
 | .exit n => bif Nat.beq n 0 then (false :: true :: false :: true :: (e98 [])) else []
 | .normal => []
noncomputable def G_r09_numbers_0 (b0_0 : LL) : Nat → Bool → Int → Option (Bool)
 | 0, _, _ => none
 | m + 1, ok, i => bif (decide (i < (Int.ofNat b0_0.length))) then bif ok then bif (decide (0 ≤ i)) then (b0_0[i.toNat]?).bind fun r => bif (chk y0 r) then (F_r09_shaped (cS r 0) (cB r 1) (cB r 2) (cI r 3) (cI r 4) (cI r 5) (cI r 6) (cI r 7) (cI r 8) (cI r 9) (cI r 10) (cI r 11) (cS r 12) (cI r 13) (cI r 14) (cI r 15) (roRows (AVal.ro 1 (cR r 16))) (roRows (AVal.ro 1 (cR r 17))) (roRows (AVal.ro 1 (cR r 18)))).bind fun t =>
 G_r09_numbers_0 b0_0 m t (wr (i + 1)) else none else none else
 G_r09_numbers_0 b0_0 m false (wr (i + 1)) else some ok
def E93_0 (ok : Bool) (i : Int) (b0_0 b0_1 b0_2 : LL) : St := ⟨(.dead :: (.ref 16000 1 0 0) :: .dead :: (bo ok) :: (i64 i) :: (d97 [])), [(16000, ⟨.box, 27, 3, [[(.ro 19 b0_0), (.ro 6 b0_1), (.ro 8 b0_2)]]⟩)]⟩
def X93_0 (b0_0 b0_1 b0_2 : LL) (k : KT) (t : Bool) : Option CR := k (.exit 0) ⟨(.dead :: (.ref 16000 1 0 0) :: .dead :: (bo t) :: (d98 [])), [(16000, ⟨.box, 27, 3, [[(.ro 19 b0_0), (.ro 6 b0_1), (.ro 8 b0_2)]]⟩)]⟩
def ks93_0 : List SK := (.f .dead :: .f (.ref 16000 1 0 0) :: .f .dead :: .f (.bool) :: .f (.int .i64) :: (f97 []))
noncomputable def Lm93_0 (s : St) (k : KT) : Option CR := bif chkS ks93_0 hs20_0 s then (G_r09_numbers_0 (aRh s 0 0) FU (sB s 3) (sI s 4)).bind (X93_0 (aRh s 0 0) (aRh s 0 1) (aRh s 0 2) k) else none
def W93_1 : Ex → List Bool
 | .ret => (false :: false :: true :: (e99 []))
 | .exit n => bif Nat.beq n 2 then (false :: true :: false :: true :: (e98 [])) else []
 | .normal => []
noncomputable def G_r09_numbers_1 (b0_1 : LL) : Nat → Bool → Int → Option (Bool)
 | 0, _, _ => none
 | m + 1, ok, i => bif (decide (i < (Int.ofNat b0_1.length))) then bif (decide (0 ≤ i)) then (b0_1[i.toNat]?).bind fun r => bif (chk y1 r) then bif ok then (F_r09_within (cI r 1) 0 8192).bind fun t => bif t then (F_r09_stat (cI r 2)).bind fun t1 => bif t1 then (F_r09_stat (cI r 3)).bind fun t2 => bif t2 then (F_r09_within (cI r 4) 0 512).bind fun t3 => bif t3 then (F_r09_within (cI r 5) 0 1024).bind fun t4 =>
 G_r09_numbers_1 b0_1 m t4 (wr (i + 1)) else
 G_r09_numbers_1 b0_1 m false (wr (i + 1)) else
 G_r09_numbers_1 b0_1 m false (wr (i + 1)) else
 G_r09_numbers_1 b0_1 m false (wr (i + 1)) else
 G_r09_numbers_1 b0_1 m false (wr (i + 1)) else
 G_r09_numbers_1 b0_1 m false (wr (i + 1)) else none else none else some ok
def E93_1 (ok : Bool) (i : Int) (b0_0 b0_1 b0_2 : LL) : St := ⟨(.dead :: (.ref 16000 1 0 0) :: .dead :: (bo ok) :: .dead :: (i64 i) :: (d96 [])), [(16000, ⟨.box, 27, 3, [[(.ro 19 b0_0), (.ro 6 b0_1), (.ro 8 b0_2)]]⟩)]⟩
def X93_1 (b0_0 b0_1 b0_2 : LL) (k : KT) (t : Bool) : Option CR := k (.exit 2) ⟨(.dead :: (.ref 16000 1 0 0) :: .dead :: (bo t) :: (d98 [])), [(16000, ⟨.box, 27, 3, [[(.ro 19 b0_0), (.ro 6 b0_1), (.ro 8 b0_2)]]⟩)]⟩
def ks93_1 : List SK := (.f .dead :: .f (.ref 16000 1 0 0) :: .f .dead :: .f (.bool) :: .f .dead :: .f (.int .i64) :: (f96 []))
noncomputable def Lm93_1 (s : St) (k : KT) : Option CR := bif chkS ks93_1 hs20_0 s then (G_r09_numbers_1 (aRh s 0 1) FU (sB s 3) (sI s 5)).bind (X93_1 (aRh s 0 0) (aRh s 0 1) (aRh s 0 2) k) else none
def W93_2 : Ex → List Bool
 | .ret => (false :: false :: true :: (e99 []))
 | .exit n => bif Nat.beq n 4 then (false :: false :: false :: true :: (e98 [])) else []
 | .normal => []
noncomputable def G_r09_numbers_2 (b0_2 : LL) : Nat → Bool → Int → Option (Bool)
 | 0, _, _ => none
 | m + 1, ok, i => bif (decide (i < (Int.ofNat b0_2.length))) then bif (decide (0 ≤ i)) then (b0_2[i.toNat]?).bind fun r => bif (chk y2 r) then bif ok then (F_r09_stat (cI r 2)).bind fun t => bif t then (F_r09_stat (cI r 3)).bind fun t1 => bif t1 then (F_r09_stat (cI r 4)).bind fun t2 => bif t2 then (F_r09_stat (cI r 7)).bind fun t3 => bif t3 then (F_r09_within (cI r 6) 1 6).bind fun t4 =>
 G_r09_numbers_2 b0_2 m t4 (wr (i + 1)) else
 G_r09_numbers_2 b0_2 m false (wr (i + 1)) else
 G_r09_numbers_2 b0_2 m false (wr (i + 1)) else
 G_r09_numbers_2 b0_2 m false (wr (i + 1)) else
 G_r09_numbers_2 b0_2 m false (wr (i + 1)) else
 G_r09_numbers_2 b0_2 m false (wr (i + 1)) else none else none else some ok
def E93_2 (ok : Bool) (i : Int) (b0_0 b0_1 b0_2 : LL) : St := ⟨(.dead :: (.ref 16000 1 0 0) :: .dead :: (bo ok) :: .dead :: .dead :: .dead :: (i64 i) :: (d94 [])), [(16000, ⟨.box, 27, 3, [[(.ro 19 b0_0), (.ro 6 b0_1), (.ro 8 b0_2)]]⟩)]⟩
def X93_2 (k : KT) (t : Bool) : Option CR := k (.exit 4) ⟨(.dead :: .dead :: .dead :: (bo t) :: (d98 [])), []⟩
def ks93_2 : List SK := (.f .dead :: .f (.ref 16000 1 0 0) :: .f .dead :: .f (.bool) :: .f .dead :: .f .dead :: .f .dead :: .f (.int .i64) :: (f94 []))
noncomputable def Lm93_2 (s : St) (k : KT) : Option CR := bif chkS ks93_2 hs20_0 s then (G_r09_numbers_2 (aRh s 0 2) FU (sB s 3) (sI s 7)).bind (X93_2 k) else none
noncomputable def L93 : LT' := fun i s k => bif Nat.beq i 0 then (Lm93_0 (maskS (maskOf ks93_0) s) k) else bif Nat.beq i 2 then (Lm93_1 (maskS (maskOf ks93_1) s) k) else bif Nat.beq i 4 then (Lm93_2 (maskS (maskOf ks93_2) s) k) else none
noncomputable def F_r09_numbers (zr zq zs : LL) : Option (Bool) := (G_r09_numbers_0 zr FU true 0).bind fun t => (G_r09_numbers_1 zq FU t 0).bind fun t1 => (G_r09_numbers_2 zs FU t1 0).bind fun t2 => some t2
noncomputable def A93 (us : List AVal) := F_r09_numbers (aR us 0 0) (aR us 0 1) (aR us 0 2)
noncomputable def C93 := AI.ext 93 (SM ks20 A93 enc20) C143
@[reducible] noncomputable def B93_0 := bodyOf TT TU GL0 C143 ownF L93 (lp Tryz.f93 0)
theorem spec93_0 (k : KT) : ∀ (m : Nat) (ok : Bool) (i : Int) (b0_0 b0_1 b0_2 : LL), loopN B93_0 m (E93_0 ok i b0_0 b0_1 b0_2) (KW W93_0 k) = (G_r09_numbers_0 b0_0 m ok i).bind (X93_0 b0_0 b0_1 b0_2 k)
 | 0, _, _, _, _, _ => rfl
 | m + 1, ok, i, b0_0, b0_1, b0_2 =>
 Eq.trans (by kernel_rfl) (nd rfl (nd rfl (nd rfl (nb fun r => (nd rfl (nb fun t => (spec93_0 k m t (wr (i + 1)) b0_0 b0_1 b0_2)) rfl)) rfl) (spec93_0 k m false (wr (i + 1)) b0_0 b0_1 b0_2)) rfl)
theorem okL93_0 : LoopOk TT TU GL0 C143 ownF L93 (lp Tryz.f93 0) :=
 loopOk_of ks93_0 hs20_0 W93_0 FU _ (fun s k => by kernel_rfl) (fun s k => spec93_0 k FU (sB s 3) (sI s 4) (aRh s 0 0) (aRh s 0 1) (aRh s 0 2))
@[reducible] noncomputable def B93_1 := bodyOf TT TU GL0 C143 ownF L93 (lp Tryz.f93 1)
theorem spec93_1 (k : KT) : ∀ (m : Nat) (ok : Bool) (i : Int) (b0_0 b0_1 b0_2 : LL), loopN B93_1 m (E93_1 ok i b0_0 b0_1 b0_2) (KW W93_1 k) = (G_r09_numbers_1 b0_1 m ok i).bind (X93_1 b0_0 b0_1 b0_2 k)
 | 0, _, _, _, _, _ => rfl
 | m + 1, ok, i, b0_0, b0_1, b0_2 =>
 Eq.trans (by kernel_rfl) (nd rfl (nd rfl (nb fun r => (nd rfl (nd rfl (nb fun t => (nd rfl (nb fun t1 => (nd rfl (nb fun t2 => (nd rfl (nb fun t3 => (nd rfl (nb fun t4 => (spec93_1 k m t4 (wr (i + 1)) b0_0 b0_1 b0_2)) (spec93_1 k m false (wr (i + 1)) b0_0 b0_1 b0_2))) (spec93_1 k m false (wr (i + 1)) b0_0 b0_1 b0_2))) (spec93_1 k m false (wr (i + 1)) b0_0 b0_1 b0_2))) (spec93_1 k m false (wr (i + 1)) b0_0 b0_1 b0_2))) (spec93_1 k m false (wr (i + 1)) b0_0 b0_1 b0_2)) rfl)) rfl) rfl)
theorem okL93_1 : LoopOk TT TU GL0 C143 ownF L93 (lp Tryz.f93 1) :=
 loopOk_of ks93_1 hs20_0 W93_1 FU _ (fun s k => by kernel_rfl) (fun s k => spec93_1 k FU (sB s 3) (sI s 5) (aRh s 0 0) (aRh s 0 1) (aRh s 0 2))
@[reducible] noncomputable def B93_2 := bodyOf TT TU GL0 C143 ownF L93 (lp Tryz.f93 2)
theorem spec93_2 (k : KT) : ∀ (m : Nat) (ok : Bool) (i : Int) (b0_0 b0_1 b0_2 : LL), loopN B93_2 m (E93_2 ok i b0_0 b0_1 b0_2) (KW W93_2 k) = (G_r09_numbers_2 b0_2 m ok i).bind (X93_2 k)
 | 0, _, _, _, _, _ => rfl
 | m + 1, ok, i, b0_0, b0_1, b0_2 =>
 Eq.trans (by kernel_rfl) (nd rfl (nd rfl (nb fun r => (nd rfl (nd rfl (nb fun t => (nd rfl (nb fun t1 => (nd rfl (nb fun t2 => (nd rfl (nb fun t3 => (nd rfl (nb fun t4 => (spec93_2 k m t4 (wr (i + 1)) b0_0 b0_1 b0_2)) (spec93_2 k m false (wr (i + 1)) b0_0 b0_1 b0_2))) (spec93_2 k m false (wr (i + 1)) b0_0 b0_1 b0_2))) (spec93_2 k m false (wr (i + 1)) b0_0 b0_1 b0_2))) (spec93_2 k m false (wr (i + 1)) b0_0 b0_1 b0_2))) (spec93_2 k m false (wr (i + 1)) b0_0 b0_1 b0_2)) rfl)) rfl) rfl)
theorem okL93_2 : LoopOk TT TU GL0 C143 ownF L93 (lp Tryz.f93 2) :=
 loopOk_of ks93_2 hs20_0 W93_2 FU _ (fun s k => by kernel_rfl) (fun s k => spec93_2 k FU (sB s 3) (sI s 7) (aRh s 0 0) (aRh s 0 1) (aRh s 0 2))
theorem run93 (zr zq zs : LL) : fcall TT TU GL0 C143 ownF true L93 Tryz.f93 [(.agg [(.ro 19 zr), (.ro 6 zq), (.ro 8 zs)])] = (F_r09_numbers zr zq zs).bind fun t => some (enc20 t) :=
 Eq.trans (by kernel_rfl) (nb fun t => (nb fun t1 => (nb fun t2 => rfl)))
theorem lib93 : Lib Tryz.prog GL0 C93 :=
 LF lib143 Tryz.func93 (by decide +kernel) (by kernel_rfl) true L93 (loops_of 3 (by kernel_rfl) (belowS (belowS (belowS below0 okL93_0) okL93_1) okL93_2)) (fun us => run93 _ _ _) (fun t => rfl)
def W146_0 : Ex → List Bool
 | .ret => (e4 (true :: (e14 [])))
 | .exit n => bif Nat.beq n 0 then (e19 []) else []
 | .normal => []
noncomputable def G_r09_all_0 (l in_ : LL) : Nat → Int → Option (Bool)
 | 0, _ => none
 | m + 1, i => bif (decide (i < (Int.ofNat l.length))) then bif (decide (0 ≤ i)) then (l[i.toNat]?).bind fun r => bif (chk [LT.str] r) then (F_r09_Has in_ (cS r 0)).bind fun t => bif (!t) then some true else
 G_r09_all_0 l in_ m (wr (i + 1)) else none else none else some false
def E146_0 (l in_ : LL) (i : Int) : St := ⟨((.ro 1 l) :: (.ro 1 in_) :: .dead :: .dead :: .dead :: (i64 i) :: (d13 [])), []⟩
def X146_0 (k : KT) (t : Bool) : Option CR := bif t then k .ret ⟨(d4 ((bo false) :: (d14 []))), []⟩ else k (.exit 0) ⟨(d19 []), []⟩
def ks146_0 : List SK := (.f (.ro 1) :: .f (.ro 1) :: .f .dead :: .f .dead :: .f .dead :: .f (.int .i64) :: (f13 []))
noncomputable def Lm146_0 (s : St) (k : KT) : Option CR := bif chkS ks146_0 hs44_0 s then (G_r09_all_0 (sR s 0) (sR s 1) FU (sI s 5)).bind (X146_0 k) else none
noncomputable def L146 : LT' := fun i s k => bif Nat.beq i 0 then (Lm146_0 (maskS (maskOf ks146_0) s) k) else none
noncomputable def F_r09_all (l in_ : LL) : Option (Bool) := (G_r09_all_0 l in_ FU 0).bind fun t => bif t then some false else some true
def ks146 : List SK := [.f (.ro 1), .f (.ro 1)]
noncomputable def A146 (us : List AVal) := F_r09_all (roRows (cIa us 0)) (roRows (cIa us 1))
noncomputable def C146 := AI.ext 146 (SM ks146 A146 enc20) C93
@[reducible] noncomputable def B146_0 := bodyOf TT TU GL0 C93 ownF L146 (lp Tryz.f146 0)
theorem spec146_0 (k : KT) : ∀ (m : Nat) (l in_ : LL) (i : Int), loopN B146_0 m (E146_0 l in_ i) (KW W146_0 k) = (G_r09_all_0 l in_ m i).bind (X146_0 k)
 | 0, _, _, _ => rfl
 | m + 1, l, in_, i =>
 Eq.trans (by kernel_rfl) (nd rfl (nd rfl (nb fun r => (nd rfl (nb fun t => (nd rfl rfl (spec146_0 k m l in_ (wr (i + 1))))) rfl)) rfl) rfl)
theorem okL146_0 : LoopOk TT TU GL0 C93 ownF L146 (lp Tryz.f146 0) :=
 loopOk_of ks146_0 hs44_0 W146_0 FU _ (fun s k => by kernel_rfl) (fun s k => spec146_0 k FU (sR s 0) (sR s 1) (sI s 5))
theorem run146 (l in_ : LL) : fcall TT TU GL0 C93 ownF true L146 Tryz.f146 [(.ro 1 l), (.ro 1 in_)] = (F_r09_all l in_).bind fun t => some (enc20 t) :=
 Eq.trans (by kernel_rfl) (nb fun t => (nd rfl rfl rfl))
theorem lib146 : Lib Tryz.prog GL0 C146 :=
 LF lib93 Tryz.func146 (by decide +kernel) (by kernel_rfl) true L146 (loops_of 1 (by kernel_rfl) (belowS below0 okL146_0)) (fun us => run146 _ _) (fun t => rfl)
def W94_0 : Ex → List Bool
 | .ret => (false :: false :: true :: (e88 []))
 | .exit n => bif Nat.beq n 0 then (false :: true :: false :: true :: false :: false :: true :: (e84 [])) else []
 | .normal => []
noncomputable def G_r09_found_0 (R1 R2 R3 R4 b0_0 : LL) : Nat → Int → Option (Bool)
 | 0, _ => none
 | m + 1, i => bif (decide (i < (Int.ofNat b0_0.length))) then bif (decide (0 ≤ i)) then (b0_0[i.toNat]?).bind fun r => bif (chk y0 r) then bif (!(List.beq (ByteArray.toList (cS r 12)) (ByteArray.toList (ByteArray.mk (Array.mk []))))) then (F_r09_Has R2 (cS r 12)).bind fun t => bif (!t) then some true else (F_r09_all (roRows (AVal.ro 1 (cR r 16))) R4).bind fun t1 => bif (!t1) then some true else (F_r09_all (roRows (AVal.ro 1 (cR r 17))) R1).bind fun t2 => bif (!t2) then some true else (F_r09_all (roRows (AVal.ro 1 (cR r 18))) R3).bind fun t3 => bif (!t3) then some true else
 G_r09_found_0 R1 R2 R3 R4 b0_0 m (wr (i + 1)) else (F_r09_all (roRows (AVal.ro 1 (cR r 16))) R4).bind fun t4 => bif (!t4) then some true else (F_r09_all (roRows (AVal.ro 1 (cR r 17))) R1).bind fun t5 => bif (!t5) then some true else (F_r09_all (roRows (AVal.ro 1 (cR r 18))) R3).bind fun t6 => bif (!t6) then some true else
 G_r09_found_0 R1 R2 R3 R4 b0_0 m (wr (i + 1)) else none else none else some false
def E94_0 (R1 R2 R3 R4 : LL) (i : Int) (b0_0 b0_1 b0_2 : LL) : St := ⟨(.dead :: (.ref 16000 1 0 0) :: .dead :: (.slc 19216 (R1).length) :: (.slc 19248 (R2).length) :: (.slc 19280 (R3).length) :: (.slc 22400 (R4).length) :: (i64 i) :: (d83 [])), [(16000, ⟨.box, 27, 3, [[(.ro 19 b0_0), (.ro 6 b0_1), (.ro 8 b0_2)]]⟩), (19216, ⟨.arr, 9, 1, R1⟩), (19248, ⟨.arr, 9, 1, R2⟩), (19280, ⟨.arr, 9, 1, R3⟩), (22400, ⟨.arr, 9, 1, R4⟩)]⟩
def X94_0 (R1 R4 b0_0 b0_1 b0_2 : LL) (k : KT) (t : Bool) : Option CR := bif t then k .ret ⟨(.dead :: .dead :: (bo false) :: (d88 [])), []⟩ else k (.exit 0) ⟨(.dead :: (.ref 16000 1 0 0) :: .dead :: (.slc 19216 (R1).length) :: .dead :: .dead :: (.slc 22400 (R4).length) :: (d84 [])), [(16000, ⟨.box, 27, 3, [[(.ro 19 b0_0), (.ro 6 b0_1), (.ro 8 b0_2)]]⟩), (19216, ⟨.arr, 9, 1, R1⟩), (22400, ⟨.arr, 9, 1, R4⟩)]⟩
def ks94_0 : List SK := (.f .dead :: .f (.ref 16000 1 0 0) :: .f .dead :: .f (.slc 19216 1) :: .f (.slc 19248 2) :: .f (.slc 19280 3) :: .f (.slc 22400 4) :: .f (.int .i64) :: (f83 []))
def hs94_0 : List HK := [⟨16000, .box, 27, 3, some [.ro 19, .ro 6, .ro 8]⟩, ⟨19216, .arr, 9, 1, none⟩, ⟨19248, .arr, 9, 1, none⟩, ⟨19280, .arr, 9, 1, none⟩, ⟨22400, .arr, 9, 1, none⟩]
noncomputable def Lm94_0 (s : St) (k : KT) : Option CR := bif chkS ks94_0 hs94_0 s then (G_r09_found_0 (blkAt s.heap 1).2.rows (blkAt s.heap 2).2.rows (blkAt s.heap 3).2.rows (blkAt s.heap 4).2.rows (aRh s 0 0) FU (sI s 7)).bind (X94_0 (blkAt s.heap 1).2.rows (blkAt s.heap 4).2.rows (aRh s 0 0) (aRh s 0 1) (aRh s 0 2) k) else none
def W94_1 : Ex → List Bool
 | .ret => (false :: false :: true :: (e88 []))
 | .exit n => bif Nat.beq n 2 then (e91 []) else []
 | .normal => []
noncomputable def G_r09_found_1 (R1 R2 b0_2 : LL) : Nat → Int → Option (Bool)
 | 0, _ => none
 | m + 1, i => bif (decide (i < (Int.ofNat b0_2.length))) then bif (decide (0 ≤ i)) then (b0_2[i.toNat]?).bind fun r => bif (chk y2 r) then (F_r09_all (roRows (AVal.ro 1 (cR r 1))) R2).bind fun t => bif (!t) then some true else (b0_2[i.toNat]?).bind fun r1 => bif (chk y2 r1) then (F_r09_Has R1 (cS r1 5)).bind fun t1 => bif (!t1) then some true else
 G_r09_found_1 R1 R2 b0_2 m (wr (i + 1)) else none else none else none else some false
def E94_1 (R1 R2 : LL) (i : Int) (b0_0 b0_1 b0_2 : LL) : St := ⟨(.dead :: (.ref 16000 1 0 0) :: .dead :: (.slc 19216 (R1).length) :: .dead :: .dead :: (.slc 22400 (R2).length) :: .dead :: .dead :: (i64 i) :: (d81 [])), [(16000, ⟨.box, 27, 3, [[(.ro 19 b0_0), (.ro 6 b0_1), (.ro 8 b0_2)]]⟩), (19216, ⟨.arr, 9, 1, R1⟩), (22400, ⟨.arr, 9, 1, R2⟩)]⟩
def X94_1 (k : KT) (t : Bool) : Option CR := bif t then k .ret ⟨(.dead :: .dead :: (bo false) :: (d88 [])), []⟩ else k (.exit 2) ⟨(d91 []), []⟩
def ks94_1 : List SK := (.f .dead :: .f (.ref 16000 1 0 0) :: .f .dead :: .f (.slc 19216 1) :: .f .dead :: .f .dead :: .f (.slc 22400 2) :: .f .dead :: .f .dead :: .f (.int .i64) :: (f81 []))
def hs94_1 : List HK := [⟨16000, .box, 27, 3, some [.ro 19, .ro 6, .ro 8]⟩, ⟨19216, .arr, 9, 1, none⟩, ⟨22400, .arr, 9, 1, none⟩]
noncomputable def Lm94_1 (s : St) (k : KT) : Option CR := bif chkS ks94_1 hs94_1 s then (G_r09_found_1 (blkAt s.heap 1).2.rows (blkAt s.heap 2).2.rows (aRh s 0 2) FU (sI s 9)).bind (X94_1 k) else none
noncomputable def L94 : LT' := fun i s k => bif Nat.beq i 0 then (Lm94_0 (maskS (maskOf ks94_0) s) k) else bif Nat.beq i 2 then (Lm94_1 (maskS (maskOf ks94_1) s) k) else none
noncomputable def F_r09_found (zr zq zs : LL) : Option (Bool) := (F_r09_Units zr zq zs).bind fun t => (F_r09_Weapons zr zq zs).bind fun t1 => (F_r09_Techs zr zq zs).bind fun t2 => bif (roomOk (0 + t.length) 16) then bif (roomOk (t.length + t2.length) 16) then (G_r09_found_0 t t1 t2 (Blk.rows (Blk.mk BKind.arr 9 1 (t ++ t2))) zr FU 0).bind fun t3 => bif t3 then some false else (G_r09_found_1 t (Blk.rows (Blk.mk BKind.arr 9 1 (Blk.rows (Blk.mk BKind.arr 9 1 (t ++ t2))))) zs FU 0).bind fun t4 => bif t4 then some false else some true else none else none
noncomputable def A94 (us : List AVal) := F_r09_found (aR us 0 0) (aR us 0 1) (aR us 0 2)
noncomputable def C94 := AI.ext 94 (SM ks20 A94 enc20) C146
@[reducible] noncomputable def B94_0 := bodyOf TT TU GL0 C146 ownF L94 (lp Tryz.f94 0)
theorem spec94_0 (k : KT) : ∀ (m : Nat) (R1 R2 R3 R4 : LL) (i : Int) (b0_0 b0_1 b0_2 : LL), loopN B94_0 m (E94_0 R1 R2 R3 R4 i b0_0 b0_1 b0_2) (KW W94_0 k) = (G_r09_found_0 R1 R2 R3 R4 b0_0 m i).bind (X94_0 R1 R4 b0_0 b0_1 b0_2 k)
 | 0, _, _, _, _, _, _, _, _ => rfl
 | m + 1, R1, R2, R3, R4, i, b0_0, b0_1, b0_2 =>
 Eq.trans (by kernel_rfl) (nd rfl (nd rfl (nb fun r => (nd rfl (nd rfl (nu (vr R2) (nb fun t => (nd rfl rfl (nu (vr R4) (nb fun t1 => (nd rfl rfl (nu (vr R1) (nb fun t2 => (nd rfl rfl (nu (vr R3) (nb fun t3 => (nd rfl rfl (spec94_0 k m R1 R2 R3 R4 (wr (i + 1)) b0_0 b0_1 b0_2))))))))))))) (nu (vr R4) (nb fun t4 => (nd rfl rfl (nu (vr R1) (nb fun t5 => (nd rfl rfl (nu (vr R3) (nb fun t6 => (nd rfl rfl (spec94_0 k m R1 R2 R3 R4 (wr (i + 1)) b0_0 b0_1 b0_2))))))))))) rfl)) rfl) rfl)
theorem okL94_0 : LoopOk TT TU GL0 C146 ownF L94 (lp Tryz.f94 0) :=
 loopOk_of ks94_0 hs94_0 W94_0 FU _ (fun s k => by kernel_rfl) (fun s k => spec94_0 k FU (blkAt s.heap 1).2.rows (blkAt s.heap 2).2.rows (blkAt s.heap 3).2.rows (blkAt s.heap 4).2.rows (sI s 7) (aRh s 0 0) (aRh s 0 1) (aRh s 0 2))
@[reducible] noncomputable def B94_1 := bodyOf TT TU GL0 C146 ownF L94 (lp Tryz.f94 1)
theorem spec94_1 (k : KT) : ∀ (m : Nat) (R1 R2 : LL) (i : Int) (b0_0 b0_1 b0_2 : LL), loopN B94_1 m (E94_1 R1 R2 i b0_0 b0_1 b0_2) (KW W94_1 k) = (G_r09_found_1 R1 R2 b0_2 m i).bind (X94_1 k)
 | 0, _, _, _, _, _, _ => rfl
 | m + 1, R1, R2, i, b0_0, b0_1, b0_2 =>
 Eq.trans (by kernel_rfl) (nd rfl (nc rfl (fun h1 => (nb fun r => (nd rfl (nu (vr R2) (nb fun t => (nd rfl rfl (nu h1 (nb fun r1 => (nd rfl (nu (vr R1) (nb fun t1 => (nd rfl rfl (spec94_1 k m R1 R2 (wr (i + 1)) b0_0 b0_1 b0_2)))) rfl)))))) rfl))) fun h1 => rfl) rfl)
theorem okL94_1 : LoopOk TT TU GL0 C146 ownF L94 (lp Tryz.f94 1) :=
 loopOk_of ks94_1 hs94_1 W94_1 FU _ (fun s k => by kernel_rfl) (fun s k => spec94_1 k FU (blkAt s.heap 1).2.rows (blkAt s.heap 2).2.rows (sI s 9) (aRh s 0 0) (aRh s 0 1) (aRh s 0 2))
theorem run94 (zr zq zs : LL) : fcall TT TU GL0 C146 ownF true L94 Tryz.f94 [(.agg [(.ro 19 zr), (.ro 6 zq), (.ro 8 zs)])] = (F_r09_found zr zq zs).bind fun t => some (enc20 t) :=
 Eq.trans (by kernel_rfl) (nb fun t => (nu (v4 t.length) (nb fun t1 => (nu (v4 t1.length) (nb fun t2 => (nu (v4 t2.length) (nu (vr t) (nd rfl (nu (vr t2) (nd (show ((((verEq t.length t.length) && true) && (roomOk (t.length + t2.length) 16))) = _ from (n_andL (n_andL (verEq_rfl _) rfl) rfl)) (nu (show (((true && (verEq t.length (blkLen [(Prod.mk 16000 (Blk.mk BKind.box 27 3 [[(AVal.ro 19 zr), (AVal.ro 6 zq), (AVal.ro 8 zs)]])), (Prod.mk 19216 (Blk.mk BKind.arr 9 1 t)), (Prod.mk 19248 (Blk.mk BKind.arr 9 1 t1)), (Prod.mk 19280 (Blk.mk BKind.arr 9 1 t2)), (Prod.mk 22400 (Blk.mk BKind.arr 9 1 (t ++ t2)))] 1))) && ((true && (verEq t1.length (blkLen [(Prod.mk 16000 (Blk.mk BKind.box 27 3 [[(AVal.ro 19 zr), (AVal.ro 6 zq), (AVal.ro 8 zs)]])), (Prod.mk 19216 (Blk.mk BKind.arr 9 1 t)), (Prod.mk 19248 (Blk.mk BKind.arr 9 1 t1)), (Prod.mk 19280 (Blk.mk BKind.arr 9 1 t2)), (Prod.mk 22400 (Blk.mk BKind.arr 9 1 (t ++ t2)))] 2))) && ((true && (verEq t2.length (blkLen [(Prod.mk 16000 (Blk.mk BKind.box 27 3 [[(AVal.ro 19 zr), (AVal.ro 6 zq), (AVal.ro 8 zs)]])), (Prod.mk 19216 (Blk.mk BKind.arr 9 1 t)), (Prod.mk 19248 (Blk.mk BKind.arr 9 1 t1)), (Prod.mk 19280 (Blk.mk BKind.arr 9 1 t2)), (Prod.mk 22400 (Blk.mk BKind.arr 9 1 (t ++ t2)))] 3))) && ((true && (verEq (t ++ t2).length (blkLen [(Prod.mk 16000 (Blk.mk BKind.box 27 3 [[(AVal.ro 19 zr), (AVal.ro 6 zq), (AVal.ro 8 zs)]])), (Prod.mk 19216 (Blk.mk BKind.arr 9 1 t)), (Prod.mk 19248 (Blk.mk BKind.arr 9 1 t1)), (Prod.mk 19280 (Blk.mk BKind.arr 9 1 t2)), (Prod.mk 22400 (Blk.mk BKind.arr 9 1 (t ++ t2)))] 4))) && true)))) && true) = true from (n_andL (n_andL (n_andL rfl (by first | exact verEq_of rfl | simp [verEq, blkLen, blkAt])) (n_andL (n_andL rfl (by first | exact verEq_of rfl | simp [verEq, blkLen, blkAt])) (n_andL (n_andL rfl (by first | exact verEq_of rfl | simp [verEq, blkLen, blkAt])) (n_andL (n_andL rfl (by first | exact verEq_of rfl | simp [verEq, blkLen, blkAt])) rfl)))) rfl)) (nb fun t3 => (nd rfl rfl (nu (show (((true && (verEq t.length (blkLen [(Prod.mk 16000 (Blk.mk BKind.box 27 3 [[(AVal.ro 19 zr), (AVal.ro 6 zq), (AVal.ro 8 zs)]])), (Prod.mk 19216 (Blk.mk BKind.arr 9 1 t)), (Prod.mk 22400 (Blk.mk BKind.arr 9 1 (Blk.rows (Blk.mk BKind.arr 9 1 (t ++ t2)))))] 1))) && ((true && (verEq (Blk.rows (Blk.mk BKind.arr 9 1 (t ++ t2))).length (blkLen [(Prod.mk 16000 (Blk.mk BKind.box 27 3 [[(AVal.ro 19 zr), (AVal.ro 6 zq), (AVal.ro 8 zs)]])), (Prod.mk 19216 (Blk.mk BKind.arr 9 1 t)), (Prod.mk 22400 (Blk.mk BKind.arr 9 1 (Blk.rows (Blk.mk BKind.arr 9 1 (t ++ t2)))))] 2))) && true)) && true) = true from (n_andL (n_andL (n_andL rfl (by first | exact verEq_of rfl | simp [verEq, blkLen, blkAt])) (n_andL (n_andL rfl (by first | exact verEq_of rfl | simp [verEq, blkLen, blkAt])) rfl)) rfl)) (nb fun t4 => (nd rfl rfl rfl)))))) rfl)) rfl))))))))
theorem lib94 : Lib Tryz.prog GL0 C94 :=
 LF lib146 Tryz.func94 (by decide +kernel) (by kernel_rfl) true L94 (loops_of 2 (by kernel_rfl) (belowS (belowS below0 okL94_0) okL94_1)) (fun us => run94 _ _ _) (fun t => rfl)
def W19_0 : Ex → List Bool
 | .ret => (e4 (true :: true :: (e22 [])))
 | .exit n => bif Nat.beq n 0 then (e4 (true :: (e23 []))) else []
 | .normal => []
noncomputable def G_r09_Unit_0 (name : ByteArray) (b0_0 : LL) : Nat → Int → Option (Bool × ByteArray × Bool × Bool × Int × Int × Int × Int × Int × Int × Int × Int × Int × ByteArray × Int × Int × Int × LL × LL × LL)
 | 0, _ => none
 | m + 1, i => bif (decide (i < (Int.ofNat b0_0.length))) then bif (decide (0 ≤ i)) then (b0_0[i.toNat]?).bind fun r => bif (chk y0 r) then bif (List.beq (ByteArray.toList (cS r 0)) (ByteArray.toList name)) then (b0_0[i.toNat]?).bind fun r1 => bif (chk y0 r1) then some (true, (cS r1 0), (cB r1 1), (cB r1 2), (cI r1 3), (cI r1 4), (cI r1 5), (cI r1 6), (cI r1 7), (cI r1 8), (cI r1 9), (cI r1 10), (cI r1 11), (cS r1 12), (cI r1 13), (cI r1 14), (cI r1 15), (cR r1 16), (cR r1 17), (cR r1 18)) else none else
 G_r09_Unit_0 name b0_0 m (wr (i + 1)) else none else none else some (false, ⟨#[]⟩, false, false, 0, 0, 0, 0, 0, 0, 0, 0, 0, ⟨#[]⟩, 0, 0, 0, [], [], [])
def E19_0 (name : ByteArray) (i : Int) (b0_0 b0_1 b0_2 : LL) (b1_0 : ByteArray) (b1_1 b1_2 : Bool) (b1_3 b1_4 b1_5 b1_6 b1_7 b1_8 b1_9 b1_10 b1_11 : Int) (b1_12 : ByteArray) (b1_13 b1_14 b1_15 : Int) : St := ⟨(.dead :: (.sc (.string name)) :: (.ref 16000 1 0 0) :: .dead :: (.ref 16016 1 0 0) :: .dead :: (i64 i) :: (d21 [])), [(16000, ⟨.box, 27, 3, [[(.ro 19 b0_0), (.ro 6 b0_1), (.ro 8 b0_2)]]⟩), (16016, ⟨.box, 65, 19, [[(.sc (.string b1_0)), (bo b1_1), (bo b1_2), (i64 b1_3), (i64 b1_4), (i64 b1_5), (i64 b1_6), (i64 b1_7), (i64 b1_8), (i64 b1_9), (i64 b1_10), (i64 b1_11), (.sc (.string b1_12)), (i64 b1_13), (i64 b1_14), (i64 b1_15), .emp, .emp, .emp]]⟩)]⟩
def X19_0 (b1_0 : ByteArray) (b1_1 b1_2 : Bool) (b1_3 b1_4 b1_5 b1_6 b1_7 b1_8 b1_9 b1_10 b1_11 : Int) (b1_12 : ByteArray) (b1_13 b1_14 b1_15 : Int) (k : KT) (t : Bool × ByteArray × Bool × Bool × Int × Int × Int × Int × Int × Int × Int × Int × Int × ByteArray × Int × Int × Int × LL × LL × LL) : Option CR := bif t.1 then k .ret ⟨(d4 ((.ref 16016 1 0 0) :: (bo true) :: (d22 []))), [(16016, ⟨.box, 65, 19, [[(.sc (.string t.2.1)), (.sc (.bool t.2.2.1)), (.sc (.bool t.2.2.2.1)), (.sc (.int .i64 t.2.2.2.2.1)), (.sc (.int .i64 t.2.2.2.2.2.1)), (.sc (.int .i64 t.2.2.2.2.2.2.1)), (.sc (.int .i64 t.2.2.2.2.2.2.2.1)), (.sc (.int .i64 t.2.2.2.2.2.2.2.2.1)), (.sc (.int .i64 t.2.2.2.2.2.2.2.2.2.1)), (.sc (.int .i64 t.2.2.2.2.2.2.2.2.2.2.1)), (.sc (.int .i64 t.2.2.2.2.2.2.2.2.2.2.2.1)), (.sc (.int .i64 t.2.2.2.2.2.2.2.2.2.2.2.2.1)), (.sc (.string t.2.2.2.2.2.2.2.2.2.2.2.2.2.1)), (.sc (.int .i64 t.2.2.2.2.2.2.2.2.2.2.2.2.2.2.1)), (.sc (.int .i64 t.2.2.2.2.2.2.2.2.2.2.2.2.2.2.2.1)), (.sc (.int .i64 t.2.2.2.2.2.2.2.2.2.2.2.2.2.2.2.2.1)), (.ro 1 t.2.2.2.2.2.2.2.2.2.2.2.2.2.2.2.2.2.1), (.ro 1 t.2.2.2.2.2.2.2.2.2.2.2.2.2.2.2.2.2.2.1), (.ro 1 t.2.2.2.2.2.2.2.2.2.2.2.2.2.2.2.2.2.2.2)]]⟩)]⟩ else k (.exit 0) ⟨(d4 ((.ref 16016 1 0 0) :: (d23 []))), [(16016, ⟨.box, 65, 19, [[(.sc (.string b1_0)), (bo b1_1), (bo b1_2), (i64 b1_3), (i64 b1_4), (i64 b1_5), (i64 b1_6), (i64 b1_7), (i64 b1_8), (i64 b1_9), (i64 b1_10), (i64 b1_11), (.sc (.string b1_12)), (i64 b1_13), (i64 b1_14), (i64 b1_15), .emp, .emp, .emp]]⟩)]⟩
def ks19_0 : List SK := (.f .dead :: .f (.str) :: .f (.ref 16000 1 0 0) :: .f .dead :: .f (.ref 16016 1 0 0) :: .f .dead :: .f (.int .i64) :: (f21 []))
def hs19_0 : List HK := [⟨16000, .box, 27, 3, some [.ro 19, .ro 6, .ro 8]⟩, ⟨16016, .box, 65, 19, some [.str, .bool, .bool, .int .i64, .int .i64, .int .i64, .int .i64, .int .i64, .int .i64, .int .i64, .int .i64, .int .i64, .str, .int .i64, .int .i64, .int .i64, .emp, .emp, .emp]⟩]
noncomputable def Lm19_0 (s : St) (k : KT) : Option CR := bif chkS ks19_0 hs19_0 s then (G_r09_Unit_0 (sS s 1) (aRh s 0 0) FU (sI s 6)).bind (X19_0 (aSh s 1 0) (aBh s 1 1) (aBh s 1 2) (aIh s 1 3) (aIh s 1 4) (aIh s 1 5) (aIh s 1 6) (aIh s 1 7) (aIh s 1 8) (aIh s 1 9) (aIh s 1 10) (aIh s 1 11) (aSh s 1 12) (aIh s 1 13) (aIh s 1 14) (aIh s 1 15) k) else none
noncomputable def L19 : LT' := fun i s k => bif Nat.beq i 0 then (Lm19_0 (maskS (maskOf ks19_0) s) k) else none
noncomputable def F_r09_Unit (zr zq zs : LL) (name : ByteArray) : Option (ByteArray × Bool × Bool × Int × Int × Int × Int × Int × Int × Int × Int × Int × ByteArray × Int × Int × Int × LL × LL × LL × Bool) := (G_r09_Unit_0 name zr FU 0).bind fun t => bif t.1 then some (t.2.1, t.2.2.1, t.2.2.2.1, t.2.2.2.2.1, t.2.2.2.2.2.1, t.2.2.2.2.2.2.1, t.2.2.2.2.2.2.2.1, t.2.2.2.2.2.2.2.2.1, t.2.2.2.2.2.2.2.2.2.1, t.2.2.2.2.2.2.2.2.2.2.1, t.2.2.2.2.2.2.2.2.2.2.2.1, t.2.2.2.2.2.2.2.2.2.2.2.2.1, t.2.2.2.2.2.2.2.2.2.2.2.2.2.1, t.2.2.2.2.2.2.2.2.2.2.2.2.2.2.1, t.2.2.2.2.2.2.2.2.2.2.2.2.2.2.2.1, t.2.2.2.2.2.2.2.2.2.2.2.2.2.2.2.2.1, t.2.2.2.2.2.2.2.2.2.2.2.2.2.2.2.2.2.1, t.2.2.2.2.2.2.2.2.2.2.2.2.2.2.2.2.2.2.1, t.2.2.2.2.2.2.2.2.2.2.2.2.2.2.2.2.2.2.2, true) else some ((ByteArray.mk (Array.mk [])), false, false, 0, 0, 0, 0, 0, 0, 0, 0, 0, (ByteArray.mk (Array.mk [])), 0, 0, 0, [], [], [], false)
def enc19 (t : ByteArray × Bool × Bool × Int × Int × Int × Int × Int × Int × Int × Int × Int × ByteArray × Int × Int × Int × LL × LL × LL × Bool) : CR := ⟨true, (.tup [(.agg [(.sc (.string t.1)), (.sc (.bool t.2.1)), (.sc (.bool t.2.2.1)), (.sc (.int .i64 t.2.2.2.1)), (.sc (.int .i64 t.2.2.2.2.1)), (.sc (.int .i64 t.2.2.2.2.2.1)), (.sc (.int .i64 t.2.2.2.2.2.2.1)), (.sc (.int .i64 t.2.2.2.2.2.2.2.1)), (.sc (.int .i64 t.2.2.2.2.2.2.2.2.1)), (.sc (.int .i64 t.2.2.2.2.2.2.2.2.2.1)), (.sc (.int .i64 t.2.2.2.2.2.2.2.2.2.2.1)), (.sc (.int .i64 t.2.2.2.2.2.2.2.2.2.2.2.1)), (.sc (.string t.2.2.2.2.2.2.2.2.2.2.2.2.1)), (.sc (.int .i64 t.2.2.2.2.2.2.2.2.2.2.2.2.2.1)), (.sc (.int .i64 t.2.2.2.2.2.2.2.2.2.2.2.2.2.2.1)), (.sc (.int .i64 t.2.2.2.2.2.2.2.2.2.2.2.2.2.2.2.1)), (.ro 1 t.2.2.2.2.2.2.2.2.2.2.2.2.2.2.2.2.1), (.ro 1 t.2.2.2.2.2.2.2.2.2.2.2.2.2.2.2.2.2.1), (.ro 1 t.2.2.2.2.2.2.2.2.2.2.2.2.2.2.2.2.2.2.1)]), (.sc (.bool t.2.2.2.2.2.2.2.2.2.2.2.2.2.2.2.2.2.2.2))]), [], []⟩
def ks19 : List SK := [.agg [.ro 19, .ro 6, .ro 8], .f (.str)]
noncomputable def A19 (us : List AVal) := F_r09_Unit (aR us 0 0) (aR us 0 1) (aR us 0 2) (toS (cIa us 1))
noncomputable def C19 := AI.ext 19 (SM ks19 A19 enc19) C94
@[reducible] noncomputable def B19_0 := bodyOf TT TU GL0 C94 ownF L19 (lp Tryz.f19 0)
theorem spec19_0 (k : KT) : ∀ (m : Nat) (name : ByteArray) (i : Int) (b0_0 b0_1 b0_2 : LL) (b1_0 : ByteArray) (b1_1 b1_2 : Bool) (b1_3 b1_4 b1_5 b1_6 b1_7 b1_8 b1_9 b1_10 b1_11 : Int) (b1_12 : ByteArray) (b1_13 b1_14 b1_15 : Int), loopN B19_0 m (E19_0 name i b0_0 b0_1 b0_2 b1_0 b1_1 b1_2 b1_3 b1_4 b1_5 b1_6 b1_7 b1_8 b1_9 b1_10 b1_11 b1_12 b1_13 b1_14 b1_15) (KW W19_0 k) = (G_r09_Unit_0 name b0_0 m i).bind (X19_0 b1_0 b1_1 b1_2 b1_3 b1_4 b1_5 b1_6 b1_7 b1_8 b1_9 b1_10 b1_11 b1_12 b1_13 b1_14 b1_15 k)
 | 0, _, _, _, _, _, _, _, _, _, _, _, _, _, _, _, _, _, _, _, _, _ => rfl
 | m + 1, name, i, b0_0, b0_1, b0_2, b1_0, b1_1, b1_2, b1_3, b1_4, b1_5, b1_6, b1_7, b1_8, b1_9, b1_10, b1_11, b1_12, b1_13, b1_14, b1_15 =>
 Eq.trans (by kernel_rfl) (nd rfl (nc rfl (fun h1 => (nb fun r => (nd rfl (nd rfl (nu h1 (nb fun r1 => (nd rfl rfl rfl))) (spec19_0 k m name (wr (i + 1)) b0_0 b0_1 b0_2 b1_0 b1_1 b1_2 b1_3 b1_4 b1_5 b1_6 b1_7 b1_8 b1_9 b1_10 b1_11 b1_12 b1_13 b1_14 b1_15)) rfl))) fun h1 => rfl) rfl)
theorem okL19_0 : LoopOk TT TU GL0 C94 ownF L19 (lp Tryz.f19 0) :=
 loopOk_of ks19_0 hs19_0 W19_0 FU _ (fun s k => by kernel_rfl) (fun s k => spec19_0 k FU (sS s 1) (sI s 6) (aRh s 0 0) (aRh s 0 1) (aRh s 0 2) (aSh s 1 0) (aBh s 1 1) (aBh s 1 2) (aIh s 1 3) (aIh s 1 4) (aIh s 1 5) (aIh s 1 6) (aIh s 1 7) (aIh s 1 8) (aIh s 1 9) (aIh s 1 10) (aIh s 1 11) (aSh s 1 12) (aIh s 1 13) (aIh s 1 14) (aIh s 1 15))
theorem run19 (zr zq zs : LL) (name : ByteArray) : fcall TT TU GL0 C94 ownF false L19 Tryz.f19 [(.agg [(.ro 19 zr), (.ro 6 zq), (.ro 8 zs)]), (.sc (.string name))] = (F_r09_Unit zr zq zs name).bind fun t => some (enc19 t) :=
 Eq.trans (by kernel_rfl) (nb fun t => (nd rfl rfl rfl))
theorem lib19 : Lib Tryz.prog GL0 C19 :=
 LF lib94 Tryz.func19 (by decide +kernel) (by kernel_rfl) false L19 (loops_of 1 (by kernel_rfl) (belowS below0 okL19_0)) (fun us => run19 _ _ _ _) (fun t => rfl)
def W147_0 : Ex → List Bool
 | .ret => (e4 (true :: (e24 [])))
 | .exit n => bif Nat.beq n 0 then (e29 []) else []
 | .normal => []
noncomputable def G_r09_needed_0 (l b0_0 b0_1 b0_2 : LL) : Nat → Int → Option (Bool)
 | 0, _ => none
 | m + 1, i => bif (decide (i < (Int.ofNat l.length))) then bif (decide (0 ≤ i)) then (l[i.toNat]?).bind fun r => bif (chk [LT.str] r) then (F_r09_Unit b0_0 b0_1 b0_2 (cS r 0)).bind fun t => bif t.2.2.2.2.2.2.2.2.2.2.2.2.2.2.2.2.2.2.2 then bif (!t.2.1) then some true else
 G_r09_needed_0 l b0_0 b0_1 b0_2 m (wr (i + 1)) else
 G_r09_needed_0 l b0_0 b0_1 b0_2 m (wr (i + 1)) else none else none else some false
def E147_0 (l : LL) (i : Int) (b0_0 b0_1 b0_2 : LL) : St := ⟨(.dead :: (.ro 1 l) :: (.ref 16000 1 0 0) :: .dead :: .dead :: (i64 i) :: (d23 [])), [(16000, ⟨.box, 27, 3, [[(.ro 19 b0_0), (.ro 6 b0_1), (.ro 8 b0_2)]]⟩)]⟩
def X147_0 (k : KT) (t : Bool) : Option CR := bif t then k .ret ⟨(d4 ((bo false) :: (d24 []))), []⟩ else k (.exit 0) ⟨(d29 []), []⟩
def ks147_0 : List SK := (.f .dead :: .f (.ro 1) :: .f (.ref 16000 1 0 0) :: .f .dead :: .f .dead :: .f (.int .i64) :: (f23 []))
noncomputable def Lm147_0 (s : St) (k : KT) : Option CR := bif chkS ks147_0 hs20_0 s then (G_r09_needed_0 (sR s 1) (aRh s 0 0) (aRh s 0 1) (aRh s 0 2) FU (sI s 5)).bind (X147_0 k) else none
noncomputable def L147 : LT' := fun i s k => bif Nat.beq i 0 then (Lm147_0 (maskS (maskOf ks147_0) s) k) else none
noncomputable def F_r09_needed (zr zq zs l : LL) : Option (Bool) := (G_r09_needed_0 l zr zq zs FU 0).bind fun t => bif t then some false else some true
def ks147 : List SK := [.agg [.ro 19, .ro 6, .ro 8], .f (.ro 1)]
noncomputable def A147 (us : List AVal) := F_r09_needed (aR us 0 0) (aR us 0 1) (aR us 0 2) (roRows (cIa us 1))
noncomputable def C147 := AI.ext 147 (SM ks147 A147 enc20) C19
@[reducible] noncomputable def B147_0 := bodyOf TT TU GL0 C19 ownF L147 (lp Tryz.f147 0)
theorem spec147_0 (k : KT) : ∀ (m : Nat) (l : LL) (i : Int) (b0_0 b0_1 b0_2 : LL), loopN B147_0 m (E147_0 l i b0_0 b0_1 b0_2) (KW W147_0 k) = (G_r09_needed_0 l b0_0 b0_1 b0_2 m i).bind (X147_0 k)
 | 0, _, _, _, _, _ => rfl
 | m + 1, l, i, b0_0, b0_1, b0_2 =>
 Eq.trans (by kernel_rfl) (nd rfl (nd rfl (nb fun r => (nd rfl (nb fun t => (nd rfl (nd rfl rfl (spec147_0 k m l (wr (i + 1)) b0_0 b0_1 b0_2)) (spec147_0 k m l (wr (i + 1)) b0_0 b0_1 b0_2))) rfl)) rfl) rfl)
theorem okL147_0 : LoopOk TT TU GL0 C19 ownF L147 (lp Tryz.f147 0) :=
 loopOk_of ks147_0 hs20_0 W147_0 FU _ (fun s k => by kernel_rfl) (fun s k => spec147_0 k FU (sR s 1) (sI s 5) (aRh s 0 0) (aRh s 0 1) (aRh s 0 2))
theorem run147 (zr zq zs l : LL) : fcall TT TU GL0 C19 ownF true L147 Tryz.f147 [(.agg [(.ro 19 zr), (.ro 6 zq), (.ro 8 zs)]), (.ro 1 l)] = (F_r09_needed zr zq zs l).bind fun t => some (enc20 t) :=
 Eq.trans (by kernel_rfl) (nb fun t => (nd rfl rfl rfl))
theorem lib147 : Lib Tryz.prog GL0 C147 :=
 LF lib19 Tryz.func147 (by decide +kernel) (by kernel_rfl) true L147 (loops_of 1 (by kernel_rfl) (belowS below0 okL147_0)) (fun us => run147 _ _ _ _) (fun t => rfl)
def W95_0 : Ex → List Bool
 | .ret => (false :: false :: true :: (e72 []))
 | .exit n => bif Nat.beq n 0 then (false :: true :: (e73 [])) else []
 | .normal => []
def W95_1 : Ex → List Bool
 | .ret => (false :: false :: true :: (e72 []))
 | .exit n => bif Nat.beq n 2 then (false :: true :: false :: true :: (e71 [])) else bif Nat.beq n 1 then (false :: true :: false :: true :: (e71 [])) else bif Nat.beq n 0 then (false :: true :: (e73 [])) else []
 | .normal => []
noncomputable def G_r09_typed_1 (b0_0 b0_1 b0_2 : LL) (b1_1 : Bool) (b1_17 : LL) : Nat → Int → Option (Bool)
 | 0, _ => none
 | m + 1, k1 => bif (decide (k1 < (Int.ofNat b1_17.length))) then bif (decide (0 ≤ k1)) then (b1_17[k1.toNat]?).bind fun r => bif (chk [LT.str] r) then (F_r09_Unit b0_0 b0_1 b0_2 (cS r 0)).bind fun t => bif (t.2.1 == b1_1) then some true else
 G_r09_typed_1 b0_0 b0_1 b0_2 b1_1 b1_17 m (wr (k1 + 1)) else none else none else some false
def E95_1 (i k1 : Int) (b0_0 b0_1 b0_2 : LL) (b1_0 : ByteArray) (b1_1 b1_2 : Bool) (b1_3 b1_4 b1_5 b1_6 b1_7 b1_8 b1_9 b1_10 b1_11 : Int) (b1_12 : ByteArray) (b1_13 b1_14 b1_15 : Int) (b1_16 b1_17 b1_18 : LL) : St := ⟨(.dead :: (.ref 16000 1 0 0) :: .dead :: (i64 i) :: (.ref 28880 1 0 0) :: (i64 k1) :: (d69 [])), [(16000, ⟨.box, 27, 3, [[(.ro 19 b0_0), (.ro 6 b0_1), (.ro 8 b0_2)]]⟩), (28880, ⟨.box, 65, 19, [[(.sc (.string b1_0)), (bo b1_1), (bo b1_2), (i64 b1_3), (i64 b1_4), (i64 b1_5), (i64 b1_6), (i64 b1_7), (i64 b1_8), (i64 b1_9), (i64 b1_10), (i64 b1_11), (.sc (.string b1_12)), (i64 b1_13), (i64 b1_14), (i64 b1_15), (.ro 1 b1_16), (.ro 1 b1_17), (.ro 1 b1_18)]]⟩)]⟩
def X95_1 (i : Int) (b0_0 b0_1 b0_2 : LL) (k : KT) (t : Bool) : Option CR := bif t then k .ret ⟨(.dead :: .dead :: (bo false) :: (d72 [])), []⟩ else k (.exit 2) ⟨(.dead :: (.ref 16000 1 0 0) :: .dead :: (i64 i) :: (d71 [])), [(16000, ⟨.box, 27, 3, [[(.ro 19 b0_0), (.ro 6 b0_1), (.ro 8 b0_2)]]⟩)]⟩
def ks95_1 : List SK := (.f .dead :: .f (.ref 16000 1 0 0) :: .f .dead :: .f (.int .i64) :: .f (.ref 28880 1 0 0) :: .f (.int .i64) :: (f69 []))
def hs95_1 : List HK := [⟨16000, .box, 27, 3, some [.ro 19, .ro 6, .ro 8]⟩, ⟨28880, .box, 65, 19, some [.str, .bool, .bool, .int .i64, .int .i64, .int .i64, .int .i64, .int .i64, .int .i64, .int .i64, .int .i64, .int .i64, .str, .int .i64, .int .i64, .int .i64, .ro 1, .ro 1, .ro 1]⟩]
noncomputable def Lm95_1 (s : St) (k : KT) : Option CR := bif chkS ks95_1 hs95_1 s then (G_r09_typed_1 (aRh s 0 0) (aRh s 0 1) (aRh s 0 2) (aBh s 1 1) (aRh s 1 17) FU (sI s 5)).bind (X95_1 (sI s 3) (aRh s 0 0) (aRh s 0 1) (aRh s 0 2) k) else none
noncomputable def G_r09_typed_0 (b0_0 b0_1 b0_2 : LL) : Nat → Int → Option (Bool)
 | 0, _ => none
 | m + 1, i => bif (decide (i < (Int.ofNat b0_0.length))) then bif (decide (0 ≤ i)) then (b0_0[i.toNat]?).bind fun r => bif (chk y0 r) then (F_r09_needed b0_0 b0_1 b0_2 (roRows (AVal.ro 1 (cR r 16)))).bind fun t => bif (!t) then some true else bif (!(cB r 1)) then bif (decide ((Int.ofNat (cR r 18).length) > 0)) then some true else (G_r09_typed_1 b0_0 b0_1 b0_2 (cB r 1) (roRows (AVal.ro 1 (cR r 17))) FU 0).bind fun t1 => bif t1 then some true else
 G_r09_typed_0 b0_0 b0_1 b0_2 m (wr (i + 1)) else (G_r09_typed_1 b0_0 b0_1 b0_2 (cB r 1) (roRows (AVal.ro 1 (cR r 17))) FU 0).bind fun t2 => bif t2 then some true else
 G_r09_typed_0 b0_0 b0_1 b0_2 m (wr (i + 1)) else none else none else some false
def E95_0 (i : Int) (b0_0 b0_1 b0_2 : LL) : St := ⟨(.dead :: (.ref 16000 1 0 0) :: .dead :: (i64 i) :: (d71 [])), [(16000, ⟨.box, 27, 3, [[(.ro 19 b0_0), (.ro 6 b0_1), (.ro 8 b0_2)]]⟩)]⟩
def X95_0 (b0_0 b0_1 b0_2 : LL) (k : KT) (t : Bool) : Option CR := bif t then k .ret ⟨(.dead :: .dead :: (bo false) :: (d72 [])), []⟩ else k (.exit 0) ⟨(.dead :: (.ref 16000 1 0 0) :: (d73 [])), [(16000, ⟨.box, 27, 3, [[(.ro 19 b0_0), (.ro 6 b0_1), (.ro 8 b0_2)]]⟩)]⟩
def ks95_0 : List SK := (.f .dead :: .f (.ref 16000 1 0 0) :: .f .dead :: .f (.int .i64) :: (f71 []))
noncomputable def Lm95_0 (s : St) (k : KT) : Option CR := bif chkS ks95_0 hs20_0 s then (G_r09_typed_0 (aRh s 0 0) (aRh s 0 1) (aRh s 0 2) FU (sI s 3)).bind (X95_0 (aRh s 0 0) (aRh s 0 1) (aRh s 0 2) k) else none
def W95_2 : Ex → List Bool
 | .ret => (false :: false :: true :: (e72 []))
 | .exit n => bif Nat.beq n 4 then (e75 []) else []
 | .normal => []
noncomputable def G_r09_typed_2 (b0_0 b0_1 b0_2 : LL) : Nat → Int → Option (Bool)
 | 0, _ => none
 | m + 1, i => bif (decide (i < (Int.ofNat b0_2.length))) then bif (decide (0 ≤ i)) then (b0_2[i.toNat]?).bind fun r => bif (chk y2 r) then (F_r09_needed b0_0 b0_1 b0_2 (roRows (AVal.ro 1 (cR r 1)))).bind fun t => bif (!t) then some true else
 G_r09_typed_2 b0_0 b0_1 b0_2 m (wr (i + 1)) else none else none else some false
def E95_2 (i : Int) (b0_0 b0_1 b0_2 : LL) : St := ⟨(.dead :: (.ref 16000 1 0 0) :: (d6 ((i64 i) :: (d66 [])))), [(16000, ⟨.box, 27, 3, [[(.ro 19 b0_0), (.ro 6 b0_1), (.ro 8 b0_2)]]⟩)]⟩
def X95_2 (k : KT) (t : Bool) : Option CR := bif t then k .ret ⟨(.dead :: .dead :: (bo false) :: (d72 [])), []⟩ else k (.exit 4) ⟨(d75 []), []⟩
def ks95_2 : List SK := (.f .dead :: .f (.ref 16000 1 0 0) :: (f6 (.f (.int .i64) :: (f66 []))))
noncomputable def Lm95_2 (s : St) (k : KT) : Option CR := bif chkS ks95_2 hs20_0 s then (G_r09_typed_2 (aRh s 0 0) (aRh s 0 1) (aRh s 0 2) FU (sI s 8)).bind (X95_2 k) else none
noncomputable def L95 : LT' := fun i s k => bif Nat.beq i 0 then (Lm95_0 (maskS (maskOf ks95_0) s) k) else bif Nat.beq i 2 then (Lm95_1 (maskS (maskOf ks95_1) s) k) else bif Nat.beq i 4 then (Lm95_2 (maskS (maskOf ks95_2) s) k) else none
noncomputable def F_r09_typed (zr zq zs : LL) : Option (Bool) := (G_r09_typed_0 zr zq zs FU 0).bind fun t => bif t then some false else (G_r09_typed_2 zr zq zs FU 0).bind fun t1 => bif t1 then some false else some true
noncomputable def A95 (us : List AVal) := F_r09_typed (aR us 0 0) (aR us 0 1) (aR us 0 2)
noncomputable def C95 := AI.ext 95 (SM ks20 A95 enc20) C147
@[reducible] noncomputable def B95_1 := bodyOf TT TU GL0 C147 ownF L95 (lp Tryz.f95 1)
theorem spec95_1 (k : KT) : ∀ (m : Nat) (i k1 : Int) (b0_0 b0_1 b0_2 : LL) (b1_0 : ByteArray) (b1_1 b1_2 : Bool) (b1_3 b1_4 b1_5 b1_6 b1_7 b1_8 b1_9 b1_10 b1_11 : Int) (b1_12 : ByteArray) (b1_13 b1_14 b1_15 : Int) (b1_16 b1_17 b1_18 : LL), loopN B95_1 m (E95_1 i k1 b0_0 b0_1 b0_2 b1_0 b1_1 b1_2 b1_3 b1_4 b1_5 b1_6 b1_7 b1_8 b1_9 b1_10 b1_11 b1_12 b1_13 b1_14 b1_15 b1_16 b1_17 b1_18) (KW W95_1 k) = (G_r09_typed_1 b0_0 b0_1 b0_2 b1_1 b1_17 m k1).bind (X95_1 i b0_0 b0_1 b0_2 k)
 | 0, _, _, _, _, _, _, _, _, _, _, _, _, _, _, _, _, _, _, _, _, _, _, _, _ => rfl
 | m + 1, i, k1, b0_0, b0_1, b0_2, b1_0, b1_1, b1_2, b1_3, b1_4, b1_5, b1_6, b1_7, b1_8, b1_9, b1_10, b1_11, b1_12, b1_13, b1_14, b1_15, b1_16, b1_17, b1_18 =>
 Eq.trans (by kernel_rfl) (nd rfl (nd rfl (nb fun r => (nd rfl (nb fun t => (nd rfl rfl (spec95_1 k m i (wr (k1 + 1)) b0_0 b0_1 b0_2 b1_0 b1_1 b1_2 b1_3 b1_4 b1_5 b1_6 b1_7 b1_8 b1_9 b1_10 b1_11 b1_12 b1_13 b1_14 b1_15 b1_16 b1_17 b1_18))) rfl)) rfl) rfl)
theorem okL95_1 : LoopOk TT TU GL0 C147 ownF L95 (lp Tryz.f95 1) :=
 loopOk_of ks95_1 hs95_1 W95_1 FU _ (fun s k => by kernel_rfl) (fun s k => spec95_1 k FU (sI s 3) (sI s 5) (aRh s 0 0) (aRh s 0 1) (aRh s 0 2) (aSh s 1 0) (aBh s 1 1) (aBh s 1 2) (aIh s 1 3) (aIh s 1 4) (aIh s 1 5) (aIh s 1 6) (aIh s 1 7) (aIh s 1 8) (aIh s 1 9) (aIh s 1 10) (aIh s 1 11) (aSh s 1 12) (aIh s 1 13) (aIh s 1 14) (aIh s 1 15) (aRh s 1 16) (aRh s 1 17) (aRh s 1 18))
@[reducible] noncomputable def B95_0 := bodyOf TT TU GL0 C147 ownF L95 (lp Tryz.f95 0)
theorem spec95_0 (k : KT) : ∀ (m : Nat) (i : Int) (b0_0 b0_1 b0_2 : LL), loopN B95_0 m (E95_0 i b0_0 b0_1 b0_2) (KW W95_0 k) = (G_r09_typed_0 b0_0 b0_1 b0_2 m i).bind (X95_0 b0_0 b0_1 b0_2 k)
 | 0, _, _, _, _ => rfl
 | m + 1, i, b0_0, b0_1, b0_2 =>
 Eq.trans (by kernel_rfl) (nd rfl (nd rfl (nb fun r => (nd rfl (nb fun t => (nd rfl rfl (nd rfl (nd rfl rfl (nb fun t1 => (nd rfl rfl (spec95_0 k m (wr (i + 1)) b0_0 b0_1 b0_2)))) (nb fun t2 => (nd rfl rfl (spec95_0 k m (wr (i + 1)) b0_0 b0_1 b0_2)))))) rfl)) rfl) rfl)
theorem okL95_0 : LoopOk TT TU GL0 C147 ownF L95 (lp Tryz.f95 0) :=
 loopOk_of ks95_0 hs20_0 W95_0 FU _ (fun s k => by kernel_rfl) (fun s k => spec95_0 k FU (sI s 3) (aRh s 0 0) (aRh s 0 1) (aRh s 0 2))
@[reducible] noncomputable def B95_2 := bodyOf TT TU GL0 C147 ownF L95 (lp Tryz.f95 2)
theorem spec95_2 (k : KT) : ∀ (m : Nat) (i : Int) (b0_0 b0_1 b0_2 : LL), loopN B95_2 m (E95_2 i b0_0 b0_1 b0_2) (KW W95_2 k) = (G_r09_typed_2 b0_0 b0_1 b0_2 m i).bind (X95_2 k)
 | 0, _, _, _, _ => rfl
 | m + 1, i, b0_0, b0_1, b0_2 =>
 Eq.trans (by kernel_rfl) (nd rfl (nd rfl (nb fun r => (nd rfl (nb fun t => (nd rfl rfl (spec95_2 k m (wr (i + 1)) b0_0 b0_1 b0_2))) rfl)) rfl) rfl)
theorem okL95_2 : LoopOk TT TU GL0 C147 ownF L95 (lp Tryz.f95 2) :=
 loopOk_of ks95_2 hs20_0 W95_2 FU _ (fun s k => by kernel_rfl) (fun s k => spec95_2 k FU (sI s 8) (aRh s 0 0) (aRh s 0 1) (aRh s 0 2))
theorem run95 (zr zq zs : LL) : fcall TT TU GL0 C147 ownF true L95 Tryz.f95 [(.agg [(.ro 19 zr), (.ro 6 zq), (.ro 8 zs)])] = (F_r09_typed zr zq zs).bind fun t => some (enc20 t) :=
 Eq.trans (by kernel_rfl) (nb fun t => (nd rfl rfl (nb fun t1 => (nd rfl rfl rfl))))
theorem lib95 : Lib Tryz.prog GL0 C95 :=
 LF lib147 Tryz.func95 (by decide +kernel) (by kernel_rfl) true L95 (loops_of 3 (by kernel_rfl) (belowS (belowS (belowS below0 okL95_0) okL95_1) okL95_2)) (fun us => run95 _ _ _) (fun t => rfl)
noncomputable def G_r09_Tech_0 (name : ByteArray) (b0_2 : LL) : Nat → Int → Option (Bool × ByteArray × LL × Int × Int × Int × ByteArray × Int × Int)
 | 0, _ => none
 | m + 1, i => bif (decide (i < (Int.ofNat b0_2.length))) then bif (decide (0 ≤ i)) then (b0_2[i.toNat]?).bind fun r => bif (chk y2 r) then bif (List.beq (ByteArray.toList (cS r 0)) (ByteArray.toList name)) then (b0_2[i.toNat]?).bind fun r1 => bif (chk y2 r1) then some (true, (cS r1 0), (cR r1 1), (cI r1 2), (cI r1 3), (cI r1 4), (cS r1 5), (cI r1 6), (cI r1 7)) else none else
 G_r09_Tech_0 name b0_2 m (wr (i + 1)) else none else none else some (false, ⟨#[]⟩, [], 0, 0, 0, ⟨#[]⟩, 0, 0)
def E152_0 (name : ByteArray) (i : Int) (b0_0 b0_1 b0_2 : LL) (b1_0 : ByteArray) (b1_2 b1_3 b1_4 : Int) (b1_5 : ByteArray) (b1_6 b1_7 : Int) : St := ⟨(.dead :: (.sc (.string name)) :: (.ref 16000 1 0 0) :: .dead :: (.ref 16016 1 0 0) :: .dead :: (i64 i) :: (d21 [])), [(16000, ⟨.box, 27, 3, [[(.ro 19 b0_0), (.ro 6 b0_1), (.ro 8 b0_2)]]⟩), (16016, ⟨.box, 98, 8, [[(.sc (.string b1_0)), .emp, (i64 b1_2), (i64 b1_3), (i64 b1_4), (.sc (.string b1_5)), (i64 b1_6), (i64 b1_7)]]⟩)]⟩
def X152_0 (b1_0 : ByteArray) (b1_2 b1_3 b1_4 : Int) (b1_5 : ByteArray) (b1_6 b1_7 : Int) (k : KT) (t : Bool × ByteArray × LL × Int × Int × Int × ByteArray × Int × Int) : Option CR := bif t.1 then k .ret ⟨(d4 ((.ref 16016 1 0 0) :: (bo true) :: (d22 []))), [(16016, ⟨.box, 98, 8, [[(.sc (.string t.2.1)), (.ro 1 t.2.2.1), (.sc (.int .i64 t.2.2.2.1)), (.sc (.int .i64 t.2.2.2.2.1)), (.sc (.int .i64 t.2.2.2.2.2.1)), (.sc (.string t.2.2.2.2.2.2.1)), (.sc (.int .i64 t.2.2.2.2.2.2.2.1)), (.sc (.int .i64 t.2.2.2.2.2.2.2.2))]]⟩)]⟩ else k (.exit 0) ⟨(d4 ((.ref 16016 1 0 0) :: (d23 []))), [(16016, ⟨.box, 98, 8, [[(.sc (.string b1_0)), .emp, (i64 b1_2), (i64 b1_3), (i64 b1_4), (.sc (.string b1_5)), (i64 b1_6), (i64 b1_7)]]⟩)]⟩
def hs152_0 : List HK := [⟨16000, .box, 27, 3, some [.ro 19, .ro 6, .ro 8]⟩, ⟨16016, .box, 98, 8, some [.str, .emp, .int .i64, .int .i64, .int .i64, .str, .int .i64, .int .i64]⟩]
noncomputable def Lm152_0 (s : St) (k : KT) : Option CR := bif chkS ks19_0 hs152_0 s then (G_r09_Tech_0 (sS s 1) (aRh s 0 2) FU (sI s 6)).bind (X152_0 (aSh s 1 0) (aIh s 1 2) (aIh s 1 3) (aIh s 1 4) (aSh s 1 5) (aIh s 1 6) (aIh s 1 7) k) else none
noncomputable def L152 : LT' := fun i s k => bif Nat.beq i 0 then (Lm152_0 (maskS (maskOf ks19_0) s) k) else none
noncomputable def F_r09_Tech (zr zq zs : LL) (name : ByteArray) : Option (ByteArray × LL × Int × Int × Int × ByteArray × Int × Int × Bool) := (G_r09_Tech_0 name zs FU 0).bind fun t => bif t.1 then some (t.2.1, t.2.2.1, t.2.2.2.1, t.2.2.2.2.1, t.2.2.2.2.2.1, t.2.2.2.2.2.2.1, t.2.2.2.2.2.2.2.1, t.2.2.2.2.2.2.2.2, true) else some ((ByteArray.mk (Array.mk [])), [], 0, 0, 0, (ByteArray.mk (Array.mk [])), 0, 0, false)
def enc152 (t : ByteArray × LL × Int × Int × Int × ByteArray × Int × Int × Bool) : CR := ⟨true, (.tup [(.agg [(.sc (.string t.1)), (.ro 1 t.2.1), (.sc (.int .i64 t.2.2.1)), (.sc (.int .i64 t.2.2.2.1)), (.sc (.int .i64 t.2.2.2.2.1)), (.sc (.string t.2.2.2.2.2.1)), (.sc (.int .i64 t.2.2.2.2.2.2.1)), (.sc (.int .i64 t.2.2.2.2.2.2.2.1))]), (.sc (.bool t.2.2.2.2.2.2.2.2))]), [], []⟩
noncomputable def A152 (us : List AVal) := F_r09_Tech (aR us 0 0) (aR us 0 1) (aR us 0 2) (toS (cIa us 1))
noncomputable def C152 := AI.ext 152 (SM ks19 A152 enc152) C95
@[reducible] noncomputable def B152_0 := bodyOf TT TU GL0 C95 ownF L152 (lp Tryz.f152 0)
theorem spec152_0 (k : KT) : ∀ (m : Nat) (name : ByteArray) (i : Int) (b0_0 b0_1 b0_2 : LL) (b1_0 : ByteArray) (b1_2 b1_3 b1_4 : Int) (b1_5 : ByteArray) (b1_6 b1_7 : Int), loopN B152_0 m (E152_0 name i b0_0 b0_1 b0_2 b1_0 b1_2 b1_3 b1_4 b1_5 b1_6 b1_7) (KW W19_0 k) = (G_r09_Tech_0 name b0_2 m i).bind (X152_0 b1_0 b1_2 b1_3 b1_4 b1_5 b1_6 b1_7 k)
 | 0, _, _, _, _, _, _, _, _, _, _, _, _ => rfl
 | m + 1, name, i, b0_0, b0_1, b0_2, b1_0, b1_2, b1_3, b1_4, b1_5, b1_6, b1_7 =>
 Eq.trans (by kernel_rfl) (nd rfl (nc rfl (fun h1 => (nb fun r => (nd rfl (nd rfl (nu h1 (nb fun r1 => (nd rfl rfl rfl))) (spec152_0 k m name (wr (i + 1)) b0_0 b0_1 b0_2 b1_0 b1_2 b1_3 b1_4 b1_5 b1_6 b1_7)) rfl))) fun h1 => rfl) rfl)
theorem okL152_0 : LoopOk TT TU GL0 C95 ownF L152 (lp Tryz.f152 0) :=
 loopOk_of ks19_0 hs152_0 W19_0 FU _ (fun s k => by kernel_rfl) (fun s k => spec152_0 k FU (sS s 1) (sI s 6) (aRh s 0 0) (aRh s 0 1) (aRh s 0 2) (aSh s 1 0) (aIh s 1 2) (aIh s 1 3) (aIh s 1 4) (aSh s 1 5) (aIh s 1 6) (aIh s 1 7))
theorem run152 (zr zq zs : LL) (name : ByteArray) : fcall TT TU GL0 C95 ownF false L152 Tryz.f152 [(.agg [(.ro 19 zr), (.ro 6 zq), (.ro 8 zs)]), (.sc (.string name))] = (F_r09_Tech zr zq zs name).bind fun t => some (enc152 t) :=
 Eq.trans (by kernel_rfl) (nb fun t => (nd rfl rfl rfl))
theorem lib152 : Lib Tryz.prog GL0 C152 :=
 LF lib95 Tryz.func152 (by decide +kernel) (by kernel_rfl) false L152 (loops_of 1 (by kernel_rfl) (belowS below0 okL152_0)) (fun us => run152 _ _ _ _) (fun t => rfl)
noncomputable def F_r09_Needs (zr zq zs : LL) (name : ByteArray) : Option (LL) := (F_r09_Unit zr zq zs name).bind fun t => bif t.2.2.2.2.2.2.2.2.2.2.2.2.2.2.2.2.2.2.2 then some t.2.2.2.2.2.2.2.2.2.2.2.2.2.2.2.2.1 else (F_r09_Tech zr zq zs name).bind fun t1 => some t1.2.1
def enc148 (t : LL) : CR := ⟨true, (.ro 1 t), [], []⟩
noncomputable def A148 (us : List AVal) := F_r09_Needs (aR us 0 0) (aR us 0 1) (aR us 0 2) (toS (cIa us 1))
noncomputable def C148 := AI.ext 148 (SM ks19 A148 enc148) C152
theorem run148 (zr zq zs : LL) (name : ByteArray) : fcall TT TU GL0 C152 ownF false noL Tryz.f148 [(.agg [(.ro 19 zr), (.ro 6 zq), (.ro 8 zs)]), (.sc (.string name))] = (F_r09_Needs zr zq zs name).bind fun t => some (enc148 t) :=
 Eq.trans (by kernel_rfl) (nb fun t => (nd rfl rfl (nb fun t1 => rfl)))
theorem lib148 : Lib Tryz.prog GL0 C148 :=
 LF lib152 Tryz.func148 (by decide +kernel) (by kernel_rfl) false noL (loops_of 0 (by kernel_rfl) below0) (fun us => run148 _ _ _ _) (fun t => rfl)
def W96_0 : Ex → List Bool
 | .ret => (false :: false :: true :: (e55 []))
 | .exit n => bif Nat.beq n 0 then (false :: false :: true :: (e55 [])) else []
 | .normal => []
def W96_1 : Ex → List Bool
 | .ret => (false :: false :: true :: (e55 []))
 | .exit n => bif Nat.beq n 2 then (false :: true :: false :: true :: true :: true :: (e52 [])) else bif Nat.beq n 1 then (false :: true :: false :: true :: true :: (e53 [])) else bif Nat.beq n 0 then (false :: false :: true :: (e55 [])) else []
 | .normal => []
noncomputable def G_r09_sequence_1 (R1 R2 b0_0 b0_1 b0_2 : LL) : Nat → ByteArray → Int → Option (ByteArray)
 | 0, _, _ => none
 | m + 1, best, i => bif (decide (i < (Int.ofNat R1.length))) then bif ((decide (0 ≤ i)) && (decide (i < (Int.ofNat R1.length)))) then (R1[i.toNat]?).bind fun r => bif (chk [LT.str] r) then (F_r09_Has R2 (cS r 0)).bind fun t => bif (!t) then (R1[i.toNat]?).bind fun r1 => bif (chk [LT.str] r1) then (F_r09_Needs b0_0 b0_1 b0_2 (cS r1 0)).bind fun t1 => (F_r09_all t1 R2).bind fun t2 => bif t2 then bif (List.beq (ByteArray.toList best) (ByteArray.toList (ByteArray.mk (Array.mk [])))) then (R1[i.toNat]?).bind fun r2 => bif (chk [LT.str] r2) then
 G_r09_sequence_1 R1 R2 b0_0 b0_1 b0_2 m (cS r2 0) (wr (i + 1)) else none else (R1[i.toNat]?).bind fun r3 => bif (chk [LT.str] r3) then bif (Op.bytesLess (ByteArray.toList (cS r3 0)) (ByteArray.toList best)) then (R1[i.toNat]?).bind fun r4 => bif (chk [LT.str] r4) then
 G_r09_sequence_1 R1 R2 b0_0 b0_1 b0_2 m (cS r4 0) (wr (i + 1)) else none else
 G_r09_sequence_1 R1 R2 b0_0 b0_1 b0_2 m best (wr (i + 1)) else none else
 G_r09_sequence_1 R1 R2 b0_0 b0_1 b0_2 m best (wr (i + 1)) else none else
 G_r09_sequence_1 R1 R2 b0_0 b0_1 b0_2 m best (wr (i + 1)) else none else none else some best
def E96_1 (R1 R2 : LL) (best : ByteArray) (i : Int) (b0_0 b0_1 b0_2 : LL) : St := ⟨(.dead :: (.ref 16000 1 0 0) :: .dead :: (.slc 19216 (R1).length) :: (.slc 22400 (R2).length) :: (.sc (.string best)) :: (i64 i) :: (d51 [])), [(16000, ⟨.box, 27, 3, [[(.ro 19 b0_0), (.ro 6 b0_1), (.ro 8 b0_2)]]⟩), (19216, ⟨.arr, 9, 1, R1⟩), (22400, ⟨.arr, 9, 1, R2⟩)]⟩
def X96_1 (R1 R2 b0_0 b0_1 b0_2 : LL) (k : KT) (t : ByteArray) : Option CR := k (.exit 2) ⟨(.dead :: (.ref 16000 1 0 0) :: .dead :: (.slc 19216 (R1).length) :: (.slc 22400 (R2).length) :: (.sc (.string t)) :: (d52 [])), [(16000, ⟨.box, 27, 3, [[(.ro 19 b0_0), (.ro 6 b0_1), (.ro 8 b0_2)]]⟩), (19216, ⟨.arr, 9, 1, R1⟩), (22400, ⟨.arr, 9, 1, R2⟩)]⟩
def ks96_1 : List SK := (.f .dead :: .f (.ref 16000 1 0 0) :: .f .dead :: .f (.slc 19216 1) :: .f (.slc 22400 2) :: .f (.str) :: .f (.int .i64) :: (f51 []))
noncomputable def Lm96_1 (s : St) (k : KT) : Option CR := bif chkS ks96_1 hs94_1 s then (G_r09_sequence_1 (blkAt s.heap 1).2.rows (blkAt s.heap 2).2.rows (aRh s 0 0) (aRh s 0 1) (aRh s 0 2) FU (sS s 5) (sI s 6)).bind (X96_1 (blkAt s.heap 1).2.rows (blkAt s.heap 2).2.rows (aRh s 0 0) (aRh s 0 1) (aRh s 0 2) k) else none
noncomputable def G_r09_sequence_0 (R1 b0_0 b0_1 b0_2 : LL) : Nat → LL → Option (LL)
 | 0, _ => none
 | m + 1, R2 => (G_r09_sequence_1 R1 R2 b0_0 b0_1 b0_2 FU (ByteArray.mk (Array.mk [])) 0).bind fun t => bif (List.beq (ByteArray.toList t) (ByteArray.toList (ByteArray.mk (Array.mk [])))) then some R2 else bif (roomOk (R2.length + 1) 16) then
 G_r09_sequence_0 R1 b0_0 b0_1 b0_2 m (R2 ++ [[(AVal.sc (Value.string t))]]) else none
def E96_0 (R1 R2 b0_0 b0_1 b0_2 : LL) : St := ⟨(.dead :: (.ref 16000 1 0 0) :: .dead :: (.slc 19216 (R1).length) :: (.slc 22400 (R2).length) :: (d53 [])), [(16000, ⟨.box, 27, 3, [[(.ro 19 b0_0), (.ro 6 b0_1), (.ro 8 b0_2)]]⟩), (19216, ⟨.arr, 9, 1, R1⟩), (22400, ⟨.arr, 9, 1, R2⟩)]⟩
def X96_0 (k : KT) (t : LL) : Option CR := k .ret ⟨(.dead :: .dead :: (.slc 22400 (t).length) :: (d55 [])), [(22400, ⟨.arr, 9, 1, t⟩)]⟩
def ks96_0 : List SK := (.f .dead :: .f (.ref 16000 1 0 0) :: .f .dead :: .f (.slc 19216 1) :: .f (.slc 22400 2) :: (f53 []))
noncomputable def Lm96_0 (s : St) (k : KT) : Option CR := bif chkS ks96_0 hs94_1 s then (G_r09_sequence_0 (blkAt s.heap 1).2.rows (aRh s 0 0) (aRh s 0 1) (aRh s 0 2) FU (blkAt s.heap 2).2.rows).bind (X96_0 k) else none
noncomputable def L96 : LT' := fun i s k => bif Nat.beq i 0 then (Lm96_0 (maskS (maskOf ks96_0) s) k) else bif Nat.beq i 2 then (Lm96_1 (maskS (maskOf ks96_1) s) k) else none
noncomputable def F_r09_sequence (zr zq zs : LL) : Option (LL) := (F_r09_Units zr zq zs).bind fun t => (F_r09_Techs zr zq zs).bind fun t1 => bif (roomOk (t.length + t1.length) 16) then (G_r09_sequence_0 (Blk.rows (Blk.mk BKind.arr 9 1 (t ++ t1))) zr zq zs FU []).bind fun t2 => some t2 else none
noncomputable def A96 (us : List AVal) := F_r09_sequence (aR us 0 0) (aR us 0 1) (aR us 0 2)
noncomputable def C96 := AI.ext 96 (SM ks20 A96 enc139) C148
@[reducible] noncomputable def B96_1 := bodyOf TT TU GL0 C148 ownF L96 (lp Tryz.f96 1)
theorem spec96_1 (k : KT) : ∀ (m : Nat) (R1 R2 : LL) (best : ByteArray) (i : Int) (b0_0 b0_1 b0_2 : LL), loopN B96_1 m (E96_1 R1 R2 best i b0_0 b0_1 b0_2) (KW W96_1 k) = (G_r09_sequence_1 R1 R2 b0_0 b0_1 b0_2 m best i).bind (X96_1 R1 R2 b0_0 b0_1 b0_2 k)
 | 0, _, _, _, _, _, _, _ => rfl
 | m + 1, R1, R2, best, i, b0_0, b0_1, b0_2 =>
 Eq.trans (by kernel_rfl) (nu (vr R1) (nd rfl (nc (show ((((verEq R1.length R1.length) && (decide (0 ≤ i))) && (decide (i < (Int.ofNat R1.length))))) = _ from (n_and (n_andL (verEq_rfl _) rfl) rfl)) (fun h1 => (nu (vr R1) (nb fun r => (nd rfl (nu (vr R2) (nb fun t => (nd rfl (nu (show (((verEq R1.length R1.length) && (decide (0 ≤ i))) && (decide (i < (Int.ofNat R1.length)))) = true from (n_andL (n_andL (verEq_rfl _) (n_al h1)) (n_ar h1))) (nu (vr R1) (nb fun r1 => (nd rfl (nb fun t1 => (nu (vr R2) (nb fun t2 => (nd rfl (nd rfl (nu (show (((verEq R1.length R1.length) && (decide (0 ≤ i))) && (decide (i < (Int.ofNat R1.length)))) = true from (n_andL (n_andL (verEq_rfl _) (n_al h1)) (n_ar h1))) (nu (vr R1) (nb fun r2 => (nd rfl (spec96_1 k m R1 R2 (cS r2 0) (wr (i + 1)) b0_0 b0_1 b0_2) rfl)))) (nu (show (((verEq R1.length R1.length) && (decide (0 ≤ i))) && (decide (i < (Int.ofNat R1.length)))) = true from (n_andL (n_andL (verEq_rfl _) (n_al h1)) (n_ar h1))) (nu (vr R1) (nb fun r3 => (nd rfl (nd rfl (nu (show (((verEq R1.length R1.length) && (decide (0 ≤ i))) && (decide (i < (Int.ofNat R1.length)))) = true from (n_andL (n_andL (verEq_rfl _) (n_al h1)) (n_ar h1))) (nu (vr R1) (nb fun r4 => (nd rfl (spec96_1 k m R1 R2 (cS r4 0) (wr (i + 1)) b0_0 b0_1 b0_2) rfl)))) (spec96_1 k m R1 R2 best (wr (i + 1)) b0_0 b0_1 b0_2)) rfl))))) (spec96_1 k m R1 R2 best (wr (i + 1)) b0_0 b0_1 b0_2))))) rfl)))) (spec96_1 k m R1 R2 best (wr (i + 1)) b0_0 b0_1 b0_2)))) rfl)))) fun h1 => rfl) rfl))
theorem okL96_1 : LoopOk TT TU GL0 C148 ownF L96 (lp Tryz.f96 1) :=
 loopOk_of ks96_1 hs94_1 W96_1 FU _ (fun s k => by kernel_rfl) (fun s k => spec96_1 k FU (blkAt s.heap 1).2.rows (blkAt s.heap 2).2.rows (sS s 5) (sI s 6) (aRh s 0 0) (aRh s 0 1) (aRh s 0 2))
@[reducible] noncomputable def B96_0 := bodyOf TT TU GL0 C148 ownF L96 (lp Tryz.f96 0)
theorem spec96_0 (k : KT) : ∀ (m : Nat) (R1 R2 b0_0 b0_1 b0_2 : LL), loopN B96_0 m (E96_0 R1 R2 b0_0 b0_1 b0_2) (KW W96_0 k) = (G_r09_sequence_0 R1 b0_0 b0_1 b0_2 m R2).bind (X96_0 k)
 | 0, _, _, _, _, _ => rfl
 | m + 1, R1, R2, b0_0, b0_1, b0_2 =>
 Eq.trans (by kernel_rfl) (nu (show (((true && (verEq R1.length (blkLen [(Prod.mk 16000 (Blk.mk BKind.box 27 3 [[(AVal.ro 19 b0_0), (AVal.ro 6 b0_1), (AVal.ro 8 b0_2)]])), (Prod.mk 19216 (Blk.mk BKind.arr 9 1 R1)), (Prod.mk 22400 (Blk.mk BKind.arr 9 1 R2))] 1))) && ((true && (verEq R2.length (blkLen [(Prod.mk 16000 (Blk.mk BKind.box 27 3 [[(AVal.ro 19 b0_0), (AVal.ro 6 b0_1), (AVal.ro 8 b0_2)]])), (Prod.mk 19216 (Blk.mk BKind.arr 9 1 R1)), (Prod.mk 22400 (Blk.mk BKind.arr 9 1 R2))] 2))) && true)) && true) = true from (n_andL (n_andL (n_andL rfl (by first | exact verEq_of rfl | simp [verEq, blkLen, blkAt])) (n_andL (n_andL rfl (by first | exact verEq_of rfl | simp [verEq, blkLen, blkAt])) rfl)) rfl)) (nb fun t => (nd rfl rfl (nd (show ((((verEq R2.length R2.length) && true) && (roomOk (R2.length + 1) 16))) = _ from (n_andL (n_andL (verEq_rfl _) rfl) rfl)) (spec96_0 k m R1 (R2 ++ [[(AVal.sc (Value.string t))]]) b0_0 b0_1 b0_2) rfl))))
theorem okL96_0 : LoopOk TT TU GL0 C148 ownF L96 (lp Tryz.f96 0) :=
 loopOk_of ks96_0 hs94_1 W96_0 FU _ (fun s k => by kernel_rfl) (fun s k => spec96_0 k FU (blkAt s.heap 1).2.rows (blkAt s.heap 2).2.rows (aRh s 0 0) (aRh s 0 1) (aRh s 0 2))
theorem run96 (zr zq zs : LL) : fcall TT TU GL0 C148 ownF true L96 Tryz.f96 [(.agg [(.ro 19 zr), (.ro 6 zq), (.ro 8 zs)])] = (F_r09_sequence zr zq zs).bind fun t => some (enc139 t) :=
 Eq.trans (by kernel_rfl) (nb fun t => (nu (v4 t.length) (nb fun t1 => (nu (v4 t1.length) (nu (vr t1) (nd (show ((((verEq t.length t.length) && true) && (roomOk (t.length + t1.length) 16))) = _ from (n_andL (n_andL (verEq_rfl _) rfl) rfl)) (nu (show (((true && (verEq (t ++ t1).length (blkLen [(Prod.mk 16000 (Blk.mk BKind.box 27 3 [[(AVal.ro 19 zr), (AVal.ro 6 zq), (AVal.ro 8 zs)]])), (Prod.mk 19216 (Blk.mk BKind.arr 9 1 (t ++ t1))), (Prod.mk 22400 (Blk.mk BKind.arr 9 1 []))] 1))) && true) && true) = true from (n_andL (n_andL (n_andL rfl (by first | exact verEq_of rfl | simp [verEq, blkLen, blkAt])) rfl) rfl)) (nb fun t2 => (nu (vr t2) rfl))) rfl))))))
theorem lib96 : Lib Tryz.prog GL0 C96 :=
 LF lib148 Tryz.func96 (by decide +kernel) (by kernel_rfl) true L96 (loops_of 2 (by kernel_rfl) (belowS (belowS below0 okL96_0) okL96_1)) (fun us => run96 _ _ _) (fun t => rfl)
def W45_0 : Ex → List Bool
 | .ret => (false :: false :: true :: (e55 []))
 | .exit n => bif Nat.beq n 1 then (false :: true :: (e56 [])) else []
 | .normal => []
noncomputable def G_r09_Validate_0 (R1 b0_0 : LL) : Nat → Int → Option (Bool)
 | 0, _ => none
 | m + 1, i => bif (decide (i < (Int.ofNat b0_0.length))) then bif (decide (0 ≤ i)) then (b0_0[i.toNat]?).bind fun r => bif (chk y0 r) then (F_r09_Has R1 (cS r 0)).bind fun t => bif t then some true else
 G_r09_Validate_0 R1 b0_0 m (wr (i + 1)) else none else none else some false
def E45_0 (R1 : LL) (i : Int) (b0_0 b0_1 b0_2 : LL) : St := ⟨(.dead :: (.ref 16000 1 0 0) :: .dead :: (.slc 38416 (R1).length) :: (i64 i) :: (d53 [])), [(16000, ⟨.box, 27, 3, [[(.ro 19 b0_0), (.ro 6 b0_1), (.ro 8 b0_2)]]⟩), (38416, ⟨.arr, 9, 1, R1⟩)]⟩
def X45_0 (b0_0 b0_1 b0_2 : LL) (k : KT) (t : Bool) : Option CR := bif t then k .ret ⟨(.dead :: .dead :: (.sc (.int .i64 7)) :: (d55 [])), []⟩ else k (.exit 1) ⟨(.dead :: (.ref 16000 1 0 0) :: (d56 [])), [(16000, ⟨.box, 27, 3, [[(.ro 19 b0_0), (.ro 6 b0_1), (.ro 8 b0_2)]]⟩)]⟩
def ks45_0 : List SK := (.f .dead :: .f (.ref 16000 1 0 0) :: .f .dead :: .f (.slc 38416 1) :: .f (.int .i64) :: (f53 []))
def hs45_0 : List HK := [⟨16000, .box, 27, 3, some [.ro 19, .ro 6, .ro 8]⟩, ⟨38416, .arr, 9, 1, none⟩]
noncomputable def Lm45_0 (s : St) (k : KT) : Option CR := bif chkS ks45_0 hs45_0 s then (G_r09_Validate_0 (blkAt s.heap 1).2.rows (aRh s 0 0) FU (sI s 4)).bind (X45_0 (aRh s 0 0) (aRh s 0 1) (aRh s 0 2) k) else none
noncomputable def L45 : LT' := fun i s k => bif Nat.beq i 1 then (Lm45_0 (maskS (maskOf ks45_0) s) k) else none
noncomputable def F_r09_Validate (zr zq zs : LL) : Option (Int) := (F_r09_limits zr zq zs).bind fun t => bif (!t) then some 2 else (F_r09_named zr zq zs).bind fun t1 => bif (!t1) then some 6 else (F_r09_ordered zr zq zs).bind fun t2 => bif (!t2) then some 13 else (F_r09_Techs zr zq zs).bind fun t3 => (G_r09_Validate_0 t3 zr FU 0).bind fun t4 => bif t4 then some 7 else (F_r09_numbers zr zq zs).bind fun t5 => bif (!t5) then some 1 else (F_r09_found zr zq zs).bind fun t6 => bif (!t6) then some 8 else (F_r09_typed zr zq zs).bind fun t7 => bif (!t7) then some 18 else (F_r09_sequence zr zq zs).bind fun t8 => bif (decide ((Int.ofNat t8.length) < (wr ((Int.ofNat zr.length) + (Int.ofNat zs.length))))) then some 14 else some 0
noncomputable def A45 (us : List AVal) := F_r09_Validate (aR us 0 0) (aR us 0 1) (aR us 0 2)
noncomputable def C45 := AI.ext 45 (SM ks20 A45 enc44) C96
@[reducible] noncomputable def B45_0 := bodyOf TT TU GL0 C96 ownF L45 (lp Tryz.f45 0)
theorem spec45_0 (k : KT) : ∀ (m : Nat) (R1 : LL) (i : Int) (b0_0 b0_1 b0_2 : LL), loopN B45_0 m (E45_0 R1 i b0_0 b0_1 b0_2) (KW W45_0 k) = (G_r09_Validate_0 R1 b0_0 m i).bind (X45_0 b0_0 b0_1 b0_2 k)
 | 0, _, _, _, _, _ => rfl
 | m + 1, R1, i, b0_0, b0_1, b0_2 =>
 Eq.trans (by kernel_rfl) (nd rfl (nd rfl (nb fun r => (nd rfl (nu (vr R1) (nb fun t => (nd rfl rfl (spec45_0 k m R1 (wr (i + 1)) b0_0 b0_1 b0_2)))) rfl)) rfl) rfl)
theorem okL45_0 : LoopOk TT TU GL0 C96 ownF L45 (lp Tryz.f45 0) :=
 loopOk_of ks45_0 hs45_0 W45_0 FU _ (fun s k => by kernel_rfl) (fun s k => spec45_0 k FU (blkAt s.heap 1).2.rows (sI s 4) (aRh s 0 0) (aRh s 0 1) (aRh s 0 2))
theorem run45 (zr zq zs : LL) : fcall TT TU GL0 C96 ownF true L45 Tryz.f45 [(.agg [(.ro 19 zr), (.ro 6 zq), (.ro 8 zs)])] = (F_r09_Validate zr zq zs).bind fun t => some (enc44 t) :=
 Eq.trans (by kernel_rfl) (nb fun t => (nd rfl rfl (nb fun t1 => (nd rfl rfl (nb fun t2 => (nd rfl rfl (nb fun t3 => (nu (v4 t3.length) (nu (show (((true && (verEq t3.length (blkLen [(Prod.mk 16000 (Blk.mk BKind.box 27 3 [[(AVal.ro 19 zr), (AVal.ro 6 zq), (AVal.ro 8 zs)]])), (Prod.mk 38416 (Blk.mk BKind.arr 9 1 t3))] 1))) && true) && true) = true from (n_andL (n_andL (n_andL rfl (by first | exact verEq_of rfl | simp [verEq, blkLen, blkAt])) rfl) rfl)) (nb fun t4 => (nd rfl rfl (nb fun t5 => (nd rfl rfl (nb fun t6 => (nd rfl rfl (nb fun t7 => (nd rfl rfl (nb fun t8 => (nu (v4 t8.length) (nu (vr t8) (nd rfl rfl rfl)))))))))))))))))))))
theorem lib45 : Lib Tryz.prog GL0 C45 :=
 LF lib96 Tryz.func45 (by decide +kernel) (by kernel_rfl) true L45 (loops_of 1 (by kernel_rfl) (belowS below0 okL45_0)) (fun us => run45 _ _ _) (fun t => rfl)
noncomputable def F_r06_Valid (w h : Int) : Option (Bool) := bif (decide (w ≥ 1)) then bif (decide (w ≤ 32)) then bif (decide (h ≥ 1)) then some (decide (h ≤ 32)) else some false else some false else some false
def ks149 : List SK := [.f (.int .i64), .f (.int .i64)]
noncomputable def A149 (us : List AVal) := F_r06_Valid (toI (cIa us 0)) (toI (cIa us 1))
noncomputable def C149 := AI.ext 149 (SM ks149 A149 enc20) C45
theorem run149 (w h : Int) : fcall TT TU GL0 C45 ownF true noL Tryz.f149 [(i64 w), (i64 h)] = (F_r06_Valid w h).bind fun t => some (enc20 t) :=
 Eq.trans (by kernel_rfl) (nd rfl (nd rfl (nd rfl rfl rfl) rfl) rfl)
theorem lib149 : Lib Tryz.prog GL0 C149 :=
 LF lib45 Tryz.func149 (by decide +kernel) (by kernel_rfl) true noL (loops_of 0 (by kernel_rfl) below0) (fun us => run149 _ _) (fun t => rfl)
noncomputable def F_r07_Formed (zL zN : Int) (zu : LL) : Option (Bool) := (F_r06_Valid zL zN).bind fun t => bif t then some ((Int.ofNat zu.length) == (wr (zL * zN))) else some false
def ks97 : List SK := [.agg [.int .i64, .int .i64, .ro 3]]
noncomputable def A97 (us : List AVal) := F_r07_Formed (aI us 0 0) (aI us 0 1) (aR us 0 2)
noncomputable def C97 := AI.ext 97 (SM ks97 A97 enc20) C149
theorem run97 (zL zN : Int) (zu : LL) : fcall TT TU GL0 C149 ownF true noL Tryz.f97 [(.agg [(i64 zL), (i64 zN), (.ro 3 zu)])] = (F_r07_Formed zL zN zu).bind fun t => some (enc20 t) :=
 Eq.trans (by kernel_rfl) (nb fun t => (nd rfl rfl rfl))
theorem lib97 : Lib Tryz.prog GL0 C97 :=
 LF lib149 Tryz.func97 (by decide +kernel) (by kernel_rfl) true noL (loops_of 0 (by kernel_rfl) below0) (fun us => run97 _ _ _) (fun t => rfl)
noncomputable def F_r07_ValidCell (zP zM zK : Int) : Option (Bool) := bif (decide (zP < 1)) then some false else bif (decide (zP > 5)) then some false else bif (decide (zM < 0)) then some false else bif (decide (zM > 3)) then some false else bif (decide (zK < 0)) then some false else bif (decide (zK > 1000000)) then some false else bif (zP == 4) then some ((decide (zK > 0)) == true) else some ((decide (zK > 0)) == (zP == 5))
def ks98 : List SK := [.agg [.int .i64, .int .i64, .int .i64]]
noncomputable def A98 (us : List AVal) := F_r07_ValidCell (aI us 0 0) (aI us 0 1) (aI us 0 2)
noncomputable def C98 := AI.ext 98 (SM ks98 A98 enc20) C97
theorem run98 (zP zM zK : Int) : fcall TT TU GL0 C97 ownF true noL Tryz.f98 [(.agg [(i64 zP), (i64 zM), (i64 zK)])] = (F_r07_ValidCell zP zM zK).bind fun t => some (enc20 t) :=
 Eq.trans (by kernel_rfl) (nd rfl rfl (nd rfl rfl (nd rfl rfl (nd rfl rfl (nd rfl rfl (nd rfl rfl (nd rfl rfl rfl)))))))
theorem lib98 : Lib Tryz.prog GL0 C98 :=
 LF lib97 Tryz.func98 (by decide +kernel) (by kernel_rfl) true noL (loops_of 0 (by kernel_rfl) below0) (fun us => run98 _ _ _) (fun t => rfl)
def W46_0 : Ex → List Bool
 | .ret => (false :: false :: true :: (e18 []))
 | .exit n => bif Nat.beq n 0 then (e21 []) else []
 | .normal => []
noncomputable def G_r07_Valid_0 (b0_2 : LL) : Nat → Int → Option (Bool)
 | 0, _ => none
 | m + 1, i => bif (decide (i < (Int.ofNat b0_2.length))) then bif (decide (0 ≤ i)) then (b0_2[i.toNat]?).bind fun r => bif (chk y3 r) then (F_r07_ValidCell (cI r 0) (cI r 1) (cI r 2)).bind fun t => bif (!t) then some true else
 G_r07_Valid_0 b0_2 m (wr (i + 1)) else none else none else some false
def E46_0 (i b0_0 b0_1 : Int) (b0_2 : LL) : St := ⟨(.dead :: (.ref 16000 1 0 0) :: .dead :: (i64 i) :: (d17 [])), [(16000, ⟨.box, 30, 3, [[(i64 b0_0), (i64 b0_1), (.ro 3 b0_2)]]⟩)]⟩
def X46_0 (k : KT) (t : Bool) : Option CR := bif t then k .ret ⟨(.dead :: .dead :: (bo false) :: (d18 [])), []⟩ else k (.exit 0) ⟨(d21 []), []⟩
def ks46_0 : List SK := (.f .dead :: .f (.ref 16000 1 0 0) :: .f .dead :: .f (.int .i64) :: (f17 []))
def hs46_0 : List HK := [⟨16000, .box, 30, 3, some [.int .i64, .int .i64, .ro 3]⟩]
noncomputable def Lm46_0 (s : St) (k : KT) : Option CR := bif chkS ks46_0 hs46_0 s then (G_r07_Valid_0 (aRh s 0 2) FU (sI s 3)).bind (X46_0 k) else none
noncomputable def L46 : LT' := fun i s k => bif Nat.beq i 0 then (Lm46_0 (maskS (maskOf ks46_0) s) k) else none
noncomputable def F_r07_Valid (zL zN : Int) (zu : LL) : Option (Bool) := (F_r07_Formed zL zN zu).bind fun t => bif (!t) then some false else (G_r07_Valid_0 zu FU 0).bind fun t1 => bif t1 then some false else some true
noncomputable def A46 (us : List AVal) := F_r07_Valid (aI us 0 0) (aI us 0 1) (aR us 0 2)
noncomputable def C46 := AI.ext 46 (SM ks97 A46 enc20) C98
@[reducible] noncomputable def B46_0 := bodyOf TT TU GL0 C98 ownF L46 (lp Tryz.f46 0)
theorem spec46_0 (k : KT) : ∀ (m : Nat) (i b0_0 b0_1 : Int) (b0_2 : LL), loopN B46_0 m (E46_0 i b0_0 b0_1 b0_2) (KW W46_0 k) = (G_r07_Valid_0 b0_2 m i).bind (X46_0 k)
 | 0, _, _, _, _ => rfl
 | m + 1, i, b0_0, b0_1, b0_2 =>
 Eq.trans (by kernel_rfl) (nd rfl (nd rfl (nb fun r => (nd rfl (nb fun t => (nd rfl rfl (spec46_0 k m (wr (i + 1)) b0_0 b0_1 b0_2))) rfl)) rfl) rfl)
theorem okL46_0 : LoopOk TT TU GL0 C98 ownF L46 (lp Tryz.f46 0) :=
 loopOk_of ks46_0 hs46_0 W46_0 FU _ (fun s k => by kernel_rfl) (fun s k => spec46_0 k FU (sI s 3) (aIh s 0 0) (aIh s 0 1) (aRh s 0 2))
theorem run46 (zL zN : Int) (zu : LL) : fcall TT TU GL0 C98 ownF true L46 Tryz.f46 [(.agg [(i64 zL), (i64 zN), (.ro 3 zu)])] = (F_r07_Valid zL zN zu).bind fun t => some (enc20 t) :=
 Eq.trans (by kernel_rfl) (nb fun t => (nd rfl rfl (nb fun t1 => (nd rfl rfl rfl))))
theorem lib46 : Lib Tryz.prog GL0 C46 :=
 LF lib98 Tryz.func46 (by decide +kernel) (by kernel_rfl) true L46 (loops_of 1 (by kernel_rfl) (belowS below0 okL46_0)) (fun us => run46 _ _ _) (fun t => rfl)
noncomputable def F_r02_Near (n : Int) : Option (Int) := some (minI (maxI n (-1048576)) 1048576)
noncomputable def A132 (us : List AVal) := F_r02_Near (toI (cIa us 0))
noncomputable def C132 := AI.ext 132 (SM ks145 A132 enc44) C46
theorem run132 (n : Int) : fcall TT TU GL0 C46 ownF true noL Tryz.f132 [(i64 n)] = (F_r02_Near n).bind fun t => some (enc44 t) :=
 Eq.trans (by kernel_rfl) rfl
theorem lib132 : Lib Tryz.prog GL0 C132 :=
 LF lib46 Tryz.func132 (by decide +kernel) (by kernel_rfl) true noL (loops_of 0 (by kernel_rfl) below0) (fun us => run132 _) (fun t => rfl)
noncomputable def F_r02_NearVec (zF zG : Int) : Option (Int × Int) := (F_r02_Near zF).bind fun t => (F_r02_Near zG).bind fun t1 => some (t, t1)
def enc117 (t : Int × Int) : CR := ⟨true, (.agg [(.sc (.int .i64 t.1)), (.sc (.int .i64 t.2))]), [], []⟩
def ks117 : List SK := [.agg [.int .i64, .int .i64]]
noncomputable def A117 (us : List AVal) := F_r02_NearVec (aI us 0 0) (aI us 0 1)
noncomputable def C117 := AI.ext 117 (SM ks117 A117 enc117) C132
theorem run117 (zF zG : Int) : fcall TT TU GL0 C132 ownF true noL Tryz.f117 [(.agg [(i64 zF), (i64 zG)])] = (F_r02_NearVec zF zG).bind fun t => some (enc117 t) :=
 Eq.trans (by kernel_rfl) (nb fun t => (nb fun t1 => rfl))
theorem lib117 : Lib Tryz.prog GL0 C117 :=
 LF lib132 Tryz.func117 (by decide +kernel) (by kernel_rfl) true noL (loops_of 0 (by kernel_rfl) below0) (fun us => run117 _ _) (fun t => rfl)
noncomputable def F_r02_Valid (zF zG : Int) : Option (Bool) := (F_r02_NearVec zF zG).bind fun t => some ((zF == t.1) && (zG == t.2))
noncomputable def A179 (us : List AVal) := F_r02_Valid (aI us 0 0) (aI us 0 1)
noncomputable def C179 := AI.ext 179 (SM ks117 A179 enc20) C117
theorem run179 (zF zG : Int) : fcall TT TU GL0 C117 ownF true noL Tryz.f179 [(.agg [(i64 zF), (i64 zG)])] = (F_r02_Valid zF zG).bind fun t => some (enc20 t) :=
 Eq.trans (by kernel_rfl) (nb fun t => rfl)
theorem lib179 : Lib Tryz.prog GL0 C179 :=
 LF lib117 Tryz.func179 (by decide +kernel) (by kernel_rfl) true noL (loops_of 0 (by kernel_rfl) below0) (fun us => run179 _ _) (fun t => rfl)
noncomputable def F_r21_stat (n : Int) : Option (Bool) := bif (decide (n ≥ 0)) then some (decide (n ≤ 100000)) else some false
noncomputable def A180 (us : List AVal) := F_r21_stat (toI (cIa us 0))
noncomputable def C180 := AI.ext 180 (SM ks145 A180 enc20) C179
theorem run180 (n : Int) : fcall TT TU GL0 C179 ownF true noL Tryz.f180 [(i64 n)] = (F_r21_stat n).bind fun t => some (enc20 t) :=
 Eq.trans (by kernel_rfl) (nd rfl rfl rfl)
theorem lib180 : Lib Tryz.prog GL0 C180 :=
 LF lib179 Tryz.func180 (by decide +kernel) (by kernel_rfl) true noL (loops_of 0 (by kernel_rfl) below0) (fun us => run180 _) (fun t => rfl)
noncomputable def F_r20_Valid (zaY zbv zbw zaj : Int) (zaZ : ByteArray) : Option (Bool) := (F_r02_Valid zbv zbw).bind fun t => bif (zaY == 1) then bif t then bif (zaj == 0) then some (List.beq (ByteArray.toList zaZ) (ByteArray.toList (ByteArray.mk (Array.mk [])))) else some false else some false else bif (zaY == 3) then bif t then bif (zaj == 0) then some (List.beq (ByteArray.toList zaZ) (ByteArray.toList (ByteArray.mk (Array.mk [])))) else some false else some false else bif (zaY == 6) then bif t then bif (zaj == 0) then some (List.beq (ByteArray.toList zaZ) (ByteArray.toList (ByteArray.mk (Array.mk [])))) else some false else some false else bif (zaY == 2) then bif ((zbv == 0) && (zbw == 0)) then bif (decide (zaj ≥ 1)) then bif (decide (zaj ≤ 1099511627776)) then some (List.beq (ByteArray.toList zaZ) (ByteArray.toList (ByteArray.mk (Array.mk [])))) else some false else some false else some false else bif (zaY == 4) then bif t then bif (zaj == 0) then (F_r09_Name zaZ).bind fun t1 => some t1 else some false else some false else bif (zaY == 5) then bif ((zbv == 0) && (zbw == 0)) then bif (zaj == 0) then some (List.beq (ByteArray.toList zaZ) (ByteArray.toList (ByteArray.mk (Array.mk [])))) else some false else some false else some false
def ks181 : List SK := [.agg [.int .i64, .int .i64, .int .i64, .int .i64, .str]]
noncomputable def A181 (us : List AVal) := F_r20_Valid (aI us 0 0) (aI us 0 1) (aI us 0 2) (aI us 0 3) (aS us 0 4)
noncomputable def C181 := AI.ext 181 (SM ks181 A181 enc20) C180
theorem run181 (zaY zbv zbw zaj : Int) (zaZ : ByteArray) : fcall TT TU GL0 C180 ownF true noL Tryz.f181 [(.agg [(i64 zaY), (i64 zbv), (i64 zbw), (i64 zaj), (.sc (.string zaZ))])] = (F_r20_Valid zaY zbv zbw zaj zaZ).bind fun t => some (enc20 t) :=
 Eq.trans (by kernel_rfl) (nb fun t => (nd rfl (nd rfl (nd rfl rfl rfl) rfl) (nd rfl (nd rfl (nd rfl rfl rfl) rfl) (nd rfl (nd rfl (nd rfl rfl rfl) rfl) (nd rfl (nd rfl (nd rfl (nd rfl rfl rfl) rfl) rfl) (nd rfl (nd rfl (nd rfl (nb fun t1 => rfl) rfl) rfl) (nd rfl (nd rfl (nd rfl rfl rfl) rfl) rfl)))))))
theorem lib181 : Lib Tryz.prog GL0 C181 :=
 LF lib180 Tryz.func181 (by decide +kernel) (by kernel_rfl) true noL (loops_of 0 (by kernel_rfl) below0) (fun us => run181 _ _ _ _ _) (fun t => rfl)
def W150_0 : Ex → List Bool
 | .ret => (false :: false :: true :: (e94 []))
 | .exit n => bif Nat.beq n 0 then (false :: true :: (e95 [])) else []
 | .normal => []
noncomputable def G_r21_numbers_0 (b0_10 : LL) : Nat → Int → Option (Bool)
 | 0, _ => none
 | m + 1, i => bif (decide (i < (Int.ofNat b0_10.length))) then bif (decide (0 ≤ i)) then (b0_10[i.toNat]?).bind fun r => bif (chk y4 r) then (F_r20_Valid (cI r 0) (cI r 1) (cI r 2) (cI r 3) (cS r 4)).bind fun t => bif (!t) then some true else
 G_r21_numbers_0 b0_10 m (wr (i + 1)) else none else none else some false
def E150_0 (i b0_0 b0_1 : Int) (b0_2 : ByteArray) (b0_3 b0_4 b0_5 b0_6 b0_7 b0_8 b0_9 : Int) (b0_10 b0_11 : LL) : St := ⟨(.dead :: (.ref 16000 1 0 0) :: .dead :: (i64 i) :: (d93 [])), [(16000, ⟨.box, 60, 12, [[(i64 b0_0), (i64 b0_1), (.sc (.string b0_2)), (i64 b0_3), (i64 b0_4), (i64 b0_5), (i64 b0_6), (i64 b0_7), (i64 b0_8), (i64 b0_9), (.ro 5 b0_10), (.ro 3 b0_11)]]⟩)]⟩
def X150_0 (b0_0 b0_1 : Int) (b0_2 : ByteArray) (b0_3 b0_4 b0_5 b0_6 b0_7 b0_8 b0_9 : Int) (b0_10 b0_11 : LL) (k : KT) (t : Bool) : Option CR := bif t then k .ret ⟨(.dead :: .dead :: (bo false) :: (d94 [])), []⟩ else k (.exit 0) ⟨(.dead :: (.ref 16000 1 0 0) :: (d95 [])), [(16000, ⟨.box, 60, 12, [[(i64 b0_0), (i64 b0_1), (.sc (.string b0_2)), (i64 b0_3), (i64 b0_4), (i64 b0_5), (i64 b0_6), (i64 b0_7), (i64 b0_8), (i64 b0_9), (.ro 5 b0_10), (.ro 3 b0_11)]]⟩)]⟩
def ks150_0 : List SK := (.f .dead :: .f (.ref 16000 1 0 0) :: .f .dead :: .f (.int .i64) :: (f93 []))
def hs150_0 : List HK := [⟨16000, .box, 60, 12, some [.int .i64, .int .i64, .str, .int .i64, .int .i64, .int .i64, .int .i64, .int .i64, .int .i64, .int .i64, .ro 5, .ro 3]⟩]
noncomputable def Lm150_0 (s : St) (k : KT) : Option CR := bif chkS ks150_0 hs150_0 s then (G_r21_numbers_0 (aRh s 0 10) FU (sI s 3)).bind (X150_0 (aIh s 0 0) (aIh s 0 1) (aSh s 0 2) (aIh s 0 3) (aIh s 0 4) (aIh s 0 5) (aIh s 0 6) (aIh s 0 7) (aIh s 0 8) (aIh s 0 9) (aRh s 0 10) (aRh s 0 11) k) else none
def W150_1 : Ex → List Bool
 | .ret => (false :: false :: true :: (e94 []))
 | .exit n => bif Nat.beq n 2 then (e97 []) else []
 | .normal => []
noncomputable def G_r21_numbers_1 (b0_11 : LL) : Nat → Int → Option (Bool)
 | 0, _ => none
 | m + 1, i => bif (decide (i < (Int.ofNat b0_11.length))) then bif (decide (0 ≤ i)) then (b0_11[i.toNat]?).bind fun r => bif (chk y5 r) then bif ((cI r 0) != 1) then bif ((cI r 0) != 2) then some true else (F_r21_stat (cI r 1)).bind fun t => bif (!t) then some true else
 G_r21_numbers_1 b0_11 m (wr (i + 1)) else (F_r21_stat (cI r 1)).bind fun t1 => bif (!t1) then some true else
 G_r21_numbers_1 b0_11 m (wr (i + 1)) else none else none else some false
def E150_1 (i b0_0 b0_1 : Int) (b0_2 : ByteArray) (b0_3 b0_4 b0_5 b0_6 b0_7 b0_8 b0_9 : Int) (b0_10 b0_11 : LL) : St := ⟨(.dead :: (.ref 16000 1 0 0) :: .dead :: .dead :: (i64 i) :: (d92 [])), [(16000, ⟨.box, 60, 12, [[(i64 b0_0), (i64 b0_1), (.sc (.string b0_2)), (i64 b0_3), (i64 b0_4), (i64 b0_5), (i64 b0_6), (i64 b0_7), (i64 b0_8), (i64 b0_9), (.ro 5 b0_10), (.ro 3 b0_11)]]⟩)]⟩
def X150_1 (k : KT) (t : Bool) : Option CR := bif t then k .ret ⟨(.dead :: .dead :: (bo false) :: (d94 [])), []⟩ else k (.exit 2) ⟨(d97 []), []⟩
def ks150_1 : List SK := (.f .dead :: .f (.ref 16000 1 0 0) :: .f .dead :: .f .dead :: .f (.int .i64) :: (f92 []))
noncomputable def Lm150_1 (s : St) (k : KT) : Option CR := bif chkS ks150_1 hs150_0 s then (G_r21_numbers_1 (aRh s 0 11) FU (sI s 4)).bind (X150_1 k) else none
noncomputable def L150 : LT' := fun i s k => bif Nat.beq i 0 then (Lm150_0 (maskS (maskOf ks150_0) s) k) else bif Nat.beq i 2 then (Lm150_1 (maskS (maskOf ks150_1) s) k) else none
noncomputable def F_r21_numbers (zE zv : Int) (zy : ByteArray) (zw zx zH zC zA zD zB : Int) (zt zz : LL) : Option (Bool) := (F_r02_Valid zw zx).bind fun t => bif (!t) then some false else bif (decide (zH < 1)) then some false else (F_r21_stat zH).bind fun t1 => bif (!t1) then some false else (F_r21_stat zC).bind fun t2 => bif (!t2) then some false else (F_r21_stat zA).bind fun t3 => bif (!t3) then some false else (F_r21_stat zD).bind fun t4 => bif (!t4) then some false else (F_r21_stat zB).bind fun t5 => bif (!t5) then some false else bif (decide ((Int.ofNat zt.length) > 8)) then some false else bif (decide ((Int.ofNat zz.length) > 5)) then some false else (G_r21_numbers_0 zt FU 0).bind fun t6 => bif t6 then some false else (G_r21_numbers_1 zz FU 0).bind fun t7 => bif t7 then some false else some true
def ks150 : List SK := [.agg [.int .i64, .int .i64, .str, .int .i64, .int .i64, .int .i64, .int .i64, .int .i64, .int .i64, .int .i64, .ro 5, .ro 3]]
noncomputable def A150 (us : List AVal) := F_r21_numbers (aI us 0 0) (aI us 0 1) (aS us 0 2) (aI us 0 3) (aI us 0 4) (aI us 0 5) (aI us 0 6) (aI us 0 7) (aI us 0 8) (aI us 0 9) (aR us 0 10) (aR us 0 11)
noncomputable def C150 := AI.ext 150 (SM ks150 A150 enc20) C181
@[reducible] noncomputable def B150_0 := bodyOf TT TU GL0 C181 ownF L150 (lp Tryz.f150 0)
theorem spec150_0 (k : KT) : ∀ (m : Nat) (i b0_0 b0_1 : Int) (b0_2 : ByteArray) (b0_3 b0_4 b0_5 b0_6 b0_7 b0_8 b0_9 : Int) (b0_10 b0_11 : LL), loopN B150_0 m (E150_0 i b0_0 b0_1 b0_2 b0_3 b0_4 b0_5 b0_6 b0_7 b0_8 b0_9 b0_10 b0_11) (KW W150_0 k) = (G_r21_numbers_0 b0_10 m i).bind (X150_0 b0_0 b0_1 b0_2 b0_3 b0_4 b0_5 b0_6 b0_7 b0_8 b0_9 b0_10 b0_11 k)
 | 0, _, _, _, _, _, _, _, _, _, _, _, _, _ => rfl
 | m + 1, i, b0_0, b0_1, b0_2, b0_3, b0_4, b0_5, b0_6, b0_7, b0_8, b0_9, b0_10, b0_11 =>
 Eq.trans (by kernel_rfl) (nd rfl (nd rfl (nb fun r => (nd rfl (nb fun t => (nd rfl rfl (spec150_0 k m (wr (i + 1)) b0_0 b0_1 b0_2 b0_3 b0_4 b0_5 b0_6 b0_7 b0_8 b0_9 b0_10 b0_11))) rfl)) rfl) rfl)
theorem okL150_0 : LoopOk TT TU GL0 C181 ownF L150 (lp Tryz.f150 0) :=
 loopOk_of ks150_0 hs150_0 W150_0 FU _ (fun s k => by kernel_rfl) (fun s k => spec150_0 k FU (sI s 3) (aIh s 0 0) (aIh s 0 1) (aSh s 0 2) (aIh s 0 3) (aIh s 0 4) (aIh s 0 5) (aIh s 0 6) (aIh s 0 7) (aIh s 0 8) (aIh s 0 9) (aRh s 0 10) (aRh s 0 11))
@[reducible] noncomputable def B150_1 := bodyOf TT TU GL0 C181 ownF L150 (lp Tryz.f150 1)
theorem spec150_1 (k : KT) : ∀ (m : Nat) (i b0_0 b0_1 : Int) (b0_2 : ByteArray) (b0_3 b0_4 b0_5 b0_6 b0_7 b0_8 b0_9 : Int) (b0_10 b0_11 : LL), loopN B150_1 m (E150_1 i b0_0 b0_1 b0_2 b0_3 b0_4 b0_5 b0_6 b0_7 b0_8 b0_9 b0_10 b0_11) (KW W150_1 k) = (G_r21_numbers_1 b0_11 m i).bind (X150_1 k)
 | 0, _, _, _, _, _, _, _, _, _, _, _, _, _ => rfl
 | m + 1, i, b0_0, b0_1, b0_2, b0_3, b0_4, b0_5, b0_6, b0_7, b0_8, b0_9, b0_10, b0_11 =>
 Eq.trans (by kernel_rfl) (nd rfl (nd rfl (nb fun r => (nd rfl (nd rfl (nd rfl rfl (nb fun t => (nd rfl rfl (spec150_1 k m (wr (i + 1)) b0_0 b0_1 b0_2 b0_3 b0_4 b0_5 b0_6 b0_7 b0_8 b0_9 b0_10 b0_11)))) (nb fun t1 => (nd rfl rfl (spec150_1 k m (wr (i + 1)) b0_0 b0_1 b0_2 b0_3 b0_4 b0_5 b0_6 b0_7 b0_8 b0_9 b0_10 b0_11)))) rfl)) rfl) rfl)
theorem okL150_1 : LoopOk TT TU GL0 C181 ownF L150 (lp Tryz.f150 1) :=
 loopOk_of ks150_1 hs150_0 W150_1 FU _ (fun s k => by kernel_rfl) (fun s k => spec150_1 k FU (sI s 4) (aIh s 0 0) (aIh s 0 1) (aSh s 0 2) (aIh s 0 3) (aIh s 0 4) (aIh s 0 5) (aIh s 0 6) (aIh s 0 7) (aIh s 0 8) (aIh s 0 9) (aRh s 0 10) (aRh s 0 11))
theorem run150 (zE zv : Int) (zy : ByteArray) (zw zx zH zC zA zD zB : Int) (zt zz : LL) : fcall TT TU GL0 C181 ownF true L150 Tryz.f150 [(.agg [(i64 zE), (i64 zv), (.sc (.string zy)), (i64 zw), (i64 zx), (i64 zH), (i64 zC), (i64 zA), (i64 zD), (i64 zB), (.ro 5 zt), (.ro 3 zz)])] = (F_r21_numbers zE zv zy zw zx zH zC zA zD zB zt zz).bind fun t => some (enc20 t) :=
 Eq.trans (by kernel_rfl) (nb fun t => (nd rfl rfl (nd rfl rfl (nb fun t1 => (nd rfl rfl (nb fun t2 => (nd rfl rfl (nb fun t3 => (nd rfl rfl (nb fun t4 => (nd rfl rfl (nb fun t5 => (nd rfl rfl (nd rfl rfl (nd rfl rfl (nb fun t6 => (nd rfl rfl (nb fun t7 => (nd rfl rfl rfl)))))))))))))))))))
theorem lib150 : Lib Tryz.prog GL0 C150 :=
 LF lib181 Tryz.func150 (by decide +kernel) (by kernel_rfl) true L150 (loops_of 2 (by kernel_rfl) (belowS (belowS below0 okL150_0) okL150_1)) (fun us => run150 _ _ _ _ _ _ _ _ _ _ _ _) (fun t => rfl)
def W99_0 : Ex → List Bool
 | .ret => (false :: false :: true :: (e53 []))
 | .exit n => bif Nat.beq n 0 then (e56 []) else []
 | .normal => []
noncomputable def G_r21_formed_0 (b0_1 : Int) (b0_12 : LL) : Nat → Int → Int → Option (Bool)
 | 0, _, _ => none
 | m + 1, last, i => bif (decide (i < (Int.ofNat b0_12.length))) then bif (decide (0 ≤ i)) then (b0_12[i.toNat]?).bind fun r => bif (chk y6 r) then bif (decide ((cI r 0) ≤ last)) then some true else bif (decide ((cI r 0) ≥ b0_1)) then some true else (F_r21_numbers (cI r 0) (cI r 1) (cS r 2) (cI r 3) (cI r 4) (cI r 5) (cI r 6) (cI r 7) (cI r 8) (cI r 9) (roRows (AVal.ro 5 (cR r 10))) (roRows (AVal.ro 3 (cR r 11)))).bind fun t => bif (!t) then some true else
 G_r21_formed_0 b0_1 b0_12 m (cI r 0) (wr (i + 1)) else none else none else some false
def E99_0 (last i b0_0 b0_1 b0_2 : Int) (b0_3 : Bool) (b0_4 : Int) (b0_5 b0_6 b0_7 : LL) (b0_8 b0_9 : Int) (b0_10 b0_11 b0_12 b0_13 b0_14 b0_15 : LL) : St := ⟨(.dead :: (.ref 16000 1 0 0) :: .dead :: (i64 last) :: (i64 i) :: (d51 [])), [(16000, ⟨.box, 37, 16, [(GM b0_0 b0_1 b0_2 b0_3 b0_4 b0_5 b0_6 b0_7 b0_8 b0_9 b0_10 b0_11 b0_12 b0_13 b0_14 b0_15)]⟩)]⟩
def X99_0 (k : KT) (t : Bool) : Option CR := bif t then k .ret ⟨(.dead :: .dead :: (bo false) :: (d53 [])), []⟩ else k (.exit 0) ⟨(d56 []), []⟩
def ks99_0 : List SK := (.f .dead :: .f (.ref 16000 1 0 0) :: .f .dead :: .f (.int .i64) :: .f (.int .i64) :: (f51 []))
def hs99_0 : List HK := [⟨16000, .box, 37, 16, some [.int .i64, .int .i64, .int .i64, .bool, .int .u64, .ro 19, .ro 6, .ro 8, .int .i64, .int .i64, .ro 3, .ro 6, .ro 12, .ro 9, .ro 3, .ro 4]⟩]
noncomputable def Lm99_0 (s : St) (k : KT) : Option CR := bif chkS ks99_0 hs99_0 s then (G_r21_formed_0 (aIh s 0 1) (aRh s 0 12) FU (sI s 3) (sI s 4)).bind (X99_0 k) else none
noncomputable def L99 : LT' := fun i s k => bif Nat.beq i 0 then (Lm99_0 (maskS (maskOf ks99_0) s) k) else none
noncomputable def F_r21_formed (zo zi zm : Int) (zl : Bool) (zp : Int) (ze zc zd : LL) (zk zj : Int) (zf zb za zn zg zh : LL) : Option (Bool) := (F_r09_Validate ze zc zd).bind fun t => bif (t != 0) then some false else (F_r07_Valid zk zj zf).bind fun t1 => bif (!t1) then some false else bif (decide (zi < 1)) then some false else bif (decide (zi > 1099511627776)) then some false else (G_r21_formed_0 zi za FU 0 0).bind fun t2 => bif t2 then some false else some true
def ks99 : List SK := [.agg [.int .i64, .int .i64, .int .i64, .bool, .int .u64, .ro 19, .ro 6, .ro 8, .int .i64, .int .i64, .ro 3, .ro 6, .ro 12, .ro 9, .ro 3, .ro 4]]
noncomputable def A99 (us : List AVal) := F_r21_formed (aI us 0 0) (aI us 0 1) (aI us 0 2) (aB us 0 3) (aI us 0 4) (aR us 0 5) (aR us 0 6) (aR us 0 7) (aI us 0 8) (aI us 0 9) (aR us 0 10) (aR us 0 11) (aR us 0 12) (aR us 0 13) (aR us 0 14) (aR us 0 15)
noncomputable def C99 := AI.ext 99 (SM ks99 A99 enc20) C150
@[reducible] noncomputable def B99_0 := bodyOf TT TU GL0 C150 ownF L99 (lp Tryz.f99 0)
theorem spec99_0 (k : KT) : ∀ (m : Nat) (last i b0_0 b0_1 b0_2 : Int) (b0_3 : Bool) (b0_4 : Int) (b0_5 b0_6 b0_7 : LL) (b0_8 b0_9 : Int) (b0_10 b0_11 b0_12 b0_13 b0_14 b0_15 : LL), loopN B99_0 m (E99_0 last i b0_0 b0_1 b0_2 b0_3 b0_4 b0_5 b0_6 b0_7 b0_8 b0_9 b0_10 b0_11 b0_12 b0_13 b0_14 b0_15) (KW W99_0 k) = (G_r21_formed_0 b0_1 b0_12 m last i).bind (X99_0 k)
 | 0, _, _, _, _, _, _, _, _, _, _, _, _, _, _, _, _, _, _ => rfl
 | m + 1, last, i, b0_0, b0_1, b0_2, b0_3, b0_4, b0_5, b0_6, b0_7, b0_8, b0_9, b0_10, b0_11, b0_12, b0_13, b0_14, b0_15 =>
 Eq.trans (by kernel_rfl) (nd rfl (nd rfl (nb fun r => (nd rfl (nd rfl rfl (nd rfl rfl (nb fun t => (nd rfl rfl (spec99_0 k m (cI r 0) (wr (i + 1)) b0_0 b0_1 b0_2 b0_3 b0_4 b0_5 b0_6 b0_7 b0_8 b0_9 b0_10 b0_11 b0_12 b0_13 b0_14 b0_15))))) rfl)) rfl) rfl)
theorem okL99_0 : LoopOk TT TU GL0 C150 ownF L99 (lp Tryz.f99 0) :=
 loopOk_of ks99_0 hs99_0 W99_0 FU _ (fun s k => by kernel_rfl) (fun s k => spec99_0 k FU (sI s 3) (sI s 4) (aIh s 0 0) (aIh s 0 1) (aIh s 0 2) (aBh s 0 3) (aIh s 0 4) (aRh s 0 5) (aRh s 0 6) (aRh s 0 7) (aIh s 0 8) (aIh s 0 9) (aRh s 0 10) (aRh s 0 11) (aRh s 0 12) (aRh s 0 13) (aRh s 0 14) (aRh s 0 15))
theorem run99 (zo zi zm : Int) (zl : Bool) (zp : Int) (ze zc zd : LL) (zk zj : Int) (zf zb za zn zg zh : LL) : fcall TT TU GL0 C150 ownF true L99 Tryz.f99 [(.agg (GM zo zi zm zl zp ze zc zd zk zj zf zb za zn zg zh))] = (F_r21_formed zo zi zm zl zp ze zc zd zk zj zf zb za zn zg zh).bind fun t => some (enc20 t) :=
 Eq.trans (by kernel_rfl) (nb fun t => (nd rfl rfl (nb fun t1 => (nd rfl rfl (nd rfl rfl (nd rfl rfl (nb fun t2 => (nd rfl rfl rfl))))))))
theorem lib99 : Lib Tryz.prog GL0 C99 :=
 LF lib150 Tryz.func99 (by decide +kernel) (by kernel_rfl) true L99 (loops_of 1 (by kernel_rfl) (belowS below0 okL99_0)) (fun us => run99 _ _ _ _ _ _ _ _ _ _ _ _ _ _ _ _) (fun t => rfl)
def W151_0 : Ex → List Bool
 | .ret => (e4 (true :: (e16 [])))
 | .exit n => bif Nat.beq n 0 then (e21 []) else []
 | .normal => []
noncomputable def G_r21_player_0 (id : Int) (b0_11 : LL) : Nat → Int → Option (Bool)
 | 0, _ => none
 | m + 1, i => bif (decide (i < (Int.ofNat b0_11.length))) then bif (decide (0 ≤ i)) then (b0_11[i.toNat]?).bind fun r => bif (chk y7 r) then bif ((cI r 0) == id) then some true else
 G_r21_player_0 id b0_11 m (wr (i + 1)) else none else none else some false
def E151_0 (id i b0_0 b0_1 b0_2 : Int) (b0_3 : Bool) (b0_4 : Int) (b0_5 b0_6 b0_7 : LL) (b0_8 b0_9 : Int) (b0_10 b0_11 b0_12 b0_13 b0_14 b0_15 : LL) : St := ⟨(.dead :: (i64 id) :: (.ref 16000 1 0 0) :: .dead :: .dead :: (i64 i) :: (d15 [])), [(16000, ⟨.box, 37, 16, [(GM b0_0 b0_1 b0_2 b0_3 b0_4 b0_5 b0_6 b0_7 b0_8 b0_9 b0_10 b0_11 b0_12 b0_13 b0_14 b0_15)]⟩)]⟩
def X151_0 (k : KT) (t : Bool) : Option CR := bif t then k .ret ⟨(d4 ((bo true) :: (d16 []))), []⟩ else k (.exit 0) ⟨(d21 []), []⟩
def ks151_0 : List SK := (.f .dead :: .f (.int .i64) :: .f (.ref 16000 1 0 0) :: .f .dead :: .f .dead :: .f (.int .i64) :: (f15 []))
noncomputable def Lm151_0 (s : St) (k : KT) : Option CR := bif chkS ks151_0 hs99_0 s then (G_r21_player_0 (sI s 1) (aRh s 0 11) FU (sI s 5)).bind (X151_0 k) else none
noncomputable def L151 : LT' := fun i s k => bif Nat.beq i 0 then (Lm151_0 (maskS (maskOf ks151_0) s) k) else none
noncomputable def F_r21_player (zo zi zm : Int) (zl : Bool) (zp : Int) (ze zc zd : LL) (zk zj : Int) (zf zb za zn zg zh : LL) (id : Int) : Option (Bool) := (G_r21_player_0 id zb FU 0).bind fun t => bif t then some true else some false
def ks151 : List SK := [.agg [.int .i64, .int .i64, .int .i64, .bool, .int .u64, .ro 19, .ro 6, .ro 8, .int .i64, .int .i64, .ro 3, .ro 6, .ro 12, .ro 9, .ro 3, .ro 4], .f (.int .i64)]
noncomputable def A151 (us : List AVal) := F_r21_player (aI us 0 0) (aI us 0 1) (aI us 0 2) (aB us 0 3) (aI us 0 4) (aR us 0 5) (aR us 0 6) (aR us 0 7) (aI us 0 8) (aI us 0 9) (aR us 0 10) (aR us 0 11) (aR us 0 12) (aR us 0 13) (aR us 0 14) (aR us 0 15) (toI (cIa us 1))
noncomputable def C151 := AI.ext 151 (SM ks151 A151 enc20) C99
@[reducible] noncomputable def B151_0 := bodyOf TT TU GL0 C99 ownF L151 (lp Tryz.f151 0)
theorem spec151_0 (k : KT) : ∀ (m : Nat) (id i b0_0 b0_1 b0_2 : Int) (b0_3 : Bool) (b0_4 : Int) (b0_5 b0_6 b0_7 : LL) (b0_8 b0_9 : Int) (b0_10 b0_11 b0_12 b0_13 b0_14 b0_15 : LL), loopN B151_0 m (E151_0 id i b0_0 b0_1 b0_2 b0_3 b0_4 b0_5 b0_6 b0_7 b0_8 b0_9 b0_10 b0_11 b0_12 b0_13 b0_14 b0_15) (KW W151_0 k) = (G_r21_player_0 id b0_11 m i).bind (X151_0 k)
 | 0, _, _, _, _, _, _, _, _, _, _, _, _, _, _, _, _, _, _ => rfl
 | m + 1, id, i, b0_0, b0_1, b0_2, b0_3, b0_4, b0_5, b0_6, b0_7, b0_8, b0_9, b0_10, b0_11, b0_12, b0_13, b0_14, b0_15 =>
 Eq.trans (by kernel_rfl) (nd rfl (nd rfl (nb fun r => (nd rfl (nd rfl rfl (spec151_0 k m id (wr (i + 1)) b0_0 b0_1 b0_2 b0_3 b0_4 b0_5 b0_6 b0_7 b0_8 b0_9 b0_10 b0_11 b0_12 b0_13 b0_14 b0_15)) rfl)) rfl) rfl)
theorem okL151_0 : LoopOk TT TU GL0 C99 ownF L151 (lp Tryz.f151 0) :=
 loopOk_of ks151_0 hs99_0 W151_0 FU _ (fun s k => by kernel_rfl) (fun s k => spec151_0 k FU (sI s 1) (sI s 5) (aIh s 0 0) (aIh s 0 1) (aIh s 0 2) (aBh s 0 3) (aIh s 0 4) (aRh s 0 5) (aRh s 0 6) (aRh s 0 7) (aIh s 0 8) (aIh s 0 9) (aRh s 0 10) (aRh s 0 11) (aRh s 0 12) (aRh s 0 13) (aRh s 0 14) (aRh s 0 15))
theorem run151 (zo zi zm : Int) (zl : Bool) (zp : Int) (ze zc zd : LL) (zk zj : Int) (zf zb za zn zg zh : LL) (id : Int) : fcall TT TU GL0 C99 ownF true L151 Tryz.f151 [(.agg (GM zo zi zm zl zp ze zc zd zk zj zf zb za zn zg zh)), (i64 id)] = (F_r21_player zo zi zm zl zp ze zc zd zk zj zf zb za zn zg zh id).bind fun t => some (enc20 t) :=
 Eq.trans (by kernel_rfl) (nb fun t => (nd rfl rfl rfl))
theorem lib151 : Lib Tryz.prog GL0 C151 :=
 LF lib99 Tryz.func151 (by decide +kernel) (by kernel_rfl) true L151 (loops_of 1 (by kernel_rfl) (belowS below0 okL151_0)) (fun us => run151 _ _ _ _ _ _ _ _ _ _ _ _ _ _ _ _ _) (fun t => rfl)
def W100_0 : Ex → List Bool
 | .ret => (e4 (true :: (e73 [])))
 | .exit n => bif Nat.beq n 0 then (e78 []) else []
 | .normal => []
noncomputable def G_r21_named_0 (b0_5 b0_6 b0_7 b1_11 : LL) : Nat → Int → Option (Bool)
 | 0, _ => none
 | m + 1, i => bif (decide (i < (Int.ofNat b1_11.length))) then bif (decide (0 ≤ i)) then (b1_11[i.toNat]?).bind fun r => bif (chk y5 r) then (F_r09_Unit b0_5 b0_6 b0_7 (cS r 2)).bind fun t => (F_r09_Tech b0_5 b0_6 b0_7 (cS r 2)).bind fun t1 => bif ((cI r 0) == 1) then bif (!t.2.2.2.2.2.2.2.2.2.2.2.2.2.2.2.2.2.2.2) then some true else bif t.2.1 then some true else bif ((cI r 0) == 2) then bif (!t1.2.2.2.2.2.2.2.2) then some true else
 G_r21_named_0 b0_5 b0_6 b0_7 b1_11 m (wr (i + 1)) else
 G_r21_named_0 b0_5 b0_6 b0_7 b1_11 m (wr (i + 1)) else bif ((cI r 0) == 2) then bif (!t1.2.2.2.2.2.2.2.2) then some true else
 G_r21_named_0 b0_5 b0_6 b0_7 b1_11 m (wr (i + 1)) else
 G_r21_named_0 b0_5 b0_6 b0_7 b1_11 m (wr (i + 1)) else none else none else some false
def E100_0 (i b0_0 b0_1 b0_2 : Int) (b0_3 : Bool) (b0_4 : Int) (b0_5 b0_6 b0_7 : LL) (b0_8 b0_9 : Int) (b0_10 b0_11 b0_12 b0_13 b0_14 b0_15 : LL) (b1_0 b1_1 : Int) (b1_2 : ByteArray) (b1_3 b1_4 b1_5 b1_6 b1_7 b1_8 b1_9 : Int) (b1_10 b1_11 : LL) : St := ⟨(.dead :: .dead :: (.ref 16000 1 0 0) :: (.ref 16016 1 0 0) :: .dead :: .dead :: .dead :: (i64 i) :: (d70 [])), [(16000, ⟨.box, 37, 16, [(GM b0_0 b0_1 b0_2 b0_3 b0_4 b0_5 b0_6 b0_7 b0_8 b0_9 b0_10 b0_11 b0_12 b0_13 b0_14 b0_15)]⟩), (16016, ⟨.box, 60, 12, [[(i64 b1_0), (i64 b1_1), (.sc (.string b1_2)), (i64 b1_3), (i64 b1_4), (i64 b1_5), (i64 b1_6), (i64 b1_7), (i64 b1_8), (i64 b1_9), (.ro 5 b1_10), (.ro 3 b1_11)]]⟩)]⟩
def X100_0 (k : KT) (t : Bool) : Option CR := bif t then k .ret ⟨(d4 ((bo false) :: (d73 []))), []⟩ else k (.exit 0) ⟨(d78 []), []⟩
def ks100_0 : List SK := (.f .dead :: .f .dead :: .f (.ref 16000 1 0 0) :: .f (.ref 16016 1 0 0) :: .f .dead :: .f .dead :: .f .dead :: .f (.int .i64) :: (f70 []))
def hs100_0 : List HK := [⟨16000, .box, 37, 16, some [.int .i64, .int .i64, .int .i64, .bool, .int .u64, .ro 19, .ro 6, .ro 8, .int .i64, .int .i64, .ro 3, .ro 6, .ro 12, .ro 9, .ro 3, .ro 4]⟩, ⟨16016, .box, 60, 12, some [.int .i64, .int .i64, .str, .int .i64, .int .i64, .int .i64, .int .i64, .int .i64, .int .i64, .int .i64, .ro 5, .ro 3]⟩]
noncomputable def Lm100_0 (s : St) (k : KT) : Option CR := bif chkS ks100_0 hs100_0 s then (G_r21_named_0 (aRh s 0 5) (aRh s 0 6) (aRh s 0 7) (aRh s 1 11) FU (sI s 7)).bind (X100_0 k) else none
noncomputable def L100 : LT' := fun i s k => bif Nat.beq i 0 then (Lm100_0 (maskS (maskOf ks100_0) s) k) else none
noncomputable def F_r21_named (zo zi zm : Int) (zl : Bool) (zp : Int) (ze zc zd : LL) (zk zj : Int) (zf zb za zn zg zh : LL) (zE zv : Int) (zy : ByteArray) (zw zx zH zC zA zD zB : Int) (zt zz : LL) : Option (Bool) := (F_r09_Unit ze zc zd zy).bind fun t => bif (!t.2.2.2.2.2.2.2.2.2.2.2.2.2.2.2.2.2.2.2) then some false else (F_r21_player zo zi zm zl zp ze zc zd zk zj zf zb za zn zg zh zv).bind fun t1 => bif (!t1) then some false else (G_r21_named_0 ze zc zd zz FU 0).bind fun t2 => bif t2 then some false else some true
def ks100 : List SK := [.agg [.int .i64, .int .i64, .int .i64, .bool, .int .u64, .ro 19, .ro 6, .ro 8, .int .i64, .int .i64, .ro 3, .ro 6, .ro 12, .ro 9, .ro 3, .ro 4], .agg [.int .i64, .int .i64, .str, .int .i64, .int .i64, .int .i64, .int .i64, .int .i64, .int .i64, .int .i64, .ro 5, .ro 3]]
noncomputable def A100 (us : List AVal) := F_r21_named (aI us 0 0) (aI us 0 1) (aI us 0 2) (aB us 0 3) (aI us 0 4) (aR us 0 5) (aR us 0 6) (aR us 0 7) (aI us 0 8) (aI us 0 9) (aR us 0 10) (aR us 0 11) (aR us 0 12) (aR us 0 13) (aR us 0 14) (aR us 0 15) (aI us 1 0) (aI us 1 1) (aS us 1 2) (aI us 1 3) (aI us 1 4) (aI us 1 5) (aI us 1 6) (aI us 1 7) (aI us 1 8) (aI us 1 9) (aR us 1 10) (aR us 1 11)
noncomputable def C100 := AI.ext 100 (SM ks100 A100 enc20) C151
@[reducible] noncomputable def B100_0 := bodyOf TT TU GL0 C151 ownF L100 (lp Tryz.f100 0)
theorem spec100_0 (k : KT) : ∀ (m : Nat) (i b0_0 b0_1 b0_2 : Int) (b0_3 : Bool) (b0_4 : Int) (b0_5 b0_6 b0_7 : LL) (b0_8 b0_9 : Int) (b0_10 b0_11 b0_12 b0_13 b0_14 b0_15 : LL) (b1_0 b1_1 : Int) (b1_2 : ByteArray) (b1_3 b1_4 b1_5 b1_6 b1_7 b1_8 b1_9 : Int) (b1_10 b1_11 : LL), loopN B100_0 m (E100_0 i b0_0 b0_1 b0_2 b0_3 b0_4 b0_5 b0_6 b0_7 b0_8 b0_9 b0_10 b0_11 b0_12 b0_13 b0_14 b0_15 b1_0 b1_1 b1_2 b1_3 b1_4 b1_5 b1_6 b1_7 b1_8 b1_9 b1_10 b1_11) (KW W100_0 k) = (G_r21_named_0 b0_5 b0_6 b0_7 b1_11 m i).bind (X100_0 k)
 | 0, _, _, _, _, _, _, _, _, _, _, _, _, _, _, _, _, _, _, _, _, _, _, _, _, _, _, _, _, _ => rfl
 | m + 1, i, b0_0, b0_1, b0_2, b0_3, b0_4, b0_5, b0_6, b0_7, b0_8, b0_9, b0_10, b0_11, b0_12, b0_13, b0_14, b0_15, b1_0, b1_1, b1_2, b1_3, b1_4, b1_5, b1_6, b1_7, b1_8, b1_9, b1_10, b1_11 =>
 Eq.trans (by kernel_rfl) (nd rfl (nd rfl (nb fun r => (nd rfl (nb fun t => (nb fun t1 => (nd rfl (nd rfl rfl (nd rfl rfl (nd rfl (nd rfl rfl (spec100_0 k m (wr (i + 1)) b0_0 b0_1 b0_2 b0_3 b0_4 b0_5 b0_6 b0_7 b0_8 b0_9 b0_10 b0_11 b0_12 b0_13 b0_14 b0_15 b1_0 b1_1 b1_2 b1_3 b1_4 b1_5 b1_6 b1_7 b1_8 b1_9 b1_10 b1_11)) (spec100_0 k m (wr (i + 1)) b0_0 b0_1 b0_2 b0_3 b0_4 b0_5 b0_6 b0_7 b0_8 b0_9 b0_10 b0_11 b0_12 b0_13 b0_14 b0_15 b1_0 b1_1 b1_2 b1_3 b1_4 b1_5 b1_6 b1_7 b1_8 b1_9 b1_10 b1_11)))) (nd rfl (nd rfl rfl (spec100_0 k m (wr (i + 1)) b0_0 b0_1 b0_2 b0_3 b0_4 b0_5 b0_6 b0_7 b0_8 b0_9 b0_10 b0_11 b0_12 b0_13 b0_14 b0_15 b1_0 b1_1 b1_2 b1_3 b1_4 b1_5 b1_6 b1_7 b1_8 b1_9 b1_10 b1_11)) (spec100_0 k m (wr (i + 1)) b0_0 b0_1 b0_2 b0_3 b0_4 b0_5 b0_6 b0_7 b0_8 b0_9 b0_10 b0_11 b0_12 b0_13 b0_14 b0_15 b1_0 b1_1 b1_2 b1_3 b1_4 b1_5 b1_6 b1_7 b1_8 b1_9 b1_10 b1_11))))) rfl)) rfl) rfl)
theorem okL100_0 : LoopOk TT TU GL0 C151 ownF L100 (lp Tryz.f100 0) :=
 loopOk_of ks100_0 hs100_0 W100_0 FU _ (fun s k => by kernel_rfl) (fun s k => spec100_0 k FU (sI s 7) (aIh s 0 0) (aIh s 0 1) (aIh s 0 2) (aBh s 0 3) (aIh s 0 4) (aRh s 0 5) (aRh s 0 6) (aRh s 0 7) (aIh s 0 8) (aIh s 0 9) (aRh s 0 10) (aRh s 0 11) (aRh s 0 12) (aRh s 0 13) (aRh s 0 14) (aRh s 0 15) (aIh s 1 0) (aIh s 1 1) (aSh s 1 2) (aIh s 1 3) (aIh s 1 4) (aIh s 1 5) (aIh s 1 6) (aIh s 1 7) (aIh s 1 8) (aIh s 1 9) (aRh s 1 10) (aRh s 1 11))
theorem run100 (zo zi zm : Int) (zl : Bool) (zp : Int) (ze zc zd : LL) (zk zj : Int) (zf zb za zn zg zh : LL) (zE zv : Int) (zy : ByteArray) (zw zx zH zC zA zD zB : Int) (zt zz : LL) : fcall TT TU GL0 C151 ownF true L100 Tryz.f100 [(.agg (GM zo zi zm zl zp ze zc zd zk zj zf zb za zn zg zh)), (.agg [(i64 zE), (i64 zv), (.sc (.string zy)), (i64 zw), (i64 zx), (i64 zH), (i64 zC), (i64 zA), (i64 zD), (i64 zB), (.ro 5 zt), (.ro 3 zz)])] = (F_r21_named zo zi zm zl zp ze zc zd zk zj zf zb za zn zg zh zE zv zy zw zx zH zC zA zD zB zt zz).bind fun t => some (enc20 t) :=
 Eq.trans (by kernel_rfl) (nb fun t => (nd rfl rfl (nb fun t1 => (nd rfl rfl (nb fun t2 => (nd rfl rfl rfl))))))
theorem lib100 : Lib Tryz.prog GL0 C100 :=
 LF lib151 Tryz.func100 (by decide +kernel) (by kernel_rfl) true L100 (loops_of 1 (by kernel_rfl) (belowS below0 okL100_0)) (fun us => run100 _ _ _ _ _ _ _ _ _ _ _ _ _ _ _ _ _ _ _ _ _ _ _ _ _ _ _ _) (fun t => rfl)
noncomputable def F_r02_Sub (zF zG zQ zR : Int) : Option (Int × Int) := (F_r02_NearVec zF zG).bind fun t => (F_r02_NearVec zQ zR).bind fun t1 => (F_r02_NearVec (wr (t.1 - t1.1)) (wr (t.2 - t1.2))).bind fun t2 => some (t2.1, t2.2)
def ks68 : List SK := [.agg [.int .i64, .int .i64], .agg [.int .i64, .int .i64]]
noncomputable def A68 (us : List AVal) := F_r02_Sub (aI us 0 0) (aI us 0 1) (aI us 1 0) (aI us 1 1)
noncomputable def C68 := AI.ext 68 (SM ks68 A68 enc117) C100
theorem run68 (zF zG zQ zR : Int) : fcall TT TU GL0 C100 ownF true noL Tryz.f68 [(.agg [(i64 zF), (i64 zG)]), (.agg [(i64 zQ), (i64 zR)])] = (F_r02_Sub zF zG zQ zR).bind fun t => some (enc117 t) :=
 Eq.trans (by kernel_rfl) (nb fun t => (nb fun t1 => (nb fun t2 => rfl)))
theorem lib68 : Lib Tryz.prog GL0 C68 :=
 LF lib100 Tryz.func68 (by decide +kernel) (by kernel_rfl) true noL (loops_of 0 (by kernel_rfl) below0) (fun us => run68 _ _ _ _) (fun t => rfl)
noncomputable def F_r01_Div (a b : Int) : Option (Int × Int) := bif (b == 0) then some (0, 1) else bif (a == (-9223372036854775808)) then bif (b == (-1)) then some (0, 3) else bif ((Int.tmod a b) != 0) then bif (!((decide ((Int.tmod a b) < 0)) == (decide (b < 0)))) then some ((wr ((wr (Int.tdiv a b)) - 1)), 0) else some ((wr (Int.tdiv a b)), 0) else some ((wr (Int.tdiv a b)), 0) else bif ((Int.tmod a b) != 0) then bif (!((decide ((Int.tmod a b) < 0)) == (decide (b < 0)))) then some ((wr ((wr (Int.tdiv a b)) - 1)), 0) else some ((wr (Int.tdiv a b)), 0) else some ((wr (Int.tdiv a b)), 0)
def enc175 (t : Int × Int) : CR := ⟨true, (.tup [(.sc (.int .i64 t.1)), (.sc (.int .i64 t.2))]), [], []⟩
noncomputable def A175 (us : List AVal) := F_r01_Div (toI (cIa us 0)) (toI (cIa us 1))
noncomputable def C175 := AI.ext 175 (SM ks149 A175 enc175) C68
theorem run175 (a b : Int) : fcall TT TU GL0 C68 ownF true noL Tryz.f175 [(i64 a), (i64 b)] = (F_r01_Div a b).bind fun t => some (enc175 t) :=
 Eq.trans (by kernel_rfl) (nc rfl (fun h0 => rfl) fun h0 => (nd rfl (nd rfl rfl (n_false (A := none) h0 (n_false (A := none) h0 (nd rfl (nd rfl rfl rfl) rfl)))) (n_false (A := none) h0 (n_false (A := none) h0 (nd rfl (nd rfl rfl rfl) rfl)))))
theorem lib175 : Lib Tryz.prog GL0 C175 :=
 LF lib68 Tryz.func175 (by decide +kernel) (by kernel_rfl) true noL (loops_of 0 (by kernel_rfl) below0) (fun us => run175 _ _) (fun t => rfl)
noncomputable def F_r01_Cell (x : Int) : Option (Int) := (F_r01_Div x 256).bind fun t => some t.1
noncomputable def A129 (us : List AVal) := F_r01_Cell (toI (cIa us 0))
noncomputable def C129 := AI.ext 129 (SM ks145 A129 enc44) C175
theorem run129 (x : Int) : fcall TT TU GL0 C175 ownF true noL Tryz.f129 [(i64 x)] = (F_r01_Cell x).bind fun t => some (enc44 t) :=
 Eq.trans (by kernel_rfl) (nb fun t => rfl)
theorem lib129 : Lib Tryz.prog GL0 C129 :=
 LF lib175 Tryz.func129 (by decide +kernel) (by kernel_rfl) true noL (loops_of 0 (by kernel_rfl) below0) (fun us => run129 _) (fun t => rfl)
noncomputable def F_r21_Cell (z8 z9 : Int) : Option (Int × Int) := (F_r01_Cell z8).bind fun t => (F_r01_Cell z9).bind fun t1 => some (t, t1)
noncomputable def A155 (us : List AVal) := F_r21_Cell (aI us 0 0) (aI us 0 1)
noncomputable def C155 := AI.ext 155 (SM ks117 A155 enc117) C129
theorem run155 (z8 z9 : Int) : fcall TT TU GL0 C129 ownF true noL Tryz.f155 [(.agg [(i64 z8), (i64 z9)])] = (F_r21_Cell z8 z9).bind fun t => some (enc117 t) :=
 Eq.trans (by kernel_rfl) (nb fun t => (nb fun t1 => rfl))
theorem lib155 : Lib Tryz.prog GL0 C155 :=
 LF lib129 Tryz.func155 (by decide +kernel) (by kernel_rfl) true noL (loops_of 0 (by kernel_rfl) below0) (fun us => run155 _ _) (fun t => rfl)
noncomputable def F_r21_Rect (zr zq zs : LL) (zE zv : Int) (zy : ByteArray) (zw zx zH zC zA zD zB : Int) (zt zz : LL) : Option (Int × Int × Int × Int × Bool) := (F_r09_Unit zr zq zs zy).bind fun t => bif (!t.2.2.2.2.2.2.2.2.2.2.2.2.2.2.2.2.2.2.2) then some (0, 0, 0, 0, false) else bif (!t.2.1) then some (0, 0, 0, 0, false) else bif (decide (t.2.2.2.2.1 < 1)) then some (0, 0, 0, 0, false) else bif (decide (t.2.2.2.2.1 > 4)) then some (0, 0, 0, 0, false) else bif (decide (t.2.2.2.2.2.1 < 1)) then some (0, 0, 0, 0, false) else bif (decide (t.2.2.2.2.2.1 > 4)) then some (0, 0, 0, 0, false) else (F_r02_Sub zw zx (wr (Int.tdiv (wr (t.2.2.2.2.1 * 256)) 2)) (wr (Int.tdiv (wr (t.2.2.2.2.2.1 * 256)) 2))).bind fun t1 => (F_r21_Cell t1.1 t1.2).bind fun t2 => some (t2.1, t2.2, t.2.2.2.2.1, t.2.2.2.2.2.1, true)
def enc118 (t : Int × Int × Int × Int × Bool) : CR := ⟨true, (.tup [(.agg [(.sc (.int .i64 t.1)), (.sc (.int .i64 t.2.1)), (.sc (.int .i64 t.2.2.1)), (.sc (.int .i64 t.2.2.2.1))]), (.sc (.bool t.2.2.2.2))]), [], []⟩
def ks118 : List SK := [.agg [.ro 19, .ro 6, .ro 8], .agg [.int .i64, .int .i64, .str, .int .i64, .int .i64, .int .i64, .int .i64, .int .i64, .int .i64, .int .i64, .ro 5, .ro 3]]
noncomputable def A118 (us : List AVal) := F_r21_Rect (aR us 0 0) (aR us 0 1) (aR us 0 2) (aI us 1 0) (aI us 1 1) (aS us 1 2) (aI us 1 3) (aI us 1 4) (aI us 1 5) (aI us 1 6) (aI us 1 7) (aI us 1 8) (aI us 1 9) (aR us 1 10) (aR us 1 11)
noncomputable def C118 := AI.ext 118 (SM ks118 A118 enc118) C155
theorem run118 (zr zq zs : LL) (zE zv : Int) (zy : ByteArray) (zw zx zH zC zA zD zB : Int) (zt zz : LL) : fcall TT TU GL0 C155 ownF true noL Tryz.f118 [(.agg [(.ro 19 zr), (.ro 6 zq), (.ro 8 zs)]), (.agg [(i64 zE), (i64 zv), (.sc (.string zy)), (i64 zw), (i64 zx), (i64 zH), (i64 zC), (i64 zA), (i64 zD), (i64 zB), (.ro 5 zt), (.ro 3 zz)])] = (F_r21_Rect zr zq zs zE zv zy zw zx zH zC zA zD zB zt zz).bind fun t => some (enc118 t) :=
 Eq.trans (by kernel_rfl) (nb fun t => (nd rfl rfl (nd rfl rfl (nd rfl rfl (nd rfl rfl (nd rfl rfl (nd rfl rfl (nb fun t1 => (nb fun t2 => rfl)))))))))
theorem lib118 : Lib Tryz.prog GL0 C118 :=
 LF lib155 Tryz.func118 (by decide +kernel) (by kernel_rfl) true noL (loops_of 0 (by kernel_rfl) below0) (fun us => run118 _ _ _ _ _ _ _ _ _ _ _ _ _ _ _) (fun t => rfl)
noncomputable def F_r06_near (n : Int) : Option (Int) := some (maxI (-1048576) (minI n 1048576))
noncomputable def A178 (us : List AVal) := F_r06_near (toI (cIa us 0))
noncomputable def C178 := AI.ext 178 (SM ks145 A178 enc44) C118
theorem run178 (n : Int) : fcall TT TU GL0 C118 ownF true noL Tryz.f178 [(i64 n)] = (F_r06_near n).bind fun t => some (enc44 t) :=
 Eq.trans (by kernel_rfl) rfl
theorem lib178 : Lib Tryz.prog GL0 C178 :=
 LF lib118 Tryz.func178 (by decide +kernel) (by kernel_rfl) true noL (loops_of 0 (by kernel_rfl) below0) (fun us => run178 _) (fun t => rfl)
noncomputable def F_r06_rect (zaG zaH zaF zaE : Int) : Option (Int × Int × Int × Int) := (F_r06_near zaG).bind fun t => (F_r06_near zaH).bind fun t1 => (F_r06_near zaF).bind fun t2 => (F_r06_near zaE).bind fun t3 => some (t, t1, t2, t3)
def enc184 (t : Int × Int × Int × Int) : CR := ⟨true, (.agg [(.sc (.int .i64 t.1)), (.sc (.int .i64 t.2.1)), (.sc (.int .i64 t.2.2.1)), (.sc (.int .i64 t.2.2.2))]), [], []⟩
def ks184 : List SK := [.agg [.int .i64, .int .i64, .int .i64, .int .i64]]
noncomputable def A184 (us : List AVal) := F_r06_rect (aI us 0 0) (aI us 0 1) (aI us 0 2) (aI us 0 3)
noncomputable def C184 := AI.ext 184 (SM ks184 A184 enc184) C178
theorem run184 (zaG zaH zaF zaE : Int) : fcall TT TU GL0 C178 ownF true noL Tryz.f184 [(.agg [(i64 zaG), (i64 zaH), (i64 zaF), (i64 zaE)])] = (F_r06_rect zaG zaH zaF zaE).bind fun t => some (enc184 t) :=
 Eq.trans (by kernel_rfl) (nb fun t => (nb fun t1 => (nb fun t2 => (nb fun t3 => rfl))))
theorem lib184 : Lib Tryz.prog GL0 C184 :=
 LF lib178 Tryz.func184 (by decide +kernel) (by kernel_rfl) true noL (loops_of 0 (by kernel_rfl) below0) (fun us => run184 _ _ _ _) (fun t => rfl)
noncomputable def F_r06_common (zF zG zaA zaz zQ zR zaD zaB : Int) : Option (Int × Int × Int × Int) := bif (decide (zaA < 1)) then some (0, 0, 0, 0) else bif (decide (zaz < 1)) then some (0, 0, 0, 0) else bif (decide (zaD < 1)) then some (0, 0, 0, 0) else bif (decide (zaB < 1)) then some (0, 0, 0, 0) else bif (decide ((wr ((minI (wr (zF + zaA)) (wr (zQ + zaD))) - (maxI zF zQ))) < 1)) then some (0, 0, 0, 0) else bif (decide ((wr ((minI (wr (zG + zaz)) (wr (zR + zaB))) - (maxI zG zR))) < 1)) then some (0, 0, 0, 0) else some ((maxI zF zQ), (maxI zG zR), (wr ((minI (wr (zF + zaA)) (wr (zQ + zaD))) - (maxI zF zQ))), (wr ((minI (wr (zG + zaz)) (wr (zR + zaB))) - (maxI zG zR))))
def ks183 : List SK := [.agg [.int .i64, .int .i64, .int .i64, .int .i64], .agg [.int .i64, .int .i64, .int .i64, .int .i64]]
noncomputable def A183 (us : List AVal) := F_r06_common (aI us 0 0) (aI us 0 1) (aI us 0 2) (aI us 0 3) (aI us 1 0) (aI us 1 1) (aI us 1 2) (aI us 1 3)
noncomputable def C183 := AI.ext 183 (SM ks183 A183 enc184) C184
theorem run183 (zF zG zaA zaz zQ zR zaD zaB : Int) : fcall TT TU GL0 C184 ownF true noL Tryz.f183 [(.agg [(i64 zF), (i64 zG), (i64 zaA), (i64 zaz)]), (.agg [(i64 zQ), (i64 zR), (i64 zaD), (i64 zaB)])] = (F_r06_common zF zG zaA zaz zQ zR zaD zaB).bind fun t => some (enc184 t) :=
 Eq.trans (by kernel_rfl) (nd rfl rfl (nd rfl rfl (nd rfl rfl (nd rfl rfl (nd rfl rfl (nd rfl rfl rfl))))))
theorem lib183 : Lib Tryz.prog GL0 C183 :=
 LF lib184 Tryz.func183 (by decide +kernel) (by kernel_rfl) true noL (loops_of 0 (by kernel_rfl) below0) (fun us => run183 _ _ _ _ _ _ _ _) (fun t => rfl)
noncomputable def F_r06_Clip (w h zaG zaH zaF zaE : Int) : Option (Int × Int × Int × Int) := (F_r06_rect 0 0 w h).bind fun t => (F_r06_rect zaG zaH zaF zaE).bind fun t1 => (F_r06_common t.1 t.2.1 t.2.2.1 t.2.2.2 t1.1 t1.2.1 t1.2.2.1 t1.2.2.2).bind fun t2 => some (t2.1, t2.2.1, t2.2.2.1, t2.2.2.2)
def ks182 : List SK := [.f (.int .i64), .f (.int .i64), .agg [.int .i64, .int .i64, .int .i64, .int .i64]]
noncomputable def A182 (us : List AVal) := F_r06_Clip (toI (cIa us 0)) (toI (cIa us 1)) (aI us 2 0) (aI us 2 1) (aI us 2 2) (aI us 2 3)
noncomputable def C182 := AI.ext 182 (SM ks182 A182 enc184) C183
theorem run182 (w h zaG zaH zaF zaE : Int) : fcall TT TU GL0 C183 ownF true noL Tryz.f182 [(i64 w), (i64 h), (.agg [(i64 zaG), (i64 zaH), (i64 zaF), (i64 zaE)])] = (F_r06_Clip w h zaG zaH zaF zaE).bind fun t => some (enc184 t) :=
 Eq.trans (by kernel_rfl) (nb fun t => (nb fun t1 => (nb fun t2 => rfl)))
theorem lib182 : Lib Tryz.prog GL0 C182 :=
 LF lib183 Tryz.func182 (by decide +kernel) (by kernel_rfl) true noL (loops_of 0 (by kernel_rfl) below0) (fun us => run182 _ _ _ _ _ _) (fun t => rfl)
noncomputable def F_r21_whole (zo zi zm : Int) (zl : Bool) (zp : Int) (ze zc zd : LL) (zk zj : Int) (zf zb za zn zg zh : LL) (zE zv : Int) (zy : ByteArray) (zw zx zH zC zA zD zB : Int) (zt zz : LL) (zaG zaH zaF zaE : Int) : Option (Bool) := bif ((wr (zw - (wr (Int.tdiv (wr (zaF * 256)) 2)))) == (wr (zaG * 256))) then bif ((wr (zx - (wr (Int.tdiv (wr (zaE * 256)) 2)))) == (wr (zaH * 256))) then (F_r06_Clip zk zj zaG zaH zaF zaE).bind fun t => some ((t.1 == zaG) && ((t.2.1 == zaH) && ((t.2.2.1 == zaF) && (t.2.2.2 == zaE)))) else some false else some false
def ks153 : List SK := [.agg [.int .i64, .int .i64, .int .i64, .bool, .int .u64, .ro 19, .ro 6, .ro 8, .int .i64, .int .i64, .ro 3, .ro 6, .ro 12, .ro 9, .ro 3, .ro 4], .agg [.int .i64, .int .i64, .str, .int .i64, .int .i64, .int .i64, .int .i64, .int .i64, .int .i64, .int .i64, .ro 5, .ro 3], .agg [.int .i64, .int .i64, .int .i64, .int .i64]]
noncomputable def A153 (us : List AVal) := F_r21_whole (aI us 0 0) (aI us 0 1) (aI us 0 2) (aB us 0 3) (aI us 0 4) (aR us 0 5) (aR us 0 6) (aR us 0 7) (aI us 0 8) (aI us 0 9) (aR us 0 10) (aR us 0 11) (aR us 0 12) (aR us 0 13) (aR us 0 14) (aR us 0 15) (aI us 1 0) (aI us 1 1) (aS us 1 2) (aI us 1 3) (aI us 1 4) (aI us 1 5) (aI us 1 6) (aI us 1 7) (aI us 1 8) (aI us 1 9) (aR us 1 10) (aR us 1 11) (aI us 2 0) (aI us 2 1) (aI us 2 2) (aI us 2 3)
noncomputable def C153 := AI.ext 153 (SM ks153 A153 enc20) C182
theorem run153 (zo zi zm : Int) (zl : Bool) (zp : Int) (ze zc zd : LL) (zk zj : Int) (zf zb za zn zg zh : LL) (zE zv : Int) (zy : ByteArray) (zw zx zH zC zA zD zB : Int) (zt zz : LL) (zaG zaH zaF zaE : Int) : fcall TT TU GL0 C182 ownF true noL Tryz.f153 [(.agg (GM zo zi zm zl zp ze zc zd zk zj zf zb za zn zg zh)), (.agg [(i64 zE), (i64 zv), (.sc (.string zy)), (i64 zw), (i64 zx), (i64 zH), (i64 zC), (i64 zA), (i64 zD), (i64 zB), (.ro 5 zt), (.ro 3 zz)]), (.agg [(i64 zaG), (i64 zaH), (i64 zaF), (i64 zaE)])] = (F_r21_whole zo zi zm zl zp ze zc zd zk zj zf zb za zn zg zh zE zv zy zw zx zH zC zA zD zB zt zz zaG zaH zaF zaE).bind fun t => some (enc20 t) :=
 Eq.trans (by kernel_rfl) (nd rfl (nd rfl (nb fun t => rfl) rfl) rfl)
theorem lib153 : Lib Tryz.prog GL0 C153 :=
 LF lib182 Tryz.func153 (by decide +kernel) (by kernel_rfl) true noL (loops_of 0 (by kernel_rfl) below0) (fun us => run153 _ _ _ _ _ _ _ _ _ _ _ _ _ _ _ _ _ _ _ _ _ _ _ _ _ _ _ _ _ _ _ _) (fun t => rfl)
noncomputable def F_r06_In (w h zI zJ : Int) : Option (Bool) := bif (decide (zI ≥ 0)) then bif (decide (zI < w)) then bif (decide (zJ ≥ 0)) then some (decide (zJ < h)) else some false else some false else some false
def ks176 : List SK := [.f (.int .i64), .f (.int .i64), .agg [.int .i64, .int .i64]]
noncomputable def A176 (us : List AVal) := F_r06_In (toI (cIa us 0)) (toI (cIa us 1)) (aI us 2 0) (aI us 2 1)
noncomputable def C176 := AI.ext 176 (SM ks176 A176 enc20) C153
theorem run176 (w h zI zJ : Int) : fcall TT TU GL0 C153 ownF true noL Tryz.f176 [(i64 w), (i64 h), (.agg [(i64 zI), (i64 zJ)])] = (F_r06_In w h zI zJ).bind fun t => some (enc20 t) :=
 Eq.trans (by kernel_rfl) (nd rfl (nd rfl (nd rfl rfl rfl) rfl) rfl)
theorem lib176 : Lib Tryz.prog GL0 C176 :=
 LF lib153 Tryz.func176 (by decide +kernel) (by kernel_rfl) true noL (loops_of 0 (by kernel_rfl) below0) (fun us => run176 _ _ _ _) (fun t => rfl)
noncomputable def F_r07_Inside (zL zN : Int) (zu : LL) (zI zJ : Int) : Option (Bool) := (F_r07_Formed zL zN zu).bind fun t => bif t then (F_r06_In zL zN zI zJ).bind fun t1 => some t1 else some false
def ks130 : List SK := [.agg [.int .i64, .int .i64, .ro 3], .agg [.int .i64, .int .i64]]
noncomputable def A130 (us : List AVal) := F_r07_Inside (aI us 0 0) (aI us 0 1) (aR us 0 2) (aI us 1 0) (aI us 1 1)
noncomputable def C130 := AI.ext 130 (SM ks130 A130 enc20) C176
theorem run130 (zL zN : Int) (zu : LL) (zI zJ : Int) : fcall TT TU GL0 C176 ownF true noL Tryz.f130 [(.agg [(i64 zL), (i64 zN), (.ro 3 zu)]), (.agg [(i64 zI), (i64 zJ)])] = (F_r07_Inside zL zN zu zI zJ).bind fun t => some (enc20 t) :=
 Eq.trans (by kernel_rfl) (nb fun t => (nd rfl (nb fun t1 => rfl) rfl))
theorem lib130 : Lib Tryz.prog GL0 C130 :=
 LF lib176 Tryz.func130 (by decide +kernel) (by kernel_rfl) true noL (loops_of 0 (by kernel_rfl) below0) (fun us => run130 _ _ _ _ _) (fun t => rfl)
noncomputable def F_r06_pos (zI zJ : Int) : Option (Int × Int) := (F_r06_near zI).bind fun t => (F_r06_near zJ).bind fun t1 => some (t, t1)
noncomputable def A177 (us : List AVal) := F_r06_pos (aI us 0 0) (aI us 0 1)
noncomputable def C177 := AI.ext 177 (SM ks117 A177 enc117) C130
theorem run177 (zI zJ : Int) : fcall TT TU GL0 C130 ownF true noL Tryz.f177 [(.agg [(i64 zI), (i64 zJ)])] = (F_r06_pos zI zJ).bind fun t => some (enc117 t) :=
 Eq.trans (by kernel_rfl) (nb fun t => (nb fun t1 => rfl))
theorem lib177 : Lib Tryz.prog GL0 C177 :=
 LF lib130 Tryz.func177 (by decide +kernel) (by kernel_rfl) true noL (loops_of 0 (by kernel_rfl) below0) (fun us => run177 _ _) (fun t => rfl)
noncomputable def F_r06_Index (w zI zJ : Int) : Option (Int) := (F_r06_pos zI zJ).bind fun t => (F_r06_near w).bind fun t1 => some (wr ((wr (t.2 * t1)) + t.1))
def ks131 : List SK := [.f (.int .i64), .agg [.int .i64, .int .i64]]
noncomputable def A131 (us : List AVal) := F_r06_Index (toI (cIa us 0)) (aI us 1 0) (aI us 1 1)
noncomputable def C131 := AI.ext 131 (SM ks131 A131 enc44) C177
theorem run131 (w zI zJ : Int) : fcall TT TU GL0 C177 ownF true noL Tryz.f131 [(i64 w), (.agg [(i64 zI), (i64 zJ)])] = (F_r06_Index w zI zJ).bind fun t => some (enc44 t) :=
 Eq.trans (by kernel_rfl) (nb fun t => (nb fun t1 => rfl))
theorem lib131 : Lib Tryz.prog GL0 C131 :=
 LF lib177 Tryz.func131 (by decide +kernel) (by kernel_rfl) true noL (loops_of 0 (by kernel_rfl) below0) (fun us => run131 _ _ _) (fun t => rfl)
noncomputable def F_r07_Get (zL zN : Int) (zu : LL) (zI zJ : Int) : Option (Int × Int × Int × Bool) := (F_r07_Inside zL zN zu zI zJ).bind fun t => bif (!t) then some (0, 0, 0, false) else (F_r06_Index zL zI zJ).bind fun t1 => bif (decide (0 ≤ t1)) then (zu[t1.toNat]?).bind fun r => bif (chk y3 r) then some ((cI r 0), (cI r 1), (cI r 2), true) else none else none
def enc79 (t : Int × Int × Int × Bool) : CR := ⟨true, (.tup [(.agg [(.sc (.int .i64 t.1)), (.sc (.int .i64 t.2.1)), (.sc (.int .i64 t.2.2.1))]), (.sc (.bool t.2.2.2))]), [], []⟩
noncomputable def A79 (us : List AVal) := F_r07_Get (aI us 0 0) (aI us 0 1) (aR us 0 2) (aI us 1 0) (aI us 1 1)
noncomputable def C79 := AI.ext 79 (SM ks130 A79 enc79) C131
theorem run79 (zL zN : Int) (zu : LL) (zI zJ : Int) : fcall TT TU GL0 C131 ownF true noL Tryz.f79 [(.agg [(i64 zL), (i64 zN), (.ro 3 zu)]), (.agg [(i64 zI), (i64 zJ)])] = (F_r07_Get zL zN zu zI zJ).bind fun t => some (enc79 t) :=
 Eq.trans (by kernel_rfl) (nb fun t => (nd rfl rfl (nb fun t1 => (nd rfl (nb fun r => (nd rfl rfl rfl)) rfl))))
theorem lib79 : Lib Tryz.prog GL0 C79 :=
 LF lib131 Tryz.func79 (by decide +kernel) (by kernel_rfl) true noL (loops_of 0 (by kernel_rfl) below0) (fun us => run79 _ _ _ _ _) (fun t => rfl)
noncomputable def F_r07_Passable (zL zN : Int) (zu : LL) (class_ zI zJ : Int) : Option (Bool) := (F_r07_Get zL zN zu zI zJ).bind fun t => bif (class_ == 1) then bif t.2.2.2 then bif (t.1 == 1) then some true else some (t.1 == 5) else some false else bif (class_ == 2) then bif t.2.2.2 then bif (t.1 == 1) then some true else bif (t.1 == 5) then some true else some (t.1 == 2) else some false else bif (class_ == 3) then some t.2.2.2 else some false
def ks154 : List SK := [.agg [.int .i64, .int .i64, .ro 3], .f (.int .i64), .agg [.int .i64, .int .i64]]
noncomputable def A154 (us : List AVal) := F_r07_Passable (aI us 0 0) (aI us 0 1) (aR us 0 2) (toI (cIa us 1)) (aI us 2 0) (aI us 2 1)
noncomputable def C154 := AI.ext 154 (SM ks154 A154 enc20) C79
theorem run154 (zL zN : Int) (zu : LL) (class_ zI zJ : Int) : fcall TT TU GL0 C79 ownF true noL Tryz.f154 [(.agg [(i64 zL), (i64 zN), (.ro 3 zu)]), (i64 class_), (.agg [(i64 zI), (i64 zJ)])] = (F_r07_Passable zL zN zu class_ zI zJ).bind fun t => some (enc20 t) :=
 Eq.trans (by kernel_rfl) (nb fun t => (nd rfl (nd rfl (nd rfl rfl rfl) rfl) (nd rfl (nd rfl (nd rfl rfl (nd rfl rfl rfl)) rfl) (nd rfl rfl rfl))))
theorem lib154 : Lib Tryz.prog GL0 C154 :=
 LF lib79 Tryz.func154 (by decide +kernel) (by kernel_rfl) true noL (loops_of 0 (by kernel_rfl) below0) (fun us => run154 _ _ _ _ _ _) (fun t => rfl)
noncomputable def F_r06_Meet (zF zG zaA zaz zQ zR zaD zaB : Int) : Option (Bool) := (F_r06_rect zF zG zaA zaz).bind fun t => (F_r06_rect zQ zR zaD zaB).bind fun t1 => (F_r06_common t.1 t.2.1 t.2.2.1 t.2.2.2 t1.1 t1.2.1 t1.2.2.1 t1.2.2.2).bind fun t2 => some (decide (t2.2.2.1 > 0))
noncomputable def A156 (us : List AVal) := F_r06_Meet (aI us 0 0) (aI us 0 1) (aI us 0 2) (aI us 0 3) (aI us 1 0) (aI us 1 1) (aI us 1 2) (aI us 1 3)
noncomputable def C156 := AI.ext 156 (SM ks183 A156 enc20) C154
theorem run156 (zF zG zaA zaz zQ zR zaD zaB : Int) : fcall TT TU GL0 C154 ownF true noL Tryz.f156 [(.agg [(i64 zF), (i64 zG), (i64 zaA), (i64 zaz)]), (.agg [(i64 zQ), (i64 zR), (i64 zaD), (i64 zaB)])] = (F_r06_Meet zF zG zaA zaz zQ zR zaD zaB).bind fun t => some (enc20 t) :=
 Eq.trans (by kernel_rfl) (nb fun t => (nb fun t1 => (nb fun t2 => rfl)))
theorem lib156 : Lib Tryz.prog GL0 C156 :=
 LF lib154 Tryz.func156 (by decide +kernel) (by kernel_rfl) true noL (loops_of 0 (by kernel_rfl) below0) (fun us => run156 _ _ _ _ _ _ _ _) (fun t => rfl)
noncomputable def F_r06_Inside (zaG zaH zaF zaE zI zJ : Int) : Option (Bool) := (F_r06_rect zaG zaH zaF zaE).bind fun t => (F_r06_pos zI zJ).bind fun t1 => bif (decide (t1.1 ≥ t.1)) then bif (decide (t1.1 < (wr (t.1 + t.2.2.1)))) then bif (decide (t1.2 ≥ t.2.1)) then some (decide (t1.2 < (wr (t.2.1 + t.2.2.2)))) else some false else some false else some false
def ks157 : List SK := [.agg [.int .i64, .int .i64, .int .i64, .int .i64], .agg [.int .i64, .int .i64]]
noncomputable def A157 (us : List AVal) := F_r06_Inside (aI us 0 0) (aI us 0 1) (aI us 0 2) (aI us 0 3) (aI us 1 0) (aI us 1 1)
noncomputable def C157 := AI.ext 157 (SM ks157 A157 enc20) C156
theorem run157 (zaG zaH zaF zaE zI zJ : Int) : fcall TT TU GL0 C156 ownF true noL Tryz.f157 [(.agg [(i64 zaG), (i64 zaH), (i64 zaF), (i64 zaE)]), (.agg [(i64 zI), (i64 zJ)])] = (F_r06_Inside zaG zaH zaF zaE zI zJ).bind fun t => some (enc20 t) :=
 Eq.trans (by kernel_rfl) (nb fun t => (nb fun t1 => (nd rfl (nd rfl (nd rfl rfl rfl) rfl) rfl)))
theorem lib157 : Lib Tryz.prog GL0 C157 :=
 LF lib156 Tryz.func157 (by decide +kernel) (by kernel_rfl) true noL (loops_of 0 (by kernel_rfl) below0) (fun us => run157 _ _ _ _ _ _) (fun t => rfl)
def W101_0 : Ex → List Bool
 | .ret => (e4 (true :: (e96 [])))
 | .exit n => bif Nat.beq n 0 then (e101 []) else []
 | .normal => []
noncomputable def G_r21_placed_0 (building : Bool) (b0_5 b0_6 b0_7 b0_12 : LL) (b1_0 b1_3 b1_4 b2_0 b2_1 b2_2 b2_3 b3_3 : Int) : Nat → Int → Option (Bool)
 | 0, _ => none
 | m + 1, i => bif (decide (i < (Int.ofNat b0_12.length))) then bif (decide (0 ≤ i)) then (b0_12[i.toNat]?).bind fun r => bif (chk y6 r) then (F_r21_Rect b0_5 b0_6 b0_7 (cI r 0) (cI r 1) (cS r 2) (cI r 3) (cI r 4) (cI r 5) (cI r 6) (cI r 7) (cI r 8) (cI r 9) (roRows (AVal.ro 5 (cR r 10))) (roRows (AVal.ro 3 (cR r 11)))).bind fun t => bif (!t.2.2.2.2) then
 G_r21_placed_0 building b0_5 b0_6 b0_7 b0_12 b1_0 b1_3 b1_4 b2_0 b2_1 b2_2 b2_3 b3_3 m (wr (i + 1)) else (b0_12[i.toNat]?).bind fun r1 => bif (chk y6 r1) then bif ((cI r1 0) == b1_0) then
 G_r21_placed_0 building b0_5 b0_6 b0_7 b0_12 b1_0 b1_3 b1_4 b2_0 b2_1 b2_2 b2_3 b3_3 m (wr (i + 1)) else bif building then (F_r06_Meet b2_0 b2_1 b2_2 b2_3 t.1 t.2.1 t.2.2.1 t.2.2.2.1).bind fun t1 => bif t1 then some true else
 G_r21_placed_0 building b0_5 b0_6 b0_7 b0_12 b1_0 b1_3 b1_4 b2_0 b2_1 b2_2 b2_3 b3_3 m (wr (i + 1)) else bif (b3_3 != 3) then (F_r21_Cell b1_3 b1_4).bind fun t4 => (F_r06_Inside t.1 t.2.1 t.2.2.1 t.2.2.2.1 t4.1 t4.2).bind fun t5 => bif t5 then some true else
 G_r21_placed_0 building b0_5 b0_6 b0_7 b0_12 b1_0 b1_3 b1_4 b2_0 b2_1 b2_2 b2_3 b3_3 m (wr (i + 1)) else
 G_r21_placed_0 building b0_5 b0_6 b0_7 b0_12 b1_0 b1_3 b1_4 b2_0 b2_1 b2_2 b2_3 b3_3 m (wr (i + 1)) else none else none else none else some false
def E101_0 (building : Bool) (i b0_0 b0_1 b0_2 : Int) (b0_3 : Bool) (b0_4 : Int) (b0_5 b0_6 b0_7 : LL) (b0_8 b0_9 : Int) (b0_10 b0_11 b0_12 b0_13 b0_14 b0_15 : LL) (b1_0 b1_1 : Int) (b1_2 : ByteArray) (b1_3 b1_4 b1_5 b1_6 b1_7 b1_8 b1_9 : Int) (b1_10 b1_11 : LL) (b2_0 b2_1 b2_2 b2_3 : Int) (b3_0 : ByteArray) (b3_1 b3_2 : Bool) (b3_3 b3_4 b3_5 b3_6 b3_7 b3_8 b3_9 b3_10 b3_11 : Int) (b3_12 : ByteArray) (b3_13 b3_14 b3_15 : Int) (b3_16 b3_17 b3_18 : LL) : St := ⟨(.dead :: .dead :: (.ref 16000 1 0 0) :: (.ref 16016 1 0 0) :: .dead :: (.ref 19312 1 0 0) :: (bo building) :: (.ref 28928 1 0 0) :: .dead :: (i64 i) :: (d91 [])), [(16000, ⟨.box, 37, 16, [(GM b0_0 b0_1 b0_2 b0_3 b0_4 b0_5 b0_6 b0_7 b0_8 b0_9 b0_10 b0_11 b0_12 b0_13 b0_14 b0_15)]⟩), (16016, ⟨.box, 60, 12, [[(i64 b1_0), (i64 b1_1), (.sc (.string b1_2)), (i64 b1_3), (i64 b1_4), (i64 b1_5), (i64 b1_6), (i64 b1_7), (i64 b1_8), (i64 b1_9), (.ro 5 b1_10), (.ro 3 b1_11)]]⟩), (19312, ⟨.box, 180, 4, [[(i64 b2_0), (i64 b2_1), (i64 b2_2), (i64 b2_3)]]⟩), (28928, ⟨.box, 65, 19, [[(.sc (.string b3_0)), (bo b3_1), (bo b3_2), (i64 b3_3), (i64 b3_4), (i64 b3_5), (i64 b3_6), (i64 b3_7), (i64 b3_8), (i64 b3_9), (i64 b3_10), (i64 b3_11), (.sc (.string b3_12)), (i64 b3_13), (i64 b3_14), (i64 b3_15), (.ro 1 b3_16), (.ro 1 b3_17), (.ro 1 b3_18)]]⟩)]⟩
def X101_0 (k : KT) (t : Bool) : Option CR := bif t then k .ret ⟨(d4 ((bo false) :: (d96 []))), []⟩ else k (.exit 0) ⟨(d101 []), []⟩
def ks101_0 : List SK := (.f .dead :: .f .dead :: .f (.ref 16000 1 0 0) :: .f (.ref 16016 1 0 0) :: .f .dead :: .f (.ref 19312 1 0 0) :: .f (.bool) :: .f (.ref 28928 1 0 0) :: .f .dead :: .f (.int .i64) :: (f91 []))
def hs101_0 : List HK := [⟨16000, .box, 37, 16, some [.int .i64, .int .i64, .int .i64, .bool, .int .u64, .ro 19, .ro 6, .ro 8, .int .i64, .int .i64, .ro 3, .ro 6, .ro 12, .ro 9, .ro 3, .ro 4]⟩, ⟨16016, .box, 60, 12, some [.int .i64, .int .i64, .str, .int .i64, .int .i64, .int .i64, .int .i64, .int .i64, .int .i64, .int .i64, .ro 5, .ro 3]⟩, ⟨19312, .box, 180, 4, some [.int .i64, .int .i64, .int .i64, .int .i64]⟩, ⟨28928, .box, 65, 19, some [.str, .bool, .bool, .int .i64, .int .i64, .int .i64, .int .i64, .int .i64, .int .i64, .int .i64, .int .i64, .int .i64, .str, .int .i64, .int .i64, .int .i64, .ro 1, .ro 1, .ro 1]⟩]
noncomputable def Lm101_0 (s : St) (k : KT) : Option CR := bif chkS ks101_0 hs101_0 s then (G_r21_placed_0 (sB s 6) (aRh s 0 5) (aRh s 0 6) (aRh s 0 7) (aRh s 0 12) (aIh s 1 0) (aIh s 1 3) (aIh s 1 4) (aIh s 2 0) (aIh s 2 1) (aIh s 2 2) (aIh s 2 3) (aIh s 3 3) FU (sI s 9)).bind (X101_0 k) else none
noncomputable def L101 : LT' := fun i s k => bif Nat.beq i 0 then (Lm101_0 (maskS (maskOf ks101_0) s) k) else none
noncomputable def F_r21_placed (zo zi zm : Int) (zl : Bool) (zp : Int) (ze zc zd : LL) (zk zj : Int) (zf zb za zn zg zh : LL) (zE zv : Int) (zy : ByteArray) (zw zx zH zC zA zD zB : Int) (zt zz : LL) : Option (Bool) := (F_r21_Rect ze zc zd zE zv zy zw zx zH zC zA zD zB zt zz).bind fun t => bif t.2.2.2.2 then (F_r21_whole zo zi zm zl zp ze zc zd zk zj zf zb za zn zg zh zE zv zy zw zx zH zC zA zD zB zt zz t.1 t.2.1 t.2.2.1 t.2.2.2.1).bind fun t1 => bif (!t1) then some false else (F_r09_Unit ze zc zd zy).bind fun t2 => (G_r21_placed_0 t.2.2.2.2 ze zc zd za zE zw zx t.1 t.2.1 t.2.2.1 t.2.2.2.1 t2.2.2.2.1 FU 0).bind fun t6 => bif t6 then some false else some true else (F_r09_Unit ze zc zd zy).bind fun t7 => (F_r21_Cell zw zx).bind fun t8 => (F_r07_Passable zk zj zf t7.2.2.2.1 t8.1 t8.2).bind fun t9 => bif (!t9) then some false else (G_r21_placed_0 t.2.2.2.2 ze zc zd za zE zw zx t.1 t.2.1 t.2.2.1 t.2.2.2.1 t7.2.2.2.1 FU 0).bind fun t10 => bif t10 then some false else some true
noncomputable def A101 (us : List AVal) := F_r21_placed (aI us 0 0) (aI us 0 1) (aI us 0 2) (aB us 0 3) (aI us 0 4) (aR us 0 5) (aR us 0 6) (aR us 0 7) (aI us 0 8) (aI us 0 9) (aR us 0 10) (aR us 0 11) (aR us 0 12) (aR us 0 13) (aR us 0 14) (aR us 0 15) (aI us 1 0) (aI us 1 1) (aS us 1 2) (aI us 1 3) (aI us 1 4) (aI us 1 5) (aI us 1 6) (aI us 1 7) (aI us 1 8) (aI us 1 9) (aR us 1 10) (aR us 1 11)
noncomputable def C101 := AI.ext 101 (SM ks100 A101 enc20) C157
@[reducible] noncomputable def B101_0 := bodyOf TT TU GL0 C157 ownF L101 (lp Tryz.f101 0)
theorem spec101_0 (k : KT) : ∀ (m : Nat) (building : Bool) (i b0_0 b0_1 b0_2 : Int) (b0_3 : Bool) (b0_4 : Int) (b0_5 b0_6 b0_7 : LL) (b0_8 b0_9 : Int) (b0_10 b0_11 b0_12 b0_13 b0_14 b0_15 : LL) (b1_0 b1_1 : Int) (b1_2 : ByteArray) (b1_3 b1_4 b1_5 b1_6 b1_7 b1_8 b1_9 : Int) (b1_10 b1_11 : LL) (b2_0 b2_1 b2_2 b2_3 : Int) (b3_0 : ByteArray) (b3_1 b3_2 : Bool) (b3_3 b3_4 b3_5 b3_6 b3_7 b3_8 b3_9 b3_10 b3_11 : Int) (b3_12 : ByteArray) (b3_13 b3_14 b3_15 : Int) (b3_16 b3_17 b3_18 : LL), loopN B101_0 m (E101_0 building i b0_0 b0_1 b0_2 b0_3 b0_4 b0_5 b0_6 b0_7 b0_8 b0_9 b0_10 b0_11 b0_12 b0_13 b0_14 b0_15 b1_0 b1_1 b1_2 b1_3 b1_4 b1_5 b1_6 b1_7 b1_8 b1_9 b1_10 b1_11 b2_0 b2_1 b2_2 b2_3 b3_0 b3_1 b3_2 b3_3 b3_4 b3_5 b3_6 b3_7 b3_8 b3_9 b3_10 b3_11 b3_12 b3_13 b3_14 b3_15 b3_16 b3_17 b3_18) (KW W101_0 k) = (G_r21_placed_0 building b0_5 b0_6 b0_7 b0_12 b1_0 b1_3 b1_4 b2_0 b2_1 b2_2 b2_3 b3_3 m i).bind (X101_0 k)
 | 0, _, _, _, _, _, _, _, _, _, _, _, _, _, _, _, _, _, _, _, _, _, _, _, _, _, _, _, _, _, _, _, _, _, _, _, _, _, _, _, _, _, _, _, _, _, _, _, _, _, _, _, _, _ => rfl
 | m + 1, building, i, b0_0, b0_1, b0_2, b0_3, b0_4, b0_5, b0_6, b0_7, b0_8, b0_9, b0_10, b0_11, b0_12, b0_13, b0_14, b0_15, b1_0, b1_1, b1_2, b1_3, b1_4, b1_5, b1_6, b1_7, b1_8, b1_9, b1_10, b1_11, b2_0, b2_1, b2_2, b2_3, b3_0, b3_1, b3_2, b3_3, b3_4, b3_5, b3_6, b3_7, b3_8, b3_9, b3_10, b3_11, b3_12, b3_13, b3_14, b3_15, b3_16, b3_17, b3_18 =>
 Eq.trans (by kernel_rfl) (nd rfl (nc rfl (fun h1 => (nb fun r => (nd rfl (nb fun t => (nd rfl (spec101_0 k m building (wr (i + 1)) b0_0 b0_1 b0_2 b0_3 b0_4 b0_5 b0_6 b0_7 b0_8 b0_9 b0_10 b0_11 b0_12 b0_13 b0_14 b0_15 b1_0 b1_1 b1_2 b1_3 b1_4 b1_5 b1_6 b1_7 b1_8 b1_9 b1_10 b1_11 b2_0 b2_1 b2_2 b2_3 b3_0 b3_1 b3_2 b3_3 b3_4 b3_5 b3_6 b3_7 b3_8 b3_9 b3_10 b3_11 b3_12 b3_13 b3_14 b3_15 b3_16 b3_17 b3_18) (nu h1 (nb fun r1 => (nd rfl (nd rfl (spec101_0 k m building (wr (i + 1)) b0_0 b0_1 b0_2 b0_3 b0_4 b0_5 b0_6 b0_7 b0_8 b0_9 b0_10 b0_11 b0_12 b0_13 b0_14 b0_15 b1_0 b1_1 b1_2 b1_3 b1_4 b1_5 b1_6 b1_7 b1_8 b1_9 b1_10 b1_11 b2_0 b2_1 b2_2 b2_3 b3_0 b3_1 b3_2 b3_3 b3_4 b3_5 b3_6 b3_7 b3_8 b3_9 b3_10 b3_11 b3_12 b3_13 b3_14 b3_15 b3_16 b3_17 b3_18) (nc rfl (fun h6 => (nb fun t1 => (nd rfl rfl (n_false (A := (bif (b3_3 != 3) then ((F_r21_Cell b1_3 b1_4).bind fun t2 => ((F_r06_Inside t.1 t.2.1 t.2.2.1 t.2.2.2.1 t2.1 t2.2).bind fun t3 => (bif t3 then (k .ret ⟨(d4 ((bo false) :: (d96 []))), []⟩) else (loopN B101_0 m ⟨(.dead :: .dead :: (AVal.ref 16000 1 0 0) :: (AVal.ref 16016 1 0 0) :: .dead :: (AVal.ref 19312 1 0 0) :: (bo building) :: (AVal.ref 28928 1 0 0) :: .dead :: (i64 (wr (i + 1))) :: (d91 [])), [(Prod.mk 16000 (Blk.mk BKind.box 37 16 [[(i64 b0_0), (i64 b0_1), (i64 b0_2), (bo b0_3), (AVal.sc (Value.int IntKind.u64 b0_4)), (AVal.ro 19 b0_5), (AVal.ro 6 b0_6), (AVal.ro 8 b0_7), (i64 b0_8), (i64 b0_9), (AVal.ro 3 b0_10), (AVal.ro 6 b0_11), (AVal.ro 12 b0_12), (AVal.ro 9 b0_13), (AVal.ro 3 b0_14), (AVal.ro 4 b0_15)]])), (Prod.mk 16016 (Blk.mk BKind.box 60 12 [[(i64 b1_0), (i64 b1_1), (AVal.sc (Value.string b1_2)), (i64 b1_3), (i64 b1_4), (i64 b1_5), (i64 b1_6), (i64 b1_7), (i64 b1_8), (i64 b1_9), (AVal.ro 5 b1_10), (AVal.ro 3 b1_11)]])), (Prod.mk 19312 (Blk.mk BKind.box 180 4 [[(i64 b2_0), (i64 b2_1), (i64 b2_2), (i64 b2_3)]])), (Prod.mk 28928 (Blk.mk BKind.box 65 19 [[(AVal.sc (Value.string b3_0)), (bo b3_1), (bo b3_2), (i64 b3_3), (i64 b3_4), (i64 b3_5), (i64 b3_6), (i64 b3_7), (i64 b3_8), (i64 b3_9), (i64 b3_10), (i64 b3_11), (AVal.sc (Value.string b3_12)), (i64 b3_13), (i64 b3_14), (i64 b3_15), (AVal.ro 1 b3_16), (AVal.ro 1 b3_17), (AVal.ro 1 b3_18)]]))]⟩ (KW W101_0 k))))) else (loopN B101_0 m ⟨(.dead :: .dead :: (AVal.ref 16000 1 0 0) :: (AVal.ref 16016 1 0 0) :: .dead :: (AVal.ref 19312 1 0 0) :: (bo building) :: (AVal.ref 28928 1 0 0) :: .dead :: (i64 (wr (i + 1))) :: (d91 [])), [(Prod.mk 16000 (Blk.mk BKind.box 37 16 [[(i64 b0_0), (i64 b0_1), (i64 b0_2), (bo b0_3), (AVal.sc (Value.int IntKind.u64 b0_4)), (AVal.ro 19 b0_5), (AVal.ro 6 b0_6), (AVal.ro 8 b0_7), (i64 b0_8), (i64 b0_9), (AVal.ro 3 b0_10), (AVal.ro 6 b0_11), (AVal.ro 12 b0_12), (AVal.ro 9 b0_13), (AVal.ro 3 b0_14), (AVal.ro 4 b0_15)]])), (Prod.mk 16016 (Blk.mk BKind.box 60 12 [[(i64 b1_0), (i64 b1_1), (AVal.sc (Value.string b1_2)), (i64 b1_3), (i64 b1_4), (i64 b1_5), (i64 b1_6), (i64 b1_7), (i64 b1_8), (i64 b1_9), (AVal.ro 5 b1_10), (AVal.ro 3 b1_11)]])), (Prod.mk 19312 (Blk.mk BKind.box 180 4 [[(i64 b2_0), (i64 b2_1), (i64 b2_2), (i64 b2_3)]])), (Prod.mk 28928 (Blk.mk BKind.box 65 19 [[(AVal.sc (Value.string b3_0)), (bo b3_1), (bo b3_2), (i64 b3_3), (i64 b3_4), (i64 b3_5), (i64 b3_6), (i64 b3_7), (i64 b3_8), (i64 b3_9), (i64 b3_10), (i64 b3_11), (AVal.sc (Value.string b3_12)), (i64 b3_13), (i64 b3_14), (i64 b3_15), (AVal.ro 1 b3_16), (AVal.ro 1 b3_17), (AVal.ro 1 b3_18)]]))]⟩ (KW W101_0 k)))) (n_tn h6) (spec101_0 k m building (wr (i + 1)) b0_0 b0_1 b0_2 b0_3 b0_4 b0_5 b0_6 b0_7 b0_8 b0_9 b0_10 b0_11 b0_12 b0_13 b0_14 b0_15 b1_0 b1_1 b1_2 b1_3 b1_4 b1_5 b1_6 b1_7 b1_8 b1_9 b1_10 b1_11 b2_0 b2_1 b2_2 b2_3 b3_0 b3_1 b3_2 b3_3 b3_4 b3_5 b3_6 b3_7 b3_8 b3_9 b3_10 b3_11 b3_12 b3_13 b3_14 b3_15 b3_16 b3_17 b3_18))))) fun h6 => (n_true (B := (loopN B101_0 m ⟨(.dead :: .dead :: (AVal.ref 16000 1 0 0) :: (AVal.ref 16016 1 0 0) :: .dead :: (AVal.ref 19312 1 0 0) :: (bo building) :: (AVal.ref 28928 1 0 0) :: .dead :: (i64 (wr (i + 1))) :: (d91 [])), [(Prod.mk 16000 (Blk.mk BKind.box 37 16 [[(i64 b0_0), (i64 b0_1), (i64 b0_2), (bo b0_3), (AVal.sc (Value.int IntKind.u64 b0_4)), (AVal.ro 19 b0_5), (AVal.ro 6 b0_6), (AVal.ro 8 b0_7), (i64 b0_8), (i64 b0_9), (AVal.ro 3 b0_10), (AVal.ro 6 b0_11), (AVal.ro 12 b0_12), (AVal.ro 9 b0_13), (AVal.ro 3 b0_14), (AVal.ro 4 b0_15)]])), (Prod.mk 16016 (Blk.mk BKind.box 60 12 [[(i64 b1_0), (i64 b1_1), (AVal.sc (Value.string b1_2)), (i64 b1_3), (i64 b1_4), (i64 b1_5), (i64 b1_6), (i64 b1_7), (i64 b1_8), (i64 b1_9), (AVal.ro 5 b1_10), (AVal.ro 3 b1_11)]])), (Prod.mk 19312 (Blk.mk BKind.box 180 4 [[(i64 b2_0), (i64 b2_1), (i64 b2_2), (i64 b2_3)]])), (Prod.mk 28928 (Blk.mk BKind.box 65 19 [[(AVal.sc (Value.string b3_0)), (bo b3_1), (bo b3_2), (i64 b3_3), (i64 b3_4), (i64 b3_5), (i64 b3_6), (i64 b3_7), (i64 b3_8), (i64 b3_9), (i64 b3_10), (i64 b3_11), (AVal.sc (Value.string b3_12)), (i64 b3_13), (i64 b3_14), (i64 b3_15), (AVal.ro 1 b3_16), (AVal.ro 1 b3_17), (AVal.ro 1 b3_18)]]))]⟩ (KW W101_0 k))) (n_fn h6) (nd rfl (nb fun t4 => (nb fun t5 => (nd rfl rfl (spec101_0 k m building (wr (i + 1)) b0_0 b0_1 b0_2 b0_3 b0_4 b0_5 b0_6 b0_7 b0_8 b0_9 b0_10 b0_11 b0_12 b0_13 b0_14 b0_15 b1_0 b1_1 b1_2 b1_3 b1_4 b1_5 b1_6 b1_7 b1_8 b1_9 b1_10 b1_11 b2_0 b2_1 b2_2 b2_3 b3_0 b3_1 b3_2 b3_3 b3_4 b3_5 b3_6 b3_7 b3_8 b3_9 b3_10 b3_11 b3_12 b3_13 b3_14 b3_15 b3_16 b3_17 b3_18)))) (spec101_0 k m building (wr (i + 1)) b0_0 b0_1 b0_2 b0_3 b0_4 b0_5 b0_6 b0_7 b0_8 b0_9 b0_10 b0_11 b0_12 b0_13 b0_14 b0_15 b1_0 b1_1 b1_2 b1_3 b1_4 b1_5 b1_6 b1_7 b1_8 b1_9 b1_10 b1_11 b2_0 b2_1 b2_2 b2_3 b3_0 b3_1 b3_2 b3_3 b3_4 b3_5 b3_6 b3_7 b3_8 b3_9 b3_10 b3_11 b3_12 b3_13 b3_14 b3_15 b3_16 b3_17 b3_18))))) rfl))))) rfl))) fun h1 => rfl) rfl)
theorem okL101_0 : LoopOk TT TU GL0 C157 ownF L101 (lp Tryz.f101 0) :=
 loopOk_of ks101_0 hs101_0 W101_0 FU _ (fun s k => by kernel_rfl) (fun s k => spec101_0 k FU (sB s 6) (sI s 9) (aIh s 0 0) (aIh s 0 1) (aIh s 0 2) (aBh s 0 3) (aIh s 0 4) (aRh s 0 5) (aRh s 0 6) (aRh s 0 7) (aIh s 0 8) (aIh s 0 9) (aRh s 0 10) (aRh s 0 11) (aRh s 0 12) (aRh s 0 13) (aRh s 0 14) (aRh s 0 15) (aIh s 1 0) (aIh s 1 1) (aSh s 1 2) (aIh s 1 3) (aIh s 1 4) (aIh s 1 5) (aIh s 1 6) (aIh s 1 7) (aIh s 1 8) (aIh s 1 9) (aRh s 1 10) (aRh s 1 11) (aIh s 2 0) (aIh s 2 1) (aIh s 2 2) (aIh s 2 3) (aSh s 3 0) (aBh s 3 1) (aBh s 3 2) (aIh s 3 3) (aIh s 3 4) (aIh s 3 5) (aIh s 3 6) (aIh s 3 7) (aIh s 3 8) (aIh s 3 9) (aIh s 3 10) (aIh s 3 11) (aSh s 3 12) (aIh s 3 13) (aIh s 3 14) (aIh s 3 15) (aRh s 3 16) (aRh s 3 17) (aRh s 3 18))
theorem run101 (zo zi zm : Int) (zl : Bool) (zp : Int) (ze zc zd : LL) (zk zj : Int) (zf zb za zn zg zh : LL) (zE zv : Int) (zy : ByteArray) (zw zx zH zC zA zD zB : Int) (zt zz : LL) : fcall TT TU GL0 C157 ownF true L101 Tryz.f101 [(.agg (GM zo zi zm zl zp ze zc zd zk zj zf zb za zn zg zh)), (.agg [(i64 zE), (i64 zv), (.sc (.string zy)), (i64 zw), (i64 zx), (i64 zH), (i64 zC), (i64 zA), (i64 zD), (i64 zB), (.ro 5 zt), (.ro 3 zz)])] = (F_r21_placed zo zi zm zl zp ze zc zd zk zj zf zb za zn zg zh zE zv zy zw zx zH zC zA zD zB zt zz).bind fun t => some (enc20 t) :=
 Eq.trans (by kernel_rfl) (nb fun t => (nc rfl (fun h0 => (nb fun t1 => (nd rfl rfl (nb fun t2 => (n_false (A := ((F_r21_Cell zw zx).bind fun t3 => ((F_r07_Passable zk zj zf t2.2.2.2.1 t3.1 t3.2).bind fun t4 => (bif (!t4) then (some (CR.mk true (bo false) [] [])) else ((G_r21_placed_0 t.2.2.2.2 ze zc zd za zE zw zx t.1 t.2.1 t.2.2.1 t.2.2.2.1 t2.2.2.2.1 FU 0).bind fun t5 => (bif t5 then (some (CR.mk true (bo false) [] [])) else (some (CR.mk true (bo true) [] [])))))))) (n_tn h0) (nb fun t6 => (nd rfl rfl rfl))))))) fun h0 => (nb fun t7 => (n_true (B := ((G_r21_placed_0 t.2.2.2.2 ze zc zd za zE zw zx t.1 t.2.1 t.2.2.1 t.2.2.2.1 t7.2.2.2.1 FU 0).bind fun t11 => (bif t11 then (some (CR.mk true (bo false) [] [])) else (some (CR.mk true (bo true) [] []))))) (n_fn h0) (nb fun t8 => (nb fun t9 => (nd rfl rfl (nb fun t10 => (nd rfl rfl rfl)))))))))
theorem lib101 : Lib Tryz.prog GL0 C101 :=
 LF lib157 Tryz.func101 (by decide +kernel) (by kernel_rfl) true L101 (loops_of 1 (by kernel_rfl) (belowS below0 okL101_0)) (fun us => run101 _ _ _ _ _ _ _ _ _ _ _ _ _ _ _ _ _ _ _ _ _ _ _ _ _ _ _ _) (fun t => rfl)
noncomputable def F_r21_Ready (zE zv : Int) (zy : ByteArray) (zw zx zH zC zA zD zB : Int) (zt zz : LL) : Option (Bool) := some (zA == 0)
noncomputable def A77 (us : List AVal) := F_r21_Ready (aI us 0 0) (aI us 0 1) (aS us 0 2) (aI us 0 3) (aI us 0 4) (aI us 0 5) (aI us 0 6) (aI us 0 7) (aI us 0 8) (aI us 0 9) (aR us 0 10) (aR us 0 11)
noncomputable def C77 := AI.ext 77 (SM ks150 A77 enc20) C101
theorem run77 (zE zv : Int) (zy : ByteArray) (zw zx zH zC zA zD zB : Int) (zt zz : LL) : fcall TT TU GL0 C101 ownF true noL Tryz.f77 [(.agg [(i64 zE), (i64 zv), (.sc (.string zy)), (i64 zw), (i64 zx), (i64 zH), (i64 zC), (i64 zA), (i64 zD), (i64 zB), (.ro 5 zt), (.ro 3 zz)])] = (F_r21_Ready zE zv zy zw zx zH zC zA zD zB zt zz).bind fun t => some (enc20 t) :=
 Eq.trans (by kernel_rfl) rfl
theorem lib77 : Lib Tryz.prog GL0 C77 :=
 LF lib101 Tryz.func77 (by decide +kernel) (by kernel_rfl) true noL (loops_of 0 (by kernel_rfl) below0) (fun us => run77 _ _ _ _ _ _ _ _ _ _ _ _) (fun t => rfl)
noncomputable def F_r21_proper (zo zi zm : Int) (zl : Bool) (zp : Int) (ze zc zd : LL) (zk zj : Int) (zf zb za zn zg zh : LL) (zE zv : Int) (zy : ByteArray) (zw zx zH zC zA zD zB : Int) (zt zz : LL) : Option (Bool) := (F_r09_Unit ze zc zd zy).bind fun t => bif t.2.1 then bif ((Int.ofNat zt.length) == 0) then bif (zD == 0) then bif (zB == 0) then (F_r21_Ready zE zv zy zw zx zH zC zA zD zB zt zz).bind fun t1 => bif t1 then some true else some ((Int.ofNat zz.length) == 0) else some false else some false else some false else bif ((Int.ofNat zz.length) == 0) then (F_r21_Ready zE zv zy zw zx zH zC zA zD zB zt zz).bind fun t2 => bif t2 then some (decide ((wr (zD + zB)) ≤ t.2.2.2.2.2.2.2.2.2.2.2.1)) else some false else some false
noncomputable def A102 (us : List AVal) := F_r21_proper (aI us 0 0) (aI us 0 1) (aI us 0 2) (aB us 0 3) (aI us 0 4) (aR us 0 5) (aR us 0 6) (aR us 0 7) (aI us 0 8) (aI us 0 9) (aR us 0 10) (aR us 0 11) (aR us 0 12) (aR us 0 13) (aR us 0 14) (aR us 0 15) (aI us 1 0) (aI us 1 1) (aS us 1 2) (aI us 1 3) (aI us 1 4) (aI us 1 5) (aI us 1 6) (aI us 1 7) (aI us 1 8) (aI us 1 9) (aR us 1 10) (aR us 1 11)
noncomputable def C102 := AI.ext 102 (SM ks100 A102 enc20) C77
theorem run102 (zo zi zm : Int) (zl : Bool) (zp : Int) (ze zc zd : LL) (zk zj : Int) (zf zb za zn zg zh : LL) (zE zv : Int) (zy : ByteArray) (zw zx zH zC zA zD zB : Int) (zt zz : LL) : fcall TT TU GL0 C77 ownF true noL Tryz.f102 [(.agg (GM zo zi zm zl zp ze zc zd zk zj zf zb za zn zg zh)), (.agg [(i64 zE), (i64 zv), (.sc (.string zy)), (i64 zw), (i64 zx), (i64 zH), (i64 zC), (i64 zA), (i64 zD), (i64 zB), (.ro 5 zt), (.ro 3 zz)])] = (F_r21_proper zo zi zm zl zp ze zc zd zk zj zf zb za zn zg zh zE zv zy zw zx zH zC zA zD zB zt zz).bind fun t => some (enc20 t) :=
 Eq.trans (by kernel_rfl) (nb fun t => (nd rfl (nd rfl (nd rfl (nd rfl (nb fun t1 => (nd rfl rfl rfl)) rfl) rfl) rfl) (nd rfl (nb fun t2 => (nd rfl rfl rfl)) rfl)))
theorem lib102 : Lib Tryz.prog GL0 C102 :=
 LF lib77 Tryz.func102 (by decide +kernel) (by kernel_rfl) true noL (loops_of 0 (by kernel_rfl) below0) (fun us => run102 _ _ _ _ _ _ _ _ _ _ _ _ _ _ _ _ _ _ _ _ _ _ _ _ _ _ _ _) (fun t => rfl)
noncomputable def F_r21_Body (zr zq zs : LL) (zE zv : Int) (zy : ByteArray) (zw zx zH zC zA zD zB : Int) (zt zz : LL) : Option (Int × Int × Int × Int × Int × Int × Int × Bool) := (F_r09_Unit zr zq zs zy).bind fun t => bif (!t.2.2.2.2.2.2.2.2.2.2.2.2.2.2.2.2.2.2.2) then some (0, 0, 0, 0, 0, 0, 0, false) else bif t.2.1 then some (0, 0, 0, 0, 0, 0, 0, false) else some (zE, t.2.2.2.1, t.2.2.2.2.2.2.1, zw, zx, 0, 0, true)
def enc159 (t : Int × Int × Int × Int × Int × Int × Int × Bool) : CR := ⟨true, (.tup [(.agg [(.sc (.int .i64 t.1)), (.sc (.int .i64 t.2.1)), (.sc (.int .i64 t.2.2.1)), (.sc (.int .i64 t.2.2.2.1)), (.sc (.int .i64 t.2.2.2.2.1)), (.sc (.int .i64 t.2.2.2.2.2.1)), (.sc (.int .i64 t.2.2.2.2.2.2.1))]), (.sc (.bool t.2.2.2.2.2.2.2))]), [], []⟩
noncomputable def A159 (us : List AVal) := F_r21_Body (aR us 0 0) (aR us 0 1) (aR us 0 2) (aI us 1 0) (aI us 1 1) (aS us 1 2) (aI us 1 3) (aI us 1 4) (aI us 1 5) (aI us 1 6) (aI us 1 7) (aI us 1 8) (aI us 1 9) (aR us 1 10) (aR us 1 11)
noncomputable def C159 := AI.ext 159 (SM ks118 A159 enc159) C102
theorem run159 (zr zq zs : LL) (zE zv : Int) (zy : ByteArray) (zw zx zH zC zA zD zB : Int) (zt zz : LL) : fcall TT TU GL0 C102 ownF true noL Tryz.f159 [(.agg [(.ro 19 zr), (.ro 6 zq), (.ro 8 zs)]), (.agg [(i64 zE), (i64 zv), (.sc (.string zy)), (i64 zw), (i64 zx), (i64 zH), (i64 zC), (i64 zA), (i64 zD), (i64 zB), (.ro 5 zt), (.ro 3 zz)])] = (F_r21_Body zr zq zs zE zv zy zw zx zH zC zA zD zB zt zz).bind fun t => some (enc159 t) :=
 Eq.trans (by kernel_rfl) (nb fun t => (nd rfl rfl (nd rfl rfl rfl)))
theorem lib159 : Lib Tryz.prog GL0 C159 :=
 LF lib102 Tryz.func159 (by decide +kernel) (by kernel_rfl) true noL (loops_of 0 (by kernel_rfl) below0) (fun us => run159 _ _ _ _ _ _ _ _ _ _ _ _ _ _ _) (fun t => rfl)
def W104_0 : Ex → List Bool
 | .ret => (e4 (true :: (e25 [])))
 | .exit n => bif Nat.beq n 0 then (e5 (true :: (e24 []))) else []
 | .normal => []
noncomputable def G_r21_Bodies_0 (l b0_0 b0_1 b0_2 : LL) : Nat → LL → Int → Option (LL)
 | 0, _, _ => none
 | m + 1, R1, i => bif (decide (i < (Int.ofNat l.length))) then bif (decide (0 ≤ i)) then (l[i.toNat]?).bind fun r => bif (chk y6 r) then (F_r21_Body b0_0 b0_1 b0_2 (cI r 0) (cI r 1) (cS r 2) (cI r 3) (cI r 4) (cI r 5) (cI r 6) (cI r 7) (cI r 8) (cI r 9) (roRows (AVal.ro 5 (cR r 10))) (roRows (AVal.ro 3 (cR r 11)))).bind fun t => bif t.2.2.2.2.2.2.2 then bif (roomOk (R1.length + 1) 56) then
 G_r21_Bodies_0 l b0_0 b0_1 b0_2 m (R1 ++ [[(i64 t.1), (i64 t.2.1), (i64 t.2.2.1), (i64 t.2.2.2.1), (i64 t.2.2.2.2.1), (i64 t.2.2.2.2.2.1), (i64 t.2.2.2.2.2.2.1)]]) (wr (i + 1)) else none else
 G_r21_Bodies_0 l b0_0 b0_1 b0_2 m R1 (wr (i + 1)) else none else none else some R1
def E104_0 (R1 l : LL) (i : Int) (b0_0 b0_1 b0_2 : LL) : St := ⟨(.dead :: (.ro 12 l) :: (.ref 16000 1 0 0) :: .dead :: .dead :: (.slc 19200 (R1).length) :: (i64 i) :: (d23 [])), [(16000, ⟨.box, 27, 3, [[(.ro 19 b0_0), (.ro 6 b0_1), (.ro 8 b0_2)]]⟩), (19200, ⟨.arr, 205, 7, R1⟩)]⟩
def X104_0 (k : KT) (t : LL) : Option CR := k (.exit 0) ⟨(d5 ((.slc 19200 (t).length) :: (d24 []))), [(19200, ⟨.arr, 205, 7, t⟩)]⟩
def ks104_0 : List SK := (.f .dead :: .f (.ro 12) :: .f (.ref 16000 1 0 0) :: .f .dead :: .f .dead :: .f (.slc 19200 1) :: .f (.int .i64) :: (f23 []))
def hs104_0 : List HK := [⟨16000, .box, 27, 3, some [.ro 19, .ro 6, .ro 8]⟩, ⟨19200, .arr, 205, 7, none⟩]
noncomputable def Lm104_0 (s : St) (k : KT) : Option CR := bif chkS ks104_0 hs104_0 s then (G_r21_Bodies_0 (sR s 1) (aRh s 0 0) (aRh s 0 1) (aRh s 0 2) FU (blkAt s.heap 1).2.rows (sI s 6)).bind (X104_0 k) else none
noncomputable def L104 : LT' := fun i s k => bif Nat.beq i 0 then (Lm104_0 (maskS (maskOf ks104_0) s) k) else none
noncomputable def F_r21_Bodies (zr zq zs l : LL) : Option (LL) := (G_r21_Bodies_0 l zr zq zs FU [] 0).bind fun t => some t
def enc104 (t : LL) : CR := ⟨true, (.slc 0 (t).length), [], [⟨.arr, 205, 7, t⟩]⟩
def ks104 : List SK := [.agg [.ro 19, .ro 6, .ro 8], .f (.ro 12)]
noncomputable def A104 (us : List AVal) := F_r21_Bodies (aR us 0 0) (aR us 0 1) (aR us 0 2) (roRows (cIa us 1))
noncomputable def C104 := AI.ext 104 (SM ks104 A104 enc104) C159
@[reducible] noncomputable def B104_0 := bodyOf TT TU GL0 C159 ownF L104 (lp Tryz.f104 0)
theorem spec104_0 (k : KT) : ∀ (m : Nat) (R1 l : LL) (i : Int) (b0_0 b0_1 b0_2 : LL), loopN B104_0 m (E104_0 R1 l i b0_0 b0_1 b0_2) (KW W104_0 k) = (G_r21_Bodies_0 l b0_0 b0_1 b0_2 m R1 i).bind (X104_0 k)
 | 0, _, _, _, _, _, _ => rfl
 | m + 1, R1, l, i, b0_0, b0_1, b0_2 =>
 Eq.trans (by kernel_rfl) (nd rfl (nd rfl (nb fun r => (nd rfl (nb fun t => (nd rfl (nd (show ((((verEq R1.length R1.length) && true) && (roomOk (R1.length + 1) 56))) = _ from (n_andL (n_andL (verEq_rfl _) rfl) rfl)) (spec104_0 k m (R1 ++ [[(i64 t.1), (i64 t.2.1), (i64 t.2.2.1), (i64 t.2.2.2.1), (i64 t.2.2.2.2.1), (i64 t.2.2.2.2.2.1), (i64 t.2.2.2.2.2.2.1)]]) l (wr (i + 1)) b0_0 b0_1 b0_2) rfl) (spec104_0 k m R1 l (wr (i + 1)) b0_0 b0_1 b0_2))) rfl)) rfl) rfl)
theorem okL104_0 : LoopOk TT TU GL0 C159 ownF L104 (lp Tryz.f104 0) :=
 loopOk_of ks104_0 hs104_0 W104_0 FU _ (fun s k => by kernel_rfl) (fun s k => spec104_0 k FU (blkAt s.heap 1).2.rows (sR s 1) (sI s 6) (aRh s 0 0) (aRh s 0 1) (aRh s 0 2))
theorem run104 (zr zq zs l : LL) : fcall TT TU GL0 C159 ownF true L104 Tryz.f104 [(.agg [(.ro 19 zr), (.ro 6 zq), (.ro 8 zs)]), (.ro 12 l)] = (F_r21_Bodies zr zq zs l).bind fun t => some (enc104 t) :=
 Eq.trans (by kernel_rfl) (nb fun t => (nu (vr t) rfl))
theorem lib104 : Lib Tryz.prog GL0 C104 :=
 LF lib159 Tryz.func104 (by decide +kernel) (by kernel_rfl) true L104 (loops_of 1 (by kernel_rfl) (belowS below0 okL104_0)) (fun us => run104 _ _ _ _) (fun t => rfl)
noncomputable def F_r01_Clamp (n lo hi : Int) : Option (Int) := some (maxI lo (minI n hi))
noncomputable def A119 (us : List AVal) := F_r01_Clamp (toI (cIa us 0)) (toI (cIa us 1)) (toI (cIa us 2))
noncomputable def C119 := AI.ext 119 (SM ks144 A119 enc44) C104
theorem run119 (n lo hi : Int) : fcall TT TU GL0 C104 ownF true noL Tryz.f119 [(i64 n), (i64 lo), (i64 hi)] = (F_r01_Clamp n lo hi).bind fun t => some (enc44 t) :=
 Eq.trans (by kernel_rfl) rfl
theorem lib119 : Lib Tryz.prog GL0 C119 :=
 LF lib104 Tryz.func119 (by decide +kernel) (by kernel_rfl) true noL (loops_of 0 (by kernel_rfl) below0) (fun us => run119 _ _ _) (fun t => rfl)
noncomputable def F_r02_Dot (zF zG zQ zR : Int) : Option (Int) := (F_r02_NearVec zF zG).bind fun t => (F_r02_NearVec zQ zR).bind fun t1 => some (wr ((wr (t.1 * t1.1)) + (wr (t.2 * t1.2))))
noncomputable def A165 (us : List AVal) := F_r02_Dot (aI us 0 0) (aI us 0 1) (aI us 1 0) (aI us 1 1)
noncomputable def C165 := AI.ext 165 (SM ks68 A165 enc44) C119
theorem run165 (zF zG zQ zR : Int) : fcall TT TU GL0 C119 ownF true noL Tryz.f165 [(.agg [(i64 zF), (i64 zG)]), (.agg [(i64 zQ), (i64 zR)])] = (F_r02_Dot zF zG zQ zR).bind fun t => some (enc44 t) :=
 Eq.trans (by kernel_rfl) (nb fun t => (nb fun t1 => rfl))
theorem lib165 : Lib Tryz.prog GL0 C165 :=
 LF lib119 Tryz.func165 (by decide +kernel) (by kernel_rfl) true noL (loops_of 0 (by kernel_rfl) below0) (fun us => run165 _ _ _ _) (fun t => rfl)
noncomputable def F_r02_Len2 (zF zG : Int) : Option (Int) := (F_r02_Dot zF zG zF zG).bind fun t => some t
noncomputable def A116 (us : List AVal) := F_r02_Len2 (aI us 0 0) (aI us 0 1)
noncomputable def C116 := AI.ext 116 (SM ks117 A116 enc44) C165
theorem run116 (zF zG : Int) : fcall TT TU GL0 C165 ownF true noL Tryz.f116 [(.agg [(i64 zF), (i64 zG)])] = (F_r02_Len2 zF zG).bind fun t => some (enc44 t) :=
 Eq.trans (by kernel_rfl) (nb fun t => rfl)
theorem lib116 : Lib Tryz.prog GL0 C116 :=
 LF lib165 Tryz.func116 (by decide +kernel) (by kernel_rfl) true noL (loops_of 0 (by kernel_rfl) below0) (fun us => run116 _ _) (fun t => rfl)
noncomputable def F_r19_Overlap (zbe zat zcd zac zad zbX zbY za4 zav zce zaf zag zbZ zb0 : Int) : Option (Bool) := bif (!((zat == 3) == (zav == 3))) then some false else (F_r01_Clamp zcd 0 1048576).bind fun t => (F_r01_Clamp zce 0 1048576).bind fun t1 => (F_r02_Sub zac zad zaf zag).bind fun t2 => (F_r02_Len2 t2.1 t2.2).bind fun t3 => some (decide (t3 < (wr ((wr (t + t1)) * (wr (t + t1))))))
def ks158 : List SK := [.agg [.int .i64, .int .i64, .int .i64, .int .i64, .int .i64, .int .i64, .int .i64], .agg [.int .i64, .int .i64, .int .i64, .int .i64, .int .i64, .int .i64, .int .i64]]
noncomputable def A158 (us : List AVal) := F_r19_Overlap (aI us 0 0) (aI us 0 1) (aI us 0 2) (aI us 0 3) (aI us 0 4) (aI us 0 5) (aI us 0 6) (aI us 1 0) (aI us 1 1) (aI us 1 2) (aI us 1 3) (aI us 1 4) (aI us 1 5) (aI us 1 6)
noncomputable def C158 := AI.ext 158 (SM ks158 A158 enc20) C116
theorem run158 (zbe zat zcd zac zad zbX zbY za4 zav zce zaf zag zbZ zb0 : Int) : fcall TT TU GL0 C116 ownF true noL Tryz.f158 [(.agg [(i64 zbe), (i64 zat), (i64 zcd), (i64 zac), (i64 zad), (i64 zbX), (i64 zbY)]), (.agg [(i64 za4), (i64 zav), (i64 zce), (i64 zaf), (i64 zag), (i64 zbZ), (i64 zb0)])] = (F_r19_Overlap zbe zat zcd zac zad zbX zbY za4 zav zce zaf zag zbZ zb0).bind fun t => some (enc20 t) :=
 Eq.trans (by kernel_rfl) (nd rfl rfl (nb fun t => (nb fun t1 => (nb fun t2 => (nb fun t3 => rfl)))))
theorem lib158 : Lib Tryz.prog GL0 C158 :=
 LF lib116 Tryz.func158 (by decide +kernel) (by kernel_rfl) true noL (loops_of 0 (by kernel_rfl) below0) (fun us => run158 _ _ _ _ _ _ _ _ _ _ _ _ _ _) (fun t => rfl)
def W103_1 : Ex → List Bool
 | .ret => (false :: false :: true :: (e22 []))
 | .exit n => bif Nat.beq n 2 then (true :: false :: false :: true :: (e21 [])) else bif Nat.beq n 1 then (true :: false :: false :: true :: (e21 [])) else bif Nat.beq n 0 then (e25 []) else []
 | .normal => []
noncomputable def G_r19_Separated_1 (l : LL) (i : Int) : Nat → Int → Option (Bool)
 | 0, _ => none
 | m + 1, k1 => bif (decide (k1 < i)) then bif (decide (0 ≤ i)) then (l[i.toNat]?).bind fun r => bif (chk y8 r) then bif (decide (0 ≤ k1)) then (l[k1.toNat]?).bind fun r1 => bif (chk y8 r1) then (F_r19_Overlap (cI r 0) (cI r 1) (cI r 2) (cI r 3) (cI r 4) (cI r 5) (cI r 6) (cI r1 0) (cI r1 1) (cI r1 2) (cI r1 3) (cI r1 4) (cI r1 5) (cI r1 6)).bind fun t => bif t then some true else
 G_r19_Separated_1 l i m (wr (k1 + 1)) else none else none else none else none else some false
def E103_1 (l : LL) (i k1 : Int) : St := ⟨((.ro 7 l) :: .dead :: .dead :: (i64 i) :: (i64 k1) :: (d20 [])), []⟩
def X103_1 (l : LL) (i : Int) (k : KT) (t : Bool) : Option CR := bif t then k .ret ⟨(.dead :: .dead :: (bo false) :: (d22 [])), []⟩ else k (.exit 2) ⟨((.ro 7 l) :: .dead :: .dead :: (i64 i) :: (d21 [])), []⟩
def ks103_1 : List SK := (.f (.ro 7) :: .f .dead :: .f .dead :: .f (.int .i64) :: .f (.int .i64) :: (f20 []))
noncomputable def Lm103_1 (s : St) (k : KT) : Option CR := bif chkS ks103_1 hs44_0 s then (G_r19_Separated_1 (sR s 0) (sI s 3) FU (sI s 4)).bind (X103_1 (sR s 0) (sI s 3) k) else none
noncomputable def G_r19_Separated_0 (l : LL) : Nat → Int → Option (Bool)
 | 0, _ => none
 | m + 1, i => bif (decide (i < (Int.ofNat l.length))) then (G_r19_Separated_1 l i FU 0).bind fun t => bif t then some true else
 G_r19_Separated_0 l m (wr (i + 1)) else some false
def E103_0 (l : LL) (i : Int) : St := ⟨((.ro 7 l) :: .dead :: .dead :: (i64 i) :: (d21 [])), []⟩
def X103_0 (k : KT) (t : Bool) : Option CR := bif t then k .ret ⟨(.dead :: .dead :: (bo false) :: (d22 [])), []⟩ else k (.exit 0) ⟨(d25 []), []⟩
def ks103_0 : List SK := (.f (.ro 7) :: .f .dead :: .f .dead :: .f (.int .i64) :: (f21 []))
noncomputable def Lm103_0 (s : St) (k : KT) : Option CR := bif chkS ks103_0 hs44_0 s then (G_r19_Separated_0 (sR s 0) FU (sI s 3)).bind (X103_0 k) else none
noncomputable def L103 : LT' := fun i s k => bif Nat.beq i 0 then (Lm103_0 (maskS (maskOf ks103_0) s) k) else bif Nat.beq i 2 then (Lm103_1 (maskS (maskOf ks103_1) s) k) else none
noncomputable def F_r19_Separated (l : LL) : Option (Bool) := (G_r19_Separated_0 l FU 0).bind fun t => bif t then some false else some true
def ks103 : List SK := [.f (.ro 7)]
noncomputable def A103 (us : List AVal) := F_r19_Separated (roRows (cIa us 0))
noncomputable def C103 := AI.ext 103 (SM ks103 A103 enc20) C158
@[reducible] noncomputable def B103_1 := bodyOf TT TU GL0 C158 ownF L103 (lp Tryz.f103 1)
theorem spec103_1 (k : KT) : ∀ (m : Nat) (l : LL) (i k1 : Int), loopN B103_1 m (E103_1 l i k1) (KW W103_1 k) = (G_r19_Separated_1 l i m k1).bind (X103_1 l i k)
 | 0, _, _, _ => rfl
 | m + 1, l, i, k1 =>
 Eq.trans (by kernel_rfl) (nd rfl (nd rfl (nb fun r => (nd rfl (nd rfl (nb fun r1 => (nd rfl (nb fun t => (nd rfl rfl (spec103_1 k m l i (wr (k1 + 1))))) rfl)) rfl) rfl)) rfl) rfl)
theorem okL103_1 : LoopOk TT TU GL0 C158 ownF L103 (lp Tryz.f103 1) :=
 loopOk_of ks103_1 hs44_0 W103_1 FU _ (fun s k => by kernel_rfl) (fun s k => spec103_1 k FU (sR s 0) (sI s 3) (sI s 4))
@[reducible] noncomputable def B103_0 := bodyOf TT TU GL0 C158 ownF L103 (lp Tryz.f103 0)
theorem spec103_0 (k : KT) : ∀ (m : Nat) (l : LL) (i : Int), loopN B103_0 m (E103_0 l i) (KW W21_0 k) = (G_r19_Separated_0 l m i).bind (X103_0 k)
 | 0, _, _ => rfl
 | m + 1, l, i =>
 Eq.trans (by kernel_rfl) (nd rfl (nb fun t => (nd rfl rfl (spec103_0 k m l (wr (i + 1))))) rfl)
theorem okL103_0 : LoopOk TT TU GL0 C158 ownF L103 (lp Tryz.f103 0) :=
 loopOk_of ks103_0 hs44_0 W21_0 FU _ (fun s k => by kernel_rfl) (fun s k => spec103_0 k FU (sR s 0) (sI s 3))
theorem run103 (l : LL) : fcall TT TU GL0 C158 ownF true L103 Tryz.f103 [(.ro 7 l)] = (F_r19_Separated l).bind fun t => some (enc20 t) :=
 Eq.trans (by kernel_rfl) (nb fun t => (nd rfl rfl rfl))
theorem lib103 : Lib Tryz.prog GL0 C103 :=
 LF lib158 Tryz.func103 (by decide +kernel) (by kernel_rfl) true L103 (loops_of 2 (by kernel_rfl) (belowS (belowS below0 okL103_0) okL103_1)) (fun us => run103 _) (fun t => rfl)
noncomputable def G_r21_Validate_0 (b0_0 b0_1 b0_2 : Int) (b0_3 : Bool) (b0_4 : Int) (b0_5 b0_6 b0_7 : LL) (b0_8 b0_9 : Int) (b0_10 b0_11 b0_12 b0_13 b0_14 b0_15 : LL) : Nat → Int → Option (Bool)
 | 0, _ => none
 | m + 1, i => bif (decide (i < (Int.ofNat b0_12.length))) then bif (decide (0 ≤ i)) then (b0_12[i.toNat]?).bind fun r => bif (chk y6 r) then (F_r21_named b0_0 b0_1 b0_2 b0_3 b0_4 b0_5 b0_6 b0_7 b0_8 b0_9 b0_10 b0_11 b0_12 b0_13 b0_14 b0_15 (cI r 0) (cI r 1) (cS r 2) (cI r 3) (cI r 4) (cI r 5) (cI r 6) (cI r 7) (cI r 8) (cI r 9) (roRows (AVal.ro 5 (cR r 10))) (roRows (AVal.ro 3 (cR r 11)))).bind fun t => bif (!t) then some true else
 G_r21_Validate_0 b0_0 b0_1 b0_2 b0_3 b0_4 b0_5 b0_6 b0_7 b0_8 b0_9 b0_10 b0_11 b0_12 b0_13 b0_14 b0_15 m (wr (i + 1)) else none else none else some false
def E47_0 (i b0_0 b0_1 b0_2 : Int) (b0_3 : Bool) (b0_4 : Int) (b0_5 b0_6 b0_7 : LL) (b0_8 b0_9 : Int) (b0_10 b0_11 b0_12 b0_13 b0_14 b0_15 : LL) : St := ⟨(.dead :: (.ref 16000 1 0 0) :: .dead :: (i64 i) :: (d61 [])), [(16000, ⟨.box, 37, 16, [(GM b0_0 b0_1 b0_2 b0_3 b0_4 b0_5 b0_6 b0_7 b0_8 b0_9 b0_10 b0_11 b0_12 b0_13 b0_14 b0_15)]⟩)]⟩
def X47_0 (b0_0 b0_1 b0_2 : Int) (b0_3 : Bool) (b0_4 : Int) (b0_5 b0_6 b0_7 : LL) (b0_8 b0_9 : Int) (b0_10 b0_11 b0_12 b0_13 b0_14 b0_15 : LL) (k : KT) (t : Bool) : Option CR := bif t then k .ret ⟨(.dead :: .dead :: (.sc (.int .i64 8)) :: (d62 [])), []⟩ else k (.exit 0) ⟨(.dead :: (.ref 16000 1 0 0) :: (d63 [])), [(16000, ⟨.box, 37, 16, [(GM b0_0 b0_1 b0_2 b0_3 b0_4 b0_5 b0_6 b0_7 b0_8 b0_9 b0_10 b0_11 b0_12 b0_13 b0_14 b0_15)]⟩)]⟩
noncomputable def Lm47_0 (s : St) (k : KT) : Option CR := bif chkS ks88_0 hs99_0 s then (G_r21_Validate_0 (aIh s 0 0) (aIh s 0 1) (aIh s 0 2) (aBh s 0 3) (aIh s 0 4) (aRh s 0 5) (aRh s 0 6) (aRh s 0 7) (aIh s 0 8) (aIh s 0 9) (aRh s 0 10) (aRh s 0 11) (aRh s 0 12) (aRh s 0 13) (aRh s 0 14) (aRh s 0 15) FU (sI s 3)).bind (X47_0 (aIh s 0 0) (aIh s 0 1) (aIh s 0 2) (aBh s 0 3) (aIh s 0 4) (aRh s 0 5) (aRh s 0 6) (aRh s 0 7) (aIh s 0 8) (aIh s 0 9) (aRh s 0 10) (aRh s 0 11) (aRh s 0 12) (aRh s 0 13) (aRh s 0 14) (aRh s 0 15) k) else none
def W47_1 : Ex → List Bool
 | .ret => (false :: false :: true :: (e62 []))
 | .exit n => bif Nat.beq n 2 then (false :: true :: (e63 [])) else []
 | .normal => []
noncomputable def G_r21_Validate_1 (b0_0 b0_1 b0_2 : Int) (b0_3 : Bool) (b0_4 : Int) (b0_5 b0_6 b0_7 : LL) (b0_8 b0_9 : Int) (b0_10 b0_11 b0_12 b0_13 b0_14 b0_15 : LL) : Nat → Int → Option (Bool)
 | 0, _ => none
 | m + 1, i => bif (decide (i < (Int.ofNat b0_12.length))) then bif (decide (0 ≤ i)) then (b0_12[i.toNat]?).bind fun r => bif (chk y6 r) then (F_r21_placed b0_0 b0_1 b0_2 b0_3 b0_4 b0_5 b0_6 b0_7 b0_8 b0_9 b0_10 b0_11 b0_12 b0_13 b0_14 b0_15 (cI r 0) (cI r 1) (cS r 2) (cI r 3) (cI r 4) (cI r 5) (cI r 6) (cI r 7) (cI r 8) (cI r 9) (roRows (AVal.ro 5 (cR r 10))) (roRows (AVal.ro 3 (cR r 11)))).bind fun t => bif (!t) then some true else
 G_r21_Validate_1 b0_0 b0_1 b0_2 b0_3 b0_4 b0_5 b0_6 b0_7 b0_8 b0_9 b0_10 b0_11 b0_12 b0_13 b0_14 b0_15 m (wr (i + 1)) else none else none else some false
def E47_1 (i b0_0 b0_1 b0_2 : Int) (b0_3 : Bool) (b0_4 : Int) (b0_5 b0_6 b0_7 : LL) (b0_8 b0_9 : Int) (b0_10 b0_11 b0_12 b0_13 b0_14 b0_15 : LL) : St := ⟨(.dead :: (.ref 16000 1 0 0) :: .dead :: .dead :: (i64 i) :: (d60 [])), [(16000, ⟨.box, 37, 16, [(GM b0_0 b0_1 b0_2 b0_3 b0_4 b0_5 b0_6 b0_7 b0_8 b0_9 b0_10 b0_11 b0_12 b0_13 b0_14 b0_15)]⟩)]⟩
def X47_1 (b0_0 b0_1 b0_2 : Int) (b0_3 : Bool) (b0_4 : Int) (b0_5 b0_6 b0_7 : LL) (b0_8 b0_9 : Int) (b0_10 b0_11 b0_12 b0_13 b0_14 b0_15 : LL) (k : KT) (t : Bool) : Option CR := bif t then k .ret ⟨(.dead :: .dead :: (.sc (.int .i64 9)) :: (d62 [])), []⟩ else k (.exit 2) ⟨(.dead :: (.ref 16000 1 0 0) :: (d63 [])), [(16000, ⟨.box, 37, 16, [(GM b0_0 b0_1 b0_2 b0_3 b0_4 b0_5 b0_6 b0_7 b0_8 b0_9 b0_10 b0_11 b0_12 b0_13 b0_14 b0_15)]⟩)]⟩
def ks47_1 : List SK := (.f .dead :: .f (.ref 16000 1 0 0) :: .f .dead :: .f .dead :: .f (.int .i64) :: (f60 []))
noncomputable def Lm47_1 (s : St) (k : KT) : Option CR := bif chkS ks47_1 hs99_0 s then (G_r21_Validate_1 (aIh s 0 0) (aIh s 0 1) (aIh s 0 2) (aBh s 0 3) (aIh s 0 4) (aRh s 0 5) (aRh s 0 6) (aRh s 0 7) (aIh s 0 8) (aIh s 0 9) (aRh s 0 10) (aRh s 0 11) (aRh s 0 12) (aRh s 0 13) (aRh s 0 14) (aRh s 0 15) FU (sI s 4)).bind (X47_1 (aIh s 0 0) (aIh s 0 1) (aIh s 0 2) (aBh s 0 3) (aIh s 0 4) (aRh s 0 5) (aRh s 0 6) (aRh s 0 7) (aIh s 0 8) (aIh s 0 9) (aRh s 0 10) (aRh s 0 11) (aRh s 0 12) (aRh s 0 13) (aRh s 0 14) (aRh s 0 15) k) else none
def W47_2 : Ex → List Bool
 | .ret => (false :: false :: true :: (e62 []))
 | .exit n => bif Nat.beq n 4 then (false :: true :: (e63 [])) else []
 | .normal => []
noncomputable def G_r21_Validate_2 (b0_0 b0_1 b0_2 : Int) (b0_3 : Bool) (b0_4 : Int) (b0_5 b0_6 b0_7 : LL) (b0_8 b0_9 : Int) (b0_10 b0_11 b0_12 b0_13 b0_14 b0_15 : LL) : Nat → Int → Option (Bool)
 | 0, _ => none
 | m + 1, i => bif (decide (i < (Int.ofNat b0_12.length))) then bif (decide (0 ≤ i)) then (b0_12[i.toNat]?).bind fun r => bif (chk y6 r) then (F_r21_proper b0_0 b0_1 b0_2 b0_3 b0_4 b0_5 b0_6 b0_7 b0_8 b0_9 b0_10 b0_11 b0_12 b0_13 b0_14 b0_15 (cI r 0) (cI r 1) (cS r 2) (cI r 3) (cI r 4) (cI r 5) (cI r 6) (cI r 7) (cI r 8) (cI r 9) (roRows (AVal.ro 5 (cR r 10))) (roRows (AVal.ro 3 (cR r 11)))).bind fun t => bif (!t) then some true else
 G_r21_Validate_2 b0_0 b0_1 b0_2 b0_3 b0_4 b0_5 b0_6 b0_7 b0_8 b0_9 b0_10 b0_11 b0_12 b0_13 b0_14 b0_15 m (wr (i + 1)) else none else none else some false
def E47_2 (i b0_0 b0_1 b0_2 : Int) (b0_3 : Bool) (b0_4 : Int) (b0_5 b0_6 b0_7 : LL) (b0_8 b0_9 : Int) (b0_10 b0_11 b0_12 b0_13 b0_14 b0_15 : LL) : St := ⟨(.dead :: (.ref 16000 1 0 0) :: .dead :: .dead :: .dead :: (i64 i) :: (d59 [])), [(16000, ⟨.box, 37, 16, [(GM b0_0 b0_1 b0_2 b0_3 b0_4 b0_5 b0_6 b0_7 b0_8 b0_9 b0_10 b0_11 b0_12 b0_13 b0_14 b0_15)]⟩)]⟩
def X47_2 (b0_0 b0_1 b0_2 : Int) (b0_3 : Bool) (b0_4 : Int) (b0_5 b0_6 b0_7 : LL) (b0_8 b0_9 : Int) (b0_10 b0_11 b0_12 b0_13 b0_14 b0_15 : LL) (k : KT) (t : Bool) : Option CR := bif t then k .ret ⟨(.dead :: .dead :: (.sc (.int .i64 23)) :: (d62 [])), []⟩ else k (.exit 4) ⟨(.dead :: (.ref 16000 1 0 0) :: (d63 [])), [(16000, ⟨.box, 37, 16, [(GM b0_0 b0_1 b0_2 b0_3 b0_4 b0_5 b0_6 b0_7 b0_8 b0_9 b0_10 b0_11 b0_12 b0_13 b0_14 b0_15)]⟩)]⟩
noncomputable def Lm47_2 (s : St) (k : KT) : Option CR := bif chkS ks88_1 hs99_0 s then (G_r21_Validate_2 (aIh s 0 0) (aIh s 0 1) (aIh s 0 2) (aBh s 0 3) (aIh s 0 4) (aRh s 0 5) (aRh s 0 6) (aRh s 0 7) (aIh s 0 8) (aIh s 0 9) (aRh s 0 10) (aRh s 0 11) (aRh s 0 12) (aRh s 0 13) (aRh s 0 14) (aRh s 0 15) FU (sI s 5)).bind (X47_2 (aIh s 0 0) (aIh s 0 1) (aIh s 0 2) (aBh s 0 3) (aIh s 0 4) (aRh s 0 5) (aRh s 0 6) (aRh s 0 7) (aIh s 0 8) (aIh s 0 9) (aRh s 0 10) (aRh s 0 11) (aRh s 0 12) (aRh s 0 13) (aRh s 0 14) (aRh s 0 15) k) else none
noncomputable def L47 : LT' := fun i s k => bif Nat.beq i 0 then (Lm47_0 (maskS (maskOf ks88_0) s) k) else bif Nat.beq i 2 then (Lm47_1 (maskS (maskOf ks47_1) s) k) else bif Nat.beq i 4 then (Lm47_2 (maskS (maskOf ks88_1) s) k) else none
noncomputable def F_r21_Validate (zo zi zm : Int) (zl : Bool) (zp : Int) (ze zc zd : LL) (zk zj : Int) (zf zb za zn zg zh : LL) : Option (Int) := bif (decide ((Int.ofNat za.length) > 64)) then some 2 else (F_r21_formed zo zi zm zl zp ze zc zd zk zj zf zb za zn zg zh).bind fun t => bif (!t) then some 1 else (G_r21_Validate_0 zo zi zm zl zp ze zc zd zk zj zf zb za zn zg zh FU 0).bind fun t1 => bif t1 then some 8 else (G_r21_Validate_1 zo zi zm zl zp ze zc zd zk zj zf zb za zn zg zh FU 0).bind fun t2 => bif t2 then some 9 else (G_r21_Validate_2 zo zi zm zl zp ze zc zd zk zj zf zb za zn zg zh FU 0).bind fun t3 => bif t3 then some 23 else (F_r21_Bodies ze zc zd za).bind fun t4 => (F_r19_Separated t4).bind fun t5 => bif (!t5) then some 23 else some 0
noncomputable def A47 (us : List AVal) := F_r21_Validate (aI us 0 0) (aI us 0 1) (aI us 0 2) (aB us 0 3) (aI us 0 4) (aR us 0 5) (aR us 0 6) (aR us 0 7) (aI us 0 8) (aI us 0 9) (aR us 0 10) (aR us 0 11) (aR us 0 12) (aR us 0 13) (aR us 0 14) (aR us 0 15)
noncomputable def C47 := AI.ext 47 (SM ks99 A47 enc44) C103
@[reducible] noncomputable def B47_0 := bodyOf TT TU GL0 C103 ownF L47 (lp Tryz.f47 0)
theorem spec47_0 (k : KT) : ∀ (m : Nat) (i b0_0 b0_1 b0_2 : Int) (b0_3 : Bool) (b0_4 : Int) (b0_5 b0_6 b0_7 : LL) (b0_8 b0_9 : Int) (b0_10 b0_11 b0_12 b0_13 b0_14 b0_15 : LL), loopN B47_0 m (E47_0 i b0_0 b0_1 b0_2 b0_3 b0_4 b0_5 b0_6 b0_7 b0_8 b0_9 b0_10 b0_11 b0_12 b0_13 b0_14 b0_15) (KW W88_0 k) = (G_r21_Validate_0 b0_0 b0_1 b0_2 b0_3 b0_4 b0_5 b0_6 b0_7 b0_8 b0_9 b0_10 b0_11 b0_12 b0_13 b0_14 b0_15 m i).bind (X47_0 b0_0 b0_1 b0_2 b0_3 b0_4 b0_5 b0_6 b0_7 b0_8 b0_9 b0_10 b0_11 b0_12 b0_13 b0_14 b0_15 k)
 | 0, _, _, _, _, _, _, _, _, _, _, _, _, _, _, _, _, _ => rfl
 | m + 1, i, b0_0, b0_1, b0_2, b0_3, b0_4, b0_5, b0_6, b0_7, b0_8, b0_9, b0_10, b0_11, b0_12, b0_13, b0_14, b0_15 =>
 Eq.trans (by kernel_rfl) (nd rfl (nd rfl (nb fun r => (nd rfl (nb fun t => (nd rfl rfl (spec47_0 k m (wr (i + 1)) b0_0 b0_1 b0_2 b0_3 b0_4 b0_5 b0_6 b0_7 b0_8 b0_9 b0_10 b0_11 b0_12 b0_13 b0_14 b0_15))) rfl)) rfl) rfl)
theorem okL47_0 : LoopOk TT TU GL0 C103 ownF L47 (lp Tryz.f47 0) :=
 loopOk_of ks88_0 hs99_0 W88_0 FU _ (fun s k => by kernel_rfl) (fun s k => spec47_0 k FU (sI s 3) (aIh s 0 0) (aIh s 0 1) (aIh s 0 2) (aBh s 0 3) (aIh s 0 4) (aRh s 0 5) (aRh s 0 6) (aRh s 0 7) (aIh s 0 8) (aIh s 0 9) (aRh s 0 10) (aRh s 0 11) (aRh s 0 12) (aRh s 0 13) (aRh s 0 14) (aRh s 0 15))
@[reducible] noncomputable def B47_1 := bodyOf TT TU GL0 C103 ownF L47 (lp Tryz.f47 1)
theorem spec47_1 (k : KT) : ∀ (m : Nat) (i b0_0 b0_1 b0_2 : Int) (b0_3 : Bool) (b0_4 : Int) (b0_5 b0_6 b0_7 : LL) (b0_8 b0_9 : Int) (b0_10 b0_11 b0_12 b0_13 b0_14 b0_15 : LL), loopN B47_1 m (E47_1 i b0_0 b0_1 b0_2 b0_3 b0_4 b0_5 b0_6 b0_7 b0_8 b0_9 b0_10 b0_11 b0_12 b0_13 b0_14 b0_15) (KW W47_1 k) = (G_r21_Validate_1 b0_0 b0_1 b0_2 b0_3 b0_4 b0_5 b0_6 b0_7 b0_8 b0_9 b0_10 b0_11 b0_12 b0_13 b0_14 b0_15 m i).bind (X47_1 b0_0 b0_1 b0_2 b0_3 b0_4 b0_5 b0_6 b0_7 b0_8 b0_9 b0_10 b0_11 b0_12 b0_13 b0_14 b0_15 k)
 | 0, _, _, _, _, _, _, _, _, _, _, _, _, _, _, _, _, _ => rfl
 | m + 1, i, b0_0, b0_1, b0_2, b0_3, b0_4, b0_5, b0_6, b0_7, b0_8, b0_9, b0_10, b0_11, b0_12, b0_13, b0_14, b0_15 =>
 Eq.trans (by kernel_rfl) (nd rfl (nd rfl (nb fun r => (nd rfl (nb fun t => (nd rfl rfl (spec47_1 k m (wr (i + 1)) b0_0 b0_1 b0_2 b0_3 b0_4 b0_5 b0_6 b0_7 b0_8 b0_9 b0_10 b0_11 b0_12 b0_13 b0_14 b0_15))) rfl)) rfl) rfl)
theorem okL47_1 : LoopOk TT TU GL0 C103 ownF L47 (lp Tryz.f47 1) :=
 loopOk_of ks47_1 hs99_0 W47_1 FU _ (fun s k => by kernel_rfl) (fun s k => spec47_1 k FU (sI s 4) (aIh s 0 0) (aIh s 0 1) (aIh s 0 2) (aBh s 0 3) (aIh s 0 4) (aRh s 0 5) (aRh s 0 6) (aRh s 0 7) (aIh s 0 8) (aIh s 0 9) (aRh s 0 10) (aRh s 0 11) (aRh s 0 12) (aRh s 0 13) (aRh s 0 14) (aRh s 0 15))
@[reducible] noncomputable def B47_2 := bodyOf TT TU GL0 C103 ownF L47 (lp Tryz.f47 2)
theorem spec47_2 (k : KT) : ∀ (m : Nat) (i b0_0 b0_1 b0_2 : Int) (b0_3 : Bool) (b0_4 : Int) (b0_5 b0_6 b0_7 : LL) (b0_8 b0_9 : Int) (b0_10 b0_11 b0_12 b0_13 b0_14 b0_15 : LL), loopN B47_2 m (E47_2 i b0_0 b0_1 b0_2 b0_3 b0_4 b0_5 b0_6 b0_7 b0_8 b0_9 b0_10 b0_11 b0_12 b0_13 b0_14 b0_15) (KW W47_2 k) = (G_r21_Validate_2 b0_0 b0_1 b0_2 b0_3 b0_4 b0_5 b0_6 b0_7 b0_8 b0_9 b0_10 b0_11 b0_12 b0_13 b0_14 b0_15 m i).bind (X47_2 b0_0 b0_1 b0_2 b0_3 b0_4 b0_5 b0_6 b0_7 b0_8 b0_9 b0_10 b0_11 b0_12 b0_13 b0_14 b0_15 k)
 | 0, _, _, _, _, _, _, _, _, _, _, _, _, _, _, _, _, _ => rfl
 | m + 1, i, b0_0, b0_1, b0_2, b0_3, b0_4, b0_5, b0_6, b0_7, b0_8, b0_9, b0_10, b0_11, b0_12, b0_13, b0_14, b0_15 =>
 Eq.trans (by kernel_rfl) (nd rfl (nd rfl (nb fun r => (nd rfl (nb fun t => (nd rfl rfl (spec47_2 k m (wr (i + 1)) b0_0 b0_1 b0_2 b0_3 b0_4 b0_5 b0_6 b0_7 b0_8 b0_9 b0_10 b0_11 b0_12 b0_13 b0_14 b0_15))) rfl)) rfl) rfl)
theorem okL47_2 : LoopOk TT TU GL0 C103 ownF L47 (lp Tryz.f47 2) :=
 loopOk_of ks88_1 hs99_0 W47_2 FU _ (fun s k => by kernel_rfl) (fun s k => spec47_2 k FU (sI s 5) (aIh s 0 0) (aIh s 0 1) (aIh s 0 2) (aBh s 0 3) (aIh s 0 4) (aRh s 0 5) (aRh s 0 6) (aRh s 0 7) (aIh s 0 8) (aIh s 0 9) (aRh s 0 10) (aRh s 0 11) (aRh s 0 12) (aRh s 0 13) (aRh s 0 14) (aRh s 0 15))
theorem run47 (zo zi zm : Int) (zl : Bool) (zp : Int) (ze zc zd : LL) (zk zj : Int) (zf zb za zn zg zh : LL) : fcall TT TU GL0 C103 ownF true L47 Tryz.f47 [(.agg (GM zo zi zm zl zp ze zc zd zk zj zf zb za zn zg zh))] = (F_r21_Validate zo zi zm zl zp ze zc zd zk zj zf zb za zn zg zh).bind fun t => some (enc44 t) :=
 Eq.trans (by kernel_rfl) (nd rfl rfl (nb fun t => (nd rfl rfl (nb fun t1 => (nd rfl rfl (nb fun t2 => (nd rfl rfl (nb fun t3 => (nd rfl rfl (nb fun t4 => (nu (v4 t4.length) (nu (vr t4) (nb fun t5 => (nd rfl rfl rfl))))))))))))))
theorem lib47 : Lib Tryz.prog GL0 C47 :=
 LF lib103 Tryz.func47 (by decide +kernel) (by kernel_rfl) true L47 (loops_of 3 (by kernel_rfl) (belowS (belowS (belowS below0 okL47_0) okL47_1) okL47_2)) (fun us => run47 _ _ _ _ _ _ _ _ _ _ _ _ _ _ _ _) (fun t => rfl)
def W22_0 : Ex → List Bool
 | .ret => (false :: false :: true :: (e79 []))
 | .exit n => bif Nat.beq n 0 then (e82 []) else []
 | .normal => []
noncomputable def G_r22_Sound_0 (b0_11 : LL) : Nat → Int → Option (Bool)
 | 0, _ => none
 | m + 1, i => bif (decide (i < (Int.ofNat b0_11.length))) then bif (decide (0 ≤ i)) then (b0_11[i.toNat]?).bind fun r => bif (chk y7 r) then bif (decide ((cI r 0) < 1)) then some true else bif (decide ((cI r 0) > 6)) then some true else bif (decide (i > 0)) then bif (decide (0 ≤ (wr (i - 1)))) then (b0_11[(wr (i - 1)).toNat]?).bind fun r1 => bif (chk y7 r1) then bif (decide ((cI r 0) ≤ (cI r1 0))) then some true else bif (decide ((cI r 2) < 0)) then some true else bif (decide ((cI r 2) > 1000000)) then some true else bif (decide ((cI r 3) < 0)) then some true else bif (decide ((cI r 3) > 1000000)) then some true else
 G_r22_Sound_0 b0_11 m (wr (i + 1)) else none else none else bif (decide ((cI r 2) < 0)) then some true else bif (decide ((cI r 2) > 1000000)) then some true else bif (decide ((cI r 3) < 0)) then some true else bif (decide ((cI r 3) > 1000000)) then some true else
 G_r22_Sound_0 b0_11 m (wr (i + 1)) else none else none else some false
def E22_0 (i b0_0 b0_1 b0_2 : Int) (b0_3 : Bool) (b0_4 : Int) (b0_5 b0_6 b0_7 : LL) (b0_8 b0_9 : Int) (b0_10 b0_11 b0_12 b0_13 b0_14 b0_15 : LL) : St := ⟨(.dead :: (.ref 16000 1 0 0) :: .dead :: (i64 i) :: (d78 [])), [(16000, ⟨.box, 37, 16, [(GM b0_0 b0_1 b0_2 b0_3 b0_4 b0_5 b0_6 b0_7 b0_8 b0_9 b0_10 b0_11 b0_12 b0_13 b0_14 b0_15)]⟩)]⟩
def X22_0 (k : KT) (t : Bool) : Option CR := bif t then k .ret ⟨(.dead :: .dead :: (bo false) :: (d79 [])), []⟩ else k (.exit 0) ⟨(d82 []), []⟩
def ks22_0 : List SK := (.f .dead :: .f (.ref 16000 1 0 0) :: .f .dead :: .f (.int .i64) :: (f78 []))
noncomputable def Lm22_0 (s : St) (k : KT) : Option CR := bif chkS ks22_0 hs99_0 s then (G_r22_Sound_0 (aRh s 0 11) FU (sI s 3)).bind (X22_0 k) else none
noncomputable def L22 : LT' := fun i s k => bif Nat.beq i 0 then (Lm22_0 (maskS (maskOf ks22_0) s) k) else none
noncomputable def F_r22_Sound (zo zi zm : Int) (zl : Bool) (zp : Int) (ze zc zd : LL) (zk zj : Int) (zf zb za zn zg zh : LL) : Option (Bool) := (F_r09_Validate ze zc zd).bind fun t => bif (t != 0) then some false else (F_r07_Valid zk zj zf).bind fun t1 => bif (!t1) then some false else bif (decide ((Int.ofNat zb.length) > 6)) then some false else (F_r21_Validate zo zi zm zl zp ze zc zd zk zj zf zb za zn zg zh).bind fun t2 => bif (t2 != 0) then some false else (G_r22_Sound_0 zb FU 0).bind fun t3 => bif t3 then some false else some true
noncomputable def A22 (us : List AVal) := F_r22_Sound (aI us 0 0) (aI us 0 1) (aI us 0 2) (aB us 0 3) (aI us 0 4) (aR us 0 5) (aR us 0 6) (aR us 0 7) (aI us 0 8) (aI us 0 9) (aR us 0 10) (aR us 0 11) (aR us 0 12) (aR us 0 13) (aR us 0 14) (aR us 0 15)
noncomputable def C22 := AI.ext 22 (SM ks99 A22 enc20) C47
@[reducible] noncomputable def B22_0 := bodyOf TT TU GL0 C47 ownF L22 (lp Tryz.f22 0)
theorem spec22_0 (k : KT) : ∀ (m : Nat) (i b0_0 b0_1 b0_2 : Int) (b0_3 : Bool) (b0_4 : Int) (b0_5 b0_6 b0_7 : LL) (b0_8 b0_9 : Int) (b0_10 b0_11 b0_12 b0_13 b0_14 b0_15 : LL), loopN B22_0 m (E22_0 i b0_0 b0_1 b0_2 b0_3 b0_4 b0_5 b0_6 b0_7 b0_8 b0_9 b0_10 b0_11 b0_12 b0_13 b0_14 b0_15) (KW W22_0 k) = (G_r22_Sound_0 b0_11 m i).bind (X22_0 k)
 | 0, _, _, _, _, _, _, _, _, _, _, _, _, _, _, _, _, _ => rfl
 | m + 1, i, b0_0, b0_1, b0_2, b0_3, b0_4, b0_5, b0_6, b0_7, b0_8, b0_9, b0_10, b0_11, b0_12, b0_13, b0_14, b0_15 =>
 Eq.trans (by kernel_rfl) (nd rfl (nd rfl (nb fun r => (nd rfl (nd rfl rfl (nd rfl rfl (nd rfl (nd rfl (nb fun r1 => (nd rfl (nd rfl rfl (nd rfl rfl (nd rfl rfl (nd rfl rfl (nd rfl rfl (spec22_0 k m (wr (i + 1)) b0_0 b0_1 b0_2 b0_3 b0_4 b0_5 b0_6 b0_7 b0_8 b0_9 b0_10 b0_11 b0_12 b0_13 b0_14 b0_15)))))) rfl)) rfl) (nd rfl rfl (nd rfl rfl (nd rfl rfl (nd rfl rfl (spec22_0 k m (wr (i + 1)) b0_0 b0_1 b0_2 b0_3 b0_4 b0_5 b0_6 b0_7 b0_8 b0_9 b0_10 b0_11 b0_12 b0_13 b0_14 b0_15)))))))) rfl)) rfl) rfl)
theorem okL22_0 : LoopOk TT TU GL0 C47 ownF L22 (lp Tryz.f22 0) :=
 loopOk_of ks22_0 hs99_0 W22_0 FU _ (fun s k => by kernel_rfl) (fun s k => spec22_0 k FU (sI s 3) (aIh s 0 0) (aIh s 0 1) (aIh s 0 2) (aBh s 0 3) (aIh s 0 4) (aRh s 0 5) (aRh s 0 6) (aRh s 0 7) (aIh s 0 8) (aIh s 0 9) (aRh s 0 10) (aRh s 0 11) (aRh s 0 12) (aRh s 0 13) (aRh s 0 14) (aRh s 0 15))
theorem run22 (zo zi zm : Int) (zl : Bool) (zp : Int) (ze zc zd : LL) (zk zj : Int) (zf zb za zn zg zh : LL) : fcall TT TU GL0 C47 ownF true L22 Tryz.f22 [(.agg (GM zo zi zm zl zp ze zc zd zk zj zf zb za zn zg zh))] = (F_r22_Sound zo zi zm zl zp ze zc zd zk zj zf zb za zn zg zh).bind fun t => some (enc20 t) :=
 Eq.trans (by kernel_rfl) (nb fun t => (nd rfl rfl (nb fun t1 => (nd rfl rfl (nd rfl rfl (nb fun t2 => (nd rfl rfl (nb fun t3 => (nd rfl rfl rfl)))))))))
theorem lib22 : Lib Tryz.prog GL0 C22 :=
 LF lib47 Tryz.func22 (by decide +kernel) (by kernel_rfl) true L22 (loops_of 1 (by kernel_rfl) (belowS below0 okL22_0)) (fun us => run22 _ _ _ _ _ _ _ _ _ _ _ _ _ _ _ _) (fun t => rfl)
def W8_0 : Ex → List Bool
 | .ret => (false :: false :: true :: (e93 []))
 | .exit n => bif Nat.beq n 0 then (false :: true :: (e94 [])) else []
 | .normal => []
noncomputable def G_l22_Small_0 (b0_11 : LL) : Nat → Int → Option (Bool)
 | 0, _ => none
 | m + 1, i => bif (decide (i < (Int.ofNat b0_11.length))) then bif (decide (0 ≤ i)) then (b0_11[i.toNat]?).bind fun r => bif (chk y7 r) then bif (decide ((Int.ofNat (cR r 4).length) > 40)) then some true else (b0_11[i.toNat]?).bind fun r1 => bif (chk y7 r1) then (F_l22_huge (roRows (AVal.ro 1 (cR r1 4)))).bind fun t => bif t then some true else
 G_l22_Small_0 b0_11 m (wr (i + 1)) else none else none else none else some false
def E8_0 (i b0_0 b0_1 b0_2 : Int) (b0_3 : Bool) (b0_4 : Int) (b0_5 b0_6 b0_7 : LL) (b0_8 b0_9 : Int) (b0_10 b0_11 b0_12 b0_13 b0_14 b0_15 : LL) : St := ⟨(.dead :: (.ref 16000 1 0 0) :: .dead :: (i64 i) :: (d92 [])), [(16000, ⟨.box, 37, 16, [(GM b0_0 b0_1 b0_2 b0_3 b0_4 b0_5 b0_6 b0_7 b0_8 b0_9 b0_10 b0_11 b0_12 b0_13 b0_14 b0_15)]⟩)]⟩
def X8_0 (b0_0 b0_1 b0_2 : Int) (b0_3 : Bool) (b0_4 : Int) (b0_5 b0_6 b0_7 : LL) (b0_8 b0_9 : Int) (b0_10 b0_11 b0_12 b0_13 b0_14 b0_15 : LL) (k : KT) (t : Bool) : Option CR := bif t then k .ret ⟨(.dead :: .dead :: (bo false) :: (d93 [])), []⟩ else k (.exit 0) ⟨(.dead :: (.ref 16000 1 0 0) :: (d94 [])), [(16000, ⟨.box, 37, 16, [(GM b0_0 b0_1 b0_2 b0_3 b0_4 b0_5 b0_6 b0_7 b0_8 b0_9 b0_10 b0_11 b0_12 b0_13 b0_14 b0_15)]⟩)]⟩
def ks8_0 : List SK := (.f .dead :: .f (.ref 16000 1 0 0) :: .f .dead :: .f (.int .i64) :: (f92 []))
noncomputable def Lm8_0 (s : St) (k : KT) : Option CR := bif chkS ks8_0 hs99_0 s then (G_l22_Small_0 (aRh s 0 11) FU (sI s 3)).bind (X8_0 (aIh s 0 0) (aIh s 0 1) (aIh s 0 2) (aBh s 0 3) (aIh s 0 4) (aRh s 0 5) (aRh s 0 6) (aRh s 0 7) (aIh s 0 8) (aIh s 0 9) (aRh s 0 10) (aRh s 0 11) (aRh s 0 12) (aRh s 0 13) (aRh s 0 14) (aRh s 0 15) k) else none
def W8_1 : Ex → List Bool
 | .ret => (false :: false :: true :: (e93 []))
 | .exit n => bif Nat.beq n 2 then (false :: true :: (e94 [])) else []
 | .normal => []
noncomputable def G_l22_Small_1 (b0_12 : LL) : Nat → Int → Option (Bool)
 | 0, _ => none
 | m + 1, i => bif (decide (i < (Int.ofNat b0_12.length))) then bif (decide (0 ≤ i)) then (b0_12[i.toNat]?).bind fun r => bif (chk y6 r) then bif (decide ((Int.ofNat (cR r 10).length) > 20)) then some true else (b0_12[i.toNat]?).bind fun r1 => bif (chk y6 r1) then bif (decide ((Int.ofNat (cR r1 11).length) > 20)) then some true else
 G_l22_Small_1 b0_12 m (wr (i + 1)) else none else none else none else some false
def E8_1 (i b0_0 b0_1 b0_2 : Int) (b0_3 : Bool) (b0_4 : Int) (b0_5 b0_6 b0_7 : LL) (b0_8 b0_9 : Int) (b0_10 b0_11 b0_12 b0_13 b0_14 b0_15 : LL) : St := ⟨(.dead :: (.ref 16000 1 0 0) :: .dead :: .dead :: (i64 i) :: (d91 [])), [(16000, ⟨.box, 37, 16, [(GM b0_0 b0_1 b0_2 b0_3 b0_4 b0_5 b0_6 b0_7 b0_8 b0_9 b0_10 b0_11 b0_12 b0_13 b0_14 b0_15)]⟩)]⟩
def X8_1 (b0_0 b0_1 b0_2 : Int) (b0_3 : Bool) (b0_4 : Int) (b0_5 b0_6 b0_7 : LL) (b0_8 b0_9 : Int) (b0_10 b0_11 b0_12 b0_13 b0_14 b0_15 : LL) (k : KT) (t : Bool) : Option CR := bif t then k .ret ⟨(.dead :: .dead :: (bo false) :: (d93 [])), []⟩ else k (.exit 2) ⟨(.dead :: (.ref 16000 1 0 0) :: (d94 [])), [(16000, ⟨.box, 37, 16, [(GM b0_0 b0_1 b0_2 b0_3 b0_4 b0_5 b0_6 b0_7 b0_8 b0_9 b0_10 b0_11 b0_12 b0_13 b0_14 b0_15)]⟩)]⟩
def ks8_1 : List SK := (.f .dead :: .f (.ref 16000 1 0 0) :: .f .dead :: .f .dead :: .f (.int .i64) :: (f91 []))
noncomputable def Lm8_1 (s : St) (k : KT) : Option CR := bif chkS ks8_1 hs99_0 s then (G_l22_Small_1 (aRh s 0 12) FU (sI s 4)).bind (X8_1 (aIh s 0 0) (aIh s 0 1) (aIh s 0 2) (aBh s 0 3) (aIh s 0 4) (aRh s 0 5) (aRh s 0 6) (aRh s 0 7) (aIh s 0 8) (aIh s 0 9) (aRh s 0 10) (aRh s 0 11) (aRh s 0 12) (aRh s 0 13) (aRh s 0 14) (aRh s 0 15) k) else none
noncomputable def L8 : LT' := fun i s k => bif Nat.beq i 0 then (Lm8_0 (maskS (maskOf ks8_0) s) k) else bif Nat.beq i 2 then (Lm8_1 (maskS (maskOf ks8_1) s) k) else none
noncomputable def F_l22_Small (zo zi zm : Int) (zl : Bool) (zp : Int) (ze zc zd : LL) (zk zj : Int) (zf zb za zn zg zh : LL) : Option (Bool) := bif (decide ((Int.ofNat zf.length) > 400)) then some false else bif (decide ((Int.ofNat za.length) > 24)) then some false else bif (decide ((Int.ofNat zb.length) > 6)) then some false else bif (decide ((Int.ofNat zn.length) > 100)) then some false else bif (decide ((Int.ofNat zg.length) > 20)) then some false else bif (decide ((Int.ofNat zh.length) > 20)) then some false else (F_l10_Huge ze zc zd).bind fun t => bif t then some false else (G_l22_Small_0 zb FU 0).bind fun t1 => bif t1 then some false else (G_l22_Small_1 za FU 0).bind fun t2 => bif t2 then some false else (F_r22_Sound zo zi zm zl zp ze zc zd zk zj zf zb za zn zg zh).bind fun t3 => some t3
noncomputable def A8 (us : List AVal) := F_l22_Small (aI us 0 0) (aI us 0 1) (aI us 0 2) (aB us 0 3) (aI us 0 4) (aR us 0 5) (aR us 0 6) (aR us 0 7) (aI us 0 8) (aI us 0 9) (aR us 0 10) (aR us 0 11) (aR us 0 12) (aR us 0 13) (aR us 0 14) (aR us 0 15)
noncomputable def C8 := AI.ext 8 (SM ks99 A8 enc20) C22
@[reducible] noncomputable def B8_0 := bodyOf TT TU GL0 C22 ownF L8 (lp Tryz.f8 0)
theorem spec8_0 (k : KT) : ∀ (m : Nat) (i b0_0 b0_1 b0_2 : Int) (b0_3 : Bool) (b0_4 : Int) (b0_5 b0_6 b0_7 : LL) (b0_8 b0_9 : Int) (b0_10 b0_11 b0_12 b0_13 b0_14 b0_15 : LL), loopN B8_0 m (E8_0 i b0_0 b0_1 b0_2 b0_3 b0_4 b0_5 b0_6 b0_7 b0_8 b0_9 b0_10 b0_11 b0_12 b0_13 b0_14 b0_15) (KW W8_0 k) = (G_l22_Small_0 b0_11 m i).bind (X8_0 b0_0 b0_1 b0_2 b0_3 b0_4 b0_5 b0_6 b0_7 b0_8 b0_9 b0_10 b0_11 b0_12 b0_13 b0_14 b0_15 k)
 | 0, _, _, _, _, _, _, _, _, _, _, _, _, _, _, _, _, _ => rfl
 | m + 1, i, b0_0, b0_1, b0_2, b0_3, b0_4, b0_5, b0_6, b0_7, b0_8, b0_9, b0_10, b0_11, b0_12, b0_13, b0_14, b0_15 =>
 Eq.trans (by kernel_rfl) (nd rfl (nc rfl (fun h1 => (nb fun r => (nd rfl (nd rfl rfl (nu h1 (nb fun r1 => (nd rfl (nb fun t => (nd rfl rfl (spec8_0 k m (wr (i + 1)) b0_0 b0_1 b0_2 b0_3 b0_4 b0_5 b0_6 b0_7 b0_8 b0_9 b0_10 b0_11 b0_12 b0_13 b0_14 b0_15))) rfl)))) rfl))) fun h1 => rfl) rfl)
theorem okL8_0 : LoopOk TT TU GL0 C22 ownF L8 (lp Tryz.f8 0) :=
 loopOk_of ks8_0 hs99_0 W8_0 FU _ (fun s k => by kernel_rfl) (fun s k => spec8_0 k FU (sI s 3) (aIh s 0 0) (aIh s 0 1) (aIh s 0 2) (aBh s 0 3) (aIh s 0 4) (aRh s 0 5) (aRh s 0 6) (aRh s 0 7) (aIh s 0 8) (aIh s 0 9) (aRh s 0 10) (aRh s 0 11) (aRh s 0 12) (aRh s 0 13) (aRh s 0 14) (aRh s 0 15))
@[reducible] noncomputable def B8_1 := bodyOf TT TU GL0 C22 ownF L8 (lp Tryz.f8 1)
theorem spec8_1 (k : KT) : ∀ (m : Nat) (i b0_0 b0_1 b0_2 : Int) (b0_3 : Bool) (b0_4 : Int) (b0_5 b0_6 b0_7 : LL) (b0_8 b0_9 : Int) (b0_10 b0_11 b0_12 b0_13 b0_14 b0_15 : LL), loopN B8_1 m (E8_1 i b0_0 b0_1 b0_2 b0_3 b0_4 b0_5 b0_6 b0_7 b0_8 b0_9 b0_10 b0_11 b0_12 b0_13 b0_14 b0_15) (KW W8_1 k) = (G_l22_Small_1 b0_12 m i).bind (X8_1 b0_0 b0_1 b0_2 b0_3 b0_4 b0_5 b0_6 b0_7 b0_8 b0_9 b0_10 b0_11 b0_12 b0_13 b0_14 b0_15 k)
 | 0, _, _, _, _, _, _, _, _, _, _, _, _, _, _, _, _, _ => rfl
 | m + 1, i, b0_0, b0_1, b0_2, b0_3, b0_4, b0_5, b0_6, b0_7, b0_8, b0_9, b0_10, b0_11, b0_12, b0_13, b0_14, b0_15 =>
 Eq.trans (by kernel_rfl) (nd rfl (nc rfl (fun h1 => (nb fun r => (nd rfl (nd rfl rfl (nu h1 (nb fun r1 => (nd rfl (nd rfl rfl (spec8_1 k m (wr (i + 1)) b0_0 b0_1 b0_2 b0_3 b0_4 b0_5 b0_6 b0_7 b0_8 b0_9 b0_10 b0_11 b0_12 b0_13 b0_14 b0_15)) rfl)))) rfl))) fun h1 => rfl) rfl)
theorem okL8_1 : LoopOk TT TU GL0 C22 ownF L8 (lp Tryz.f8 1) :=
 loopOk_of ks8_1 hs99_0 W8_1 FU _ (fun s k => by kernel_rfl) (fun s k => spec8_1 k FU (sI s 4) (aIh s 0 0) (aIh s 0 1) (aIh s 0 2) (aBh s 0 3) (aIh s 0 4) (aRh s 0 5) (aRh s 0 6) (aRh s 0 7) (aIh s 0 8) (aIh s 0 9) (aRh s 0 10) (aRh s 0 11) (aRh s 0 12) (aRh s 0 13) (aRh s 0 14) (aRh s 0 15))
theorem run8 (zo zi zm : Int) (zl : Bool) (zp : Int) (ze zc zd : LL) (zk zj : Int) (zf zb za zn zg zh : LL) : fcall TT TU GL0 C22 ownF true L8 Tryz.f8 [(.agg (GM zo zi zm zl zp ze zc zd zk zj zf zb za zn zg zh))] = (F_l22_Small zo zi zm zl zp ze zc zd zk zj zf zb za zn zg zh).bind fun t => some (enc20 t) :=
 Eq.trans (by kernel_rfl) (nd rfl rfl (nd rfl rfl (nd rfl rfl (nd rfl rfl (nd rfl rfl (nd rfl rfl (nb fun t => (nd rfl rfl (nb fun t1 => (nd rfl rfl (nb fun t2 => (nd rfl rfl (nb fun t3 => rfl)))))))))))))
theorem lib8 : Lib Tryz.prog GL0 C8 :=
 LF lib22 Tryz.func8 (by decide +kernel) (by kernel_rfl) true L8 (loops_of 2 (by kernel_rfl) (belowS (belowS below0 okL8_0) okL8_1)) (fun us => run8 _ _ _ _ _ _ _ _ _ _ _ _ _ _ _ _) (fun t => rfl)
def W48_0 : Ex → List Bool
 | .ret => (e4 (true :: (e19 [])))
 | .exit n => bif Nat.beq n 0 then (e4 (true :: true :: (e18 []))) else []
 | .normal => []
noncomputable def G_l13_Flat_0 (w h : Int) : Nat → LL → Int → Option (LL)
 | 0, _, _ => none
 | m + 1, R2, i => bif (decide (i < (wr (w * h)))) then bif (roomOk (R2.length + 1) 24) then
 G_l13_Flat_0 w h m (R2 ++ [[(i64 1), (i64 0), (i64 0)]]) (wr (i + 1)) else none else some R2
def E48_0 (R0 R2 : LL) (w h i b1_0 b1_1 b3_0 b3_1 : Int) : St := ⟨((i64 w) :: (i64 h) :: .dead :: .dead :: (.ref 16000 1 0 0) :: (.ref 19248 1 0 0) :: (i64 i) :: (d17 [])), [(16003, ⟨.arr, 54, 3, R0⟩), (16000, ⟨.box, 30, 3, [[(i64 b1_0), (i64 b1_1), (.slc 16003 (R0).length)]]⟩), (19234, ⟨.arr, 54, 3, R2⟩), (19248, ⟨.box, 30, 3, [[(i64 b3_0), (i64 b3_1), (.slc 19234 (R2).length)]]⟩)]⟩
def X48_0 (R0 : LL) (b1_0 b1_1 b3_0 b3_1 : Int) (k : KT) (t : LL) : Option CR := k (.exit 0) ⟨(d4 ((.ref 16000 1 0 0) :: (.ref 19248 1 0 0) :: (d18 []))), [(16003, ⟨.arr, 54, 3, R0⟩), (16000, ⟨.box, 30, 3, [[(i64 b1_0), (i64 b1_1), (.slc 16003 (R0).length)]]⟩), (19234, ⟨.arr, 54, 3, t⟩), (19248, ⟨.box, 30, 3, [[(i64 b3_0), (i64 b3_1), (.slc 19234 (t).length)]]⟩)]⟩
def ks48_0 : List SK := (.f (.int .i64) :: .f (.int .i64) :: .f .dead :: .f .dead :: .f (.ref 16000 1 0 0) :: .f (.ref 19248 1 0 0) :: .f (.int .i64) :: (f17 []))
def hs48_0 : List HK := [⟨16003, .arr, 54, 3, none⟩, ⟨16000, .box, 30, 3, some [.int .i64, .int .i64, .slc 16003 0]⟩, ⟨19234, .arr, 54, 3, none⟩, ⟨19248, .box, 30, 3, some [.int .i64, .int .i64, .slc 19234 2]⟩]
noncomputable def Lm48_0 (s : St) (k : KT) : Option CR := bif chkS ks48_0 hs48_0 s then (G_l13_Flat_0 (sI s 0) (sI s 1) FU (blkAt s.heap 2).2.rows (sI s 6)).bind (X48_0 (blkAt s.heap 0).2.rows (aIh s 1 0) (aIh s 1 1) (aIh s 3 0) (aIh s 3 1) k) else none
noncomputable def L48 : LT' := fun i s k => bif Nat.beq i 0 then (Lm48_0 (maskS (maskOf ks48_0) s) k) else none
noncomputable def F_l13_Flat (w h : Int) : Option (LL × Int × Int) := (G_l13_Flat_0 w h FU [] 0).bind fun t => some (t, w, h)
def enc48 (t : LL × Int × Int) : CR := ⟨true, (.agg [(.sc (.int .i64 t.2.1)), (.sc (.int .i64 t.2.2)), (.slc 0 (t.1).length)]), [], [⟨.arr, 54, 3, t.1⟩]⟩
noncomputable def A48 (us : List AVal) := F_l13_Flat (toI (cIa us 0)) (toI (cIa us 1))
noncomputable def C48 := AI.ext 48 (SM ks149 A48 enc48) C8
@[reducible] noncomputable def B48_0 := bodyOf TT TU GL0 C8 ownE L48 (lp Tryz.f48 0)
theorem spec48_0 (k : KT) : ∀ (m : Nat) (R0 R2 : LL) (w h i b1_0 b1_1 b3_0 b3_1 : Int), loopN B48_0 m (E48_0 R0 R2 w h i b1_0 b1_1 b3_0 b3_1) (KW W48_0 k) = (G_l13_Flat_0 w h m R2 i).bind (X48_0 R0 b1_0 b1_1 b3_0 b3_1 k)
 | 0, _, _, _, _, _, _, _, _, _ => rfl
 | m + 1, R0, R2, w, h, i, b1_0, b1_1, b3_0, b3_1 =>
 Eq.trans (by kernel_rfl) (nd rfl (nd (show ((((verEq R2.length R2.length) && true) && (roomOk (R2.length + 1) 24))) = _ from (n_andL (n_andL (verEq_rfl _) rfl) rfl)) (spec48_0 k m R0 (R2 ++ [[(i64 1), (i64 0), (i64 0)]]) w h (wr (i + 1)) b1_0 b1_1 b3_0 b3_1) rfl) rfl)
theorem okL48_0 : LoopOk TT TU GL0 C8 ownE L48 (lp Tryz.f48 0) :=
 loopOk_of ks48_0 hs48_0 W48_0 FU _ (fun s k => by kernel_rfl) (fun s k => spec48_0 k FU (blkAt s.heap 0).2.rows (blkAt s.heap 2).2.rows (sI s 0) (sI s 1) (sI s 6) (aIh s 1 0) (aIh s 1 1) (aIh s 3 0) (aIh s 3 1))
theorem run48 (w h : Int) : fcall TT TU GL0 C8 ownE true L48 Tryz.f48 [(i64 w), (i64 h)] = (F_l13_Flat w h).bind fun t => some (enc48 t) :=
 Eq.trans (by kernel_rfl) (nb fun t => (nu (vr t) rfl))
theorem lib48 : Lib Tryz.prog GL0 C48 :=
 LF lib8 Tryz.func48 (by decide +kernel) (by kernel_rfl) true L48 (loops_of 1 (by kernel_rfl) (belowS below0 okL48_0)) (fun us => run48 _ _) (fun t => rfl)
noncomputable def F_l28_Mine : Option (LL × LL × LL × LL × LL × LL × LL × LL × LL × Int × Int × Int × Bool × Int × Int × Int) := (F_l13_Flat 4 4).bind fun t => bif (decide (6 < (Int.ofNat t.1.length))) then some ([[(AVal.sc (Value.string (ByteArray.mk (Array.mk [98, 97, 115, 101])))), (bo true), (bo true), (i64 0), (i64 2), (i64 2), (i64 0), (i64 0), (i64 4), (i64 90), (i64 0), (i64 0), (AVal.sc (Value.string (ByteArray.mk (Array.mk [])))), (i64 0), (i64 0), (i64 0), (AVal.ro 0 []), (AVal.ro 1 [[(AVal.sc (Value.string (ByteArray.mk (Array.mk [119, 111, 114, 107, 101, 114]))))]]), (AVal.ro 0 [])], [(AVal.sc (Value.string (ByteArray.mk (Array.mk [119, 111, 114, 107, 101, 114])))), (bo false), (bo false), (i64 1), (i64 0), (i64 0), (i64 40), (i64 90), (i64 4), (i64 20), (i64 0), (i64 12), (AVal.sc (Value.string (ByteArray.mk (Array.mk [])))), (i64 50), (i64 0), (i64 3), (AVal.ro 0 []), (AVal.ro 0 []), (AVal.ro 0 [])]], [], [], (List.set t.1 (6 : Int).toNat [(i64 5), (i64 0), (i64 9)]), [[(i64 1), (i64 1), (i64 60), (i64 0), (AVal.ro 0 []), (bo false)]], [[(i64 1), (i64 1), (AVal.sc (Value.string (ByteArray.mk (Array.mk [98, 97, 115, 101])))), (i64 256), (i64 256), (i64 90), (i64 0), (i64 0), (i64 0), (i64 0), (AVal.ro 0 []), (AVal.ro 0 [])], [(i64 2), (i64 1), (AVal.sc (Value.string (ByteArray.mk (Array.mk [119, 111, 114, 107, 101, 114])))), (i64 640), (i64 128), (i64 20), (i64 0), (i64 0), (i64 10), (i64 0), (AVal.ro 5 [[(i64 3), (i64 640), (i64 384), (i64 0), (AVal.sc (Value.string (ByteArray.mk (Array.mk []))))]]), (AVal.ro 0 [])]], [], [], [], 0, 3, 0, false, 0, t.2.1, t.2.2) else none
def enc23 (t : LL × LL × LL × LL × LL × LL × LL × LL × LL × Int × Int × Int × Bool × Int × Int × Int) : CR := ⟨true, (.agg [(.sc (.int .i64 t.2.2.2.2.2.2.2.2.2.1)), (.sc (.int .i64 t.2.2.2.2.2.2.2.2.2.2.1)), (.sc (.int .i64 t.2.2.2.2.2.2.2.2.2.2.2.1)), (.sc (.bool t.2.2.2.2.2.2.2.2.2.2.2.2.1)), (.sc (.int .u64 t.2.2.2.2.2.2.2.2.2.2.2.2.2.1)), (.slc 0 (t.1).length), (.slc 1 (t.2.1).length), (.slc 2 (t.2.2.1).length), (.sc (.int .i64 t.2.2.2.2.2.2.2.2.2.2.2.2.2.2.1)), (.sc (.int .i64 t.2.2.2.2.2.2.2.2.2.2.2.2.2.2.2)), (.slc 3 (t.2.2.2.1).length), (.slc 4 (t.2.2.2.2.1).length), (.slc 5 (t.2.2.2.2.2.1).length), (.slc 6 (t.2.2.2.2.2.2.1).length), (.slc 7 (t.2.2.2.2.2.2.2.1).length), (.slc 8 (t.2.2.2.2.2.2.2.2.1).length)]), [], [⟨.arr, 65, 19, t.1⟩, ⟨.arr, 96, 6, t.2.1⟩, ⟨.arr, 98, 8, t.2.2.1⟩, ⟨.arr, 54, 3, t.2.2.2.1⟩, ⟨.arr, 70, 6, t.2.2.2.2.1⟩, ⟨.arr, 60, 12, t.2.2.2.2.2.1⟩, ⟨.arr, 75, 9, t.2.2.2.2.2.2.1⟩, ⟨.arr, 116, 3, t.2.2.2.2.2.2.2.1⟩, ⟨.arr, 125, 4, t.2.2.2.2.2.2.2.2.1⟩]⟩
def ks23 : List SK := []
noncomputable def S23 (us : List AVal) : Call := bif chkA ks23 us then Call.of (F_l28_Mine) enc23 else Call.none
noncomputable def C23 := AI.ext 23 S23 C48
theorem run23 : fcall TT TU GL0 C48 ownF true noL Tryz.f23 [] = (F_l28_Mine).bind fun t => some (enc23 t) :=
 Eq.trans (by kernel_rfl) (nb fun t => (nu (v4 t.1.length) (nd (show ((((verEq t.1.length t.1.length) && (decide ((0 : Int) ≤ (6 : Int)))) && (decide (6 < (Int.ofNat t.1.length))))) = _ from (n_andL (n_andL (verEq_rfl _) (by kernel_rfl)) rfl)) (nu (v3 t.1.length) (nu (show (verEq (Blk.rows (Blk.mk BKind.arr 54 3 (List.set t.1 (6 : Int).toNat [(i64 5), (i64 0), (i64 9)]))).length t.1.length) = true from (by first | exact verEq_of rfl | simp [verEq, blkLen, blkAt])) rfl)) rfl)))
theorem lib23 : Lib Tryz.prog GL0 C23 :=
 Lib.fn lib48 mixed TT_ok Tryz.func23 (by decide +kernel) (by kernel_rfl) true noL (loops_of 0 (by kernel_rfl) below0) ks23 (F := fun us => F_l28_Mine) (fun us => rfl) (fun us => run23) (fun t => rfl)
end Go.Proofs.YtoiimiohobollaaGreat.AI
