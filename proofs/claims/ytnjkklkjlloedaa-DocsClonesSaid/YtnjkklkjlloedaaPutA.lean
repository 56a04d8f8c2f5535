/- code.number, text, part, Put, by the abstract machine; the Reader. -/
import Derived.Test.YtnjkklkjlloedaaPutK
import Derived.Test.YtnjkklkjlloedaaRdC
